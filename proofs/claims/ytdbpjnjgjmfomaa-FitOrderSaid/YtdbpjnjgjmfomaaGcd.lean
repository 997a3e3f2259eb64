/- The program's natural numbers, last part: Gcd. -/
import Derived.Test.YtdbpjnjgjmfomaaNat10
namespace Go.Proofs.Ytdbpjnjgjmfomaa
open Go.RowKit

set_option maxHeartbeats 4000000 in
set_option maxRecDepth 100000 in
theorem nat_Gcd {S T : Nat → Prop} {v u : Value} {a b : List Int} (w : World) (ha : NumV S w v a) (hb : NumV T w u b) (hm : a.length ≤ 35184372088830) (hm' : b.length ≤ 35184372088830) :
    Calls Try.prog 87 #[v, u] w fun e w' => ∃ r, e = .returned r ∧ NumV (New w) w' r (dig (Nat.gcd (nv a) (nv b))) ∧ Below w.heap.size w w' := by
  obtain ⟨hla, A, c, rfl, hc, hr⟩ := id ha
  obtain ⟨hlb, B, c', rfl, hc', hr'⟩ := id hb
  have HL : As ((dig (nv a)).length ≤ 35184372088830) := ⟨Nat.le_trans (dig_len_le hla) hm⟩
  have HL' : As ((dig (nv b)).length ≤ 35184372088830) := ⟨Nat.le_trans (dig_len_le hlb) hm'⟩
  go_enter Try.func87, Try.ntmps87
  go_wp2_with fail
  refine (nat_Norm _ ha (by omega)).mono ?_
  rintro e w1 ⟨v1, rfl, ho1, hb1⟩
  go_wp2_with fail
  refine (nat_Norm _ (hb.below hb1) (by omega)).mono ?_
  rintro e w2 ⟨v2, rfl, ho2, hb2⟩
  have n1 := (Own.new ho1 (Lim_dig _)).below hb2
  have n2 := (Own.new ho2 (Lim_dig _)).mono (T := New w) (fun k hk _ => Nat.le_trans hb1.size hk)
  have hb12 := hb1.after hb1.size hb2
  clear ho1 ho2 hb1 hb2 ha hb hr hr'
  go_wp2_with fail
  go_loopg [5, 6] (nv b) (fun g v5 v6 wr => ∃ X Y : Nat, NumV (New w) wr v5 (dig X) ∧ NumV (New w) wr v6 (dig Y) ∧ As (Nat.gcd X Y = Nat.gcd (nv a) (nv b) ∧ Y ≤ g ∧ (dig X).length ≤ 35184372088830 ∧ (dig Y).length ≤ 35184372088830) ∧ Below w.heap.size w wr)
  case atStart => exact ⟨nv a, nv b, n1, n2, ⟨rfl, Nat.le_refl _, HL.out, HL'.out⟩, hb12⟩
  case round =>
    clear n1 n2 hb12
    obtain ⟨X, Y, hx, hy, HI, hbel⟩ := hrel
    obtain ⟨_, A1, c1, rfl, hc1, _⟩ := id hx
    obtain ⟨_, B1, d1, rfl, hd1, _⟩ := id hy
    have hYL := HI.out.2.2.2
    obtain ⟨N, hN⟩ : ∃ N, (dig Y).length = N := ⟨_, rfl⟩
    rw [hN] at hYL hd1 ⊢
    rcases Nat.eq_zero_or_pos Y with h0 | h0
    · have : N = 0 := by rw [← hN, h0, dig_zero]; rfl
      subst this
      have hF := As.mk (show X = Nat.gcd (nv a) (nv b) by have := HI.out.1; rw [h0, Nat.gcd_zero_right] at this; exact this)
      clear HI hy hN h0
      go_wp2_with fail
      go_ret
      exact ⟨_, rfl, by rw [← hF.out]; exact hx, hbel⟩
    · have hN0 : 0 < N := by
        rcases Nat.eq_zero_or_pos N with h | h
        · rw [h, dig_nil_iff] at hN; omega
        · exact h
      have hXL := HI.out.2.2.1
      have hY := As.mk h0
      have hN' := As.mk hN
      clear hN h0
      go_wp2_with fail
      rw [← hN'.out]
      refine (nat_DivMod _ hx hy hXL (by rw [hN'.out]; exact hYL) (by rw [nv_dig]; exact hY.out)).mono ?_
      rintro e w4 ⟨q, r, rfl, hq, hr, hb4⟩
      rw [nv_dig, nv_dig] at hr
      have hy4 := hy.below hb4
      have hr4 := hr.mono (T := New w) (fun k hk _ => Nat.le_trans hbel.size hk)
      have hbel4 := hbel.after hbel.size hb4
      have HJ : As (Nat.gcd Y (X % Y) = Nat.gcd (nv a) (nv b) ∧ X % Y ≤ X % Y ∧ (dig Y).length ≤ 35184372088830 ∧ (dig (X % Y)).length ≤ 35184372088830) :=
        ⟨by rw [← HI.out.1, Nat.gcd_comm Y, ← Nat.gcd_rec, Nat.gcd_comm], Nat.le_refl _, HI.out.2.2.2, Nat.le_trans (dig_len_mono (Nat.le_of_lt (Nat.mod_lt _ hY.out))) HI.out.2.2.2⟩
      clear hx hy hq hr hb4 hbel
      go_wp2_with fail
      go_roundg (X % Y)
      case rel => exact ⟨Y, X % Y, hy4, hr4, HJ, hbel4⟩
      case measure => have := HI.out.2.1; have := Nat.mod_lt X hY.out; omega
end Go.Proofs.Ytdbpjnjgjmfomaa
