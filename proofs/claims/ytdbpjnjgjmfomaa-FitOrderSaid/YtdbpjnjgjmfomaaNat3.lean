/- The program's natural numbers, third part: Add. -/
import Derived.Test.YtdbpjnjgjmfomaaNatPure
namespace Go.Proofs.Ytdbpjnjgjmfomaa
open Go.RowKit

set_option maxHeartbeats 2000000 in
set_option maxRecDepth 100000 in
theorem nat_Add {S T : Nat → Prop} {v u : Value} {a b : List Int} (w : World) (ha : NumV S w v a) (hb : NumV T w u b) (hm : a.length ≤ 35184372088831) (hm' : b.length ≤ 35184372088831) :
    Calls Try.prog 91 #[v, u] w fun e w' => ∃ r, e = .returned r ∧ Own w' w.heap.size r (dig (nv a + nv b)) ∧ Below w.heap.size w w' := by
  obtain ⟨hla, A, c, rfl, hc, hr⟩ := id ha
  obtain ⟨hlb, B, c', rfl, hc', hr'⟩ := id hb
  have HL : (dig (nv a)).length ≤ 35184372088831 := Nat.le_trans (dig_len_le hla) hm
  have HL' : (dig (nv b)).length ≤ 35184372088831 := Nat.le_trans (dig_len_le hlb) hm'
  have HA := ha.trim
  have HB := hb.trim
  go_enter Try.func91, Try.ntmps91
  go_wp2_with fail
  refine (nat_trim _ ha (by omega)).mono ?_
  rintro e w' ⟨rfl, ⟨m, rfl⟩⟩
  go_wp2_with fail
  refine (nat_trim _ (hb.drewN m) (by omega)).mono ?_
  rintro e w' ⟨rfl, ⟨m2, rfl⟩⟩
  rw [World.drewN_drewN]
  generalize m + m2 = m
  clear ha hb hr hr' hc hc'
  go_upto_if 19 with (fail)
  go_cut [5, 6] (fun v5 v6 wc => ∃ p q A B, v5 = .slice A (dig p).length (dig p).length ∧ v6 = .slice B (dig q).length (dig q).length ∧ NumV All w v5 (dig p) ∧ NumV All w v6 (dig q) ∧ As ((dig q).length ≤ (dig p).length ∧ p + q = nv a + nv b ∧ (dig p).length ≤ 35184372088831) ∧ Drawn w wc)
  case first =>
    rcases Nat.lt_or_ge (dig (nv a)).length (dig (nv b)).length with h | h
    · go_wp2_with fail
      go_meet
      case rel => exact ⟨_, _, _, _, rfl, rfl, HB.all, HA.all, ⟨by omega, by omega, HL'⟩, (Drawn.refl _).step _⟩
    · go_wp2_with fail
      go_meet
      case rel => exact ⟨_, _, _, _, rfl, rfl, HA.all, HB.all, ⟨by omega, by omega, HL⟩, (Drawn.refl _).step _⟩
  case rest =>
    obtain ⟨p, q, A', B', rfl, rfl, HP, HQ, HE, ⟨n, rfl⟩⟩ := hcut
    have HS := As.mk HE.out.2.1
    have h1 := HE.out.1
    have h2 := HE.out.2.2
    clear HA HB HL HL' HE hm hm'
    obtain ⟨P, hP⟩ : ∃ P, (dig p).length = P := ⟨_, rfl⟩
    obtain ⟨Q, hQ⟩ : ∃ Q, (dig q).length = Q := ⟨_, rfl⟩
    rw [hP, hQ] at h1
    rw [hP] at h2
    have HI : As (∀ c out, AddInv (dig p) (dig q) P c out → (c = 0 → out = dig (nv a + nv b)) ∧ (c ≠ 0 → out ++ [c % 4294967296] = dig (nv a + nv b))) := ⟨fun c out h => by
      subst hP hQ
      rw [← HS.out]
      exact h.done (by omega)⟩
    rw [hP] at HP ⊢
    rw [hQ] at HQ ⊢
    have hP := As.mk hP
    have hQ := As.mk hQ
    have hmk : ∀ W, (Instr.makeSlice 36 (.int .i64 0) (.int .i64 ((P : Int) + 1))).run Try.prog W = .ok (.slice (some ⟨W.heap.size, 0, none⟩) 0 (P + 1)) (W.alloc (.cells (madeCells #[.int .u32 0] (P + 1)) 100)) :=
      fun W => make_nums 36 Try.underlying36 (by kernel_rfl) 0 (P + 1) (by omega) (by omega) W
    go_wp2_with fail
    clear hmk
    have HO := Own.room (w.drewN n) w.heap.size (P + 1) (by simp) (by omega)
    go_loopw [7, 8, 28] (fun v7 v8 v28 wr => ∃ (k : Nat) (x : Int) (out : List Int), k ≤ P ∧ v28 = .int .i64 k ∧ v8 = .int .u64 x ∧ As (AddInv (dig p) (dig q) k x out) ∧ Own wr w.heap.size v7 out ∧ Below w.heap.size w wr) (fun _ _ v28 _ => P - (intOf v28).toNat)
    case atStart => exact ⟨0, 0, [], by omega, rfl, rfl, ⟨AddInv.zero _ _⟩, HO, ((Below.refl _ _).drewsN _).alloc (by simp) _⟩
    case round =>
      obtain ⟨k, x, out, hk, rfl, rfl, HJ, hown, hbel⟩ := hrel
      have hx0 := HJ.out.2.2.1
      have hx1 := HJ.out.2.2.2.1
      by_cases hlt : k < P
      · have hP' := hP.out
        have hQ' := hQ.out
        obtain ⟨ad, hA, hca⟩ := (HP.below hbel).at k (by omega)
        subst hA
        have hX := Lim.get (Lim_dig p) k
        have hlen := HJ.out.1
        by_cases hq : k < Q
        · obtain ⟨bd, hB, hcb⟩ := (HQ.below hbel).at k (by omega)
          subst hB
          have hY := Lim.get (Lim_dig q) k
          have HN := As.mk (fun t ht => HJ.out.step (t := t) ht (Lim_dig p) (Lim_dig q))
          generalize (dig p).getD k 0 = X at *
          generalize (dig q).getD k 0 = Y at *
          have hlen := As.mk hlen
          clear hP' hQ' HJ
          go_wp2_with (at_builtin; refine append_num (w0 := w) w.heap.size rfl _ _ 36 out _ rfl Try.underlying36 (by kernel_rfl) _ rfl rfl hown hbel (by have := hbel.size; omega) (by have := hlen.out; omega) ?_; intro v1 w1 hown1 hb1 _ _)
          rw [and_mod _ (by omega) (by omega)] at hown1
          go_roundw
          case rel => exact ⟨k + 1, _, _, hlt, by go_num, rfl, ⟨HN.out _ rfl⟩, hown1, hb1⟩
          case measure => simp [intOf]; omega
        · have hY : (dig q).getD k 0 = 0 := getD_ge _ _ (by omega)
          have HN := As.mk (fun t ht => HJ.out.step (t := t) ht (Lim_dig p) (Lim_dig q))
          rw [hY] at HN
          generalize (dig p).getD k 0 = X at *
          have hlen := As.mk hlen
          clear hP' hQ' HJ hY
          go_wp2_with (at_builtin; refine append_num (w0 := w) w.heap.size rfl _ _ 36 out _ rfl Try.underlying36 (by kernel_rfl) _ rfl rfl hown hbel (by have := hbel.size; omega) (by have := hlen.out; omega) ?_; intro v1 w1 hown1 hb1 _ _)
          rw [and_mod _ (by omega) (by omega)] at hown1
          go_roundw
          case rel => exact ⟨k + 1, _, _, hlt, by go_num, rfl, ⟨HN.out _ (by omega)⟩, hown1, hb1⟩
          case measure => simp [intOf]; omega
      · obtain rfl : k = P := by omega
        have hF := HI.out x out HJ.out
        have hlen := As.mk HJ.out.1
        clear HJ HI
        by_cases hx : x = 0
        · have hG := As.mk (hF.1 hx)
          clear hF
          subst hx
          go_wp2_with fail
          go_ret
          exact ⟨_, rfl, by rw [← hG.out]; exact hown, hbel⟩
        · have hF := hF.2 hx
          rw [show x % 4294967296 = x from by omega] at hF
          have hF := As.mk hF
          go_wp2_with (at_builtin; refine append_num (w0 := w) w.heap.size rfl _ _ 36 out _ rfl Try.underlying36 (by kernel_rfl) _ rfl rfl hown hbel (by have := hbel.size; omega) (by have := hlen.out; omega) ?_; intro v1 w1 hown1 hb1 _ _)
          go_ret
          exact ⟨_, rfl, by rw [← hF.out]; exact hown1, hb1⟩
end Go.Proofs.Ytdbpjnjgjmfomaa
