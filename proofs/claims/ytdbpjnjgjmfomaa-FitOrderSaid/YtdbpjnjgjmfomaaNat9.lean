/- The program's natural numbers, ninth part: DivMod, the small cases. -/
import Derived.Test.YtdbpjnjgjmfomaaNat8
import Derived.Test.YtdbpjnjgjmfomaaDivPure3
namespace Go.Proofs.Ytdbpjnjgjmfomaa
open Go.RowKit

abbrev New (w : World) : Nat → Prop := fun k => w.heap.size ≤ k
theorem Own.new {w w1 : World} {v : Value} {l : List Int} (h : Own w1 w.heap.size v l) (hl : Lim l) : NumV (New w) w1 v l := (h.num hl).mono (fun _ hk _ => hk.1)

set_option maxHeartbeats 2000000 in
set_option maxRecDepth 100000 in
theorem nat_DivMod_zero {S T : Nat → Prop} {v u : Value} {a b : List Int} (w : World) (ha : NumV S w v a) (hb : NumV T w u b) (hm : a.length ≤ 35184372088831) (hm' : b.length ≤ 35184372088831) (h0 : nv b = 0) :
    Calls Try.prog 89 #[v, u] w fun e w' => e = .returned (.tuple #[.slice none 0 0, .slice none 0 0, .bool false]) ∧ Below w.heap.size w w' := by
  obtain ⟨hla, A, c, rfl, hc, hr⟩ := id ha
  obtain ⟨hlb, B, c', rfl, hc', hr'⟩ := id hb
  have HL : (dig (nv a)).length ≤ 35184372088831 := Nat.le_trans (dig_len_le hla) hm
  have hB := As.mk (show dig (nv b) = [] by rw [h0, dig_zero])
  clear h0
  go_enter Try.func89, Try.ntmps89
  go_wp2_with fail
  refine (nat_trim _ ha (by omega)).mono ?_
  rintro e w' ⟨rfl, ⟨m, rfl⟩⟩
  go_wp2_with fail
  refine (nat_trim _ (hb.drewN m) (by omega)).mono ?_
  rintro e w' ⟨rfl, ⟨m2, rfl⟩⟩
  rw [hB.out]
  go_wp2_with fail
  go_ret3
  exact ⟨rfl, by repeat (first | exact Below.refl _ _ | apply Below.drewsN)⟩

set_option maxHeartbeats 2000000 in
set_option maxRecDepth 100000 in
theorem nat_DivMod_less {S T : Nat → Prop} {v u : Value} {a b : List Int} (w : World) (ha : NumV S w v a) (hb : NumV T w u b) (hm : a.length ≤ 35184372088831) (hm' : b.length ≤ 35184372088831) (h0 : nv a < nv b) :
    Calls Try.prog 89 #[v, u] w fun e w' => ∃ q r, e = .returned (.tuple #[q, r, .bool true]) ∧ NumV (New w) w' q (dig (nv a / nv b)) ∧ NumV (New w) w' r (dig (nv a % nv b)) ∧ Below w.heap.size w w' := by
  obtain ⟨hla, A, c, rfl, hc, hr⟩ := id ha
  obtain ⟨hlb, B, c', rfl, hc', hr'⟩ := id hb
  have HL : (dig (nv a)).length ≤ 35184372088831 := Nat.le_trans (dig_len_le hla) hm
  have HL' : (dig (nv b)).length ≤ 35184372088831 := Nat.le_trans (dig_len_le hlb) hm'
  have HA := ha.trim
  have HB := hb.trim
  have hC := As.mk (cmpI_neg h0)
  have hq := As.mk (show dig (nv a / nv b) = [] by rw [Nat.div_eq_of_lt h0, dig_zero])
  have hr2 := As.mk (show nv a % nv b = nv a from Nat.mod_eq_of_lt h0)
  obtain ⟨N, hN⟩ : ∃ N, (dig (nv b)).length = N := ⟨_, rfl⟩
  have hN0 : 0 < N := by
    rcases Nat.eq_zero_or_pos N with h | h
    · rw [h, dig_nil_iff] at hN; omega
    · exact h
  have hNb : ((N : Int) == 0) = false := beq_eq_false_iff_ne.2 (by omega)
  replace hN := As.mk hN
  clear h0
  go_enter Try.func89, Try.ntmps89
  go_wp2_with fail
  refine (nat_trim _ ha (by omega)).mono ?_
  rintro e w' ⟨rfl, ⟨m, rfl⟩⟩
  go_wp2_with fail
  refine (nat_trim _ (hb.drewN m) (by omega)).mono ?_
  rintro e w' ⟨rfl, ⟨m2, rfl⟩⟩
  rw [hN.out]
  go_wp2_with fail
  refine (nat_Cmp _ (HA.drewN _) (by rw [← hN.out]; exact HB.drewN _) (by omega) (by omega)).mono ?_
  rintro e w' ⟨rfl, ⟨m3, rfl⟩⟩
  rw [nv_dig, nv_dig, hC.out]
  go_wp2_with fail
  refine (nat_Norm _ (HA.drewN _) (by omega)).mono ?_
  rintro e w' ⟨v1, rfl, hown, hbel⟩
  rw [nv_dig] at hown
  go_wp2_with fail
  go_ret3
  exact ⟨_, _, rfl, by rw [hq.out]; exact NumV.nil _ _, by rw [hr2.out]; exact Own.new hown (Lim_dig _), ((Below.refl _ _).drewsN _).after (by simp) hbel⟩

theorem dig_one {b _x : Nat} (h : (dig b).length = 1) : 0 < (dig b).getD 0 0 ∧ (dig b).getD 0 0 < 4294967296 ∧ ((dig b).getD 0 0).toNat = b := by
  have h1 := dig_last_pos h
  have h2 := val_dig b
  rw [show dig b = [(dig b).getD 0 0] from by
    match hd : dig b, h with
    | [y], _ => rfl] at h2
  simp only [val] at h2
  omega
set_option maxHeartbeats 2000000 in
set_option maxRecDepth 100000 in
theorem nat_DivMod_one {S T : Nat → Prop} {v u : Value} {a b : List Int} (w : World) (ha : NumV S w v a) (hb : NumV T w u b) (hm : a.length ≤ 35184372088831) (hm' : b.length ≤ 35184372088831) (hle : nv b ≤ nv a) (h1 : (dig (nv b)).length = 1) :
    Calls Try.prog 89 #[v, u] w fun e w' => ∃ q r, e = .returned (.tuple #[q, r, .bool true]) ∧ NumV (New w) w' q (dig (nv a / nv b)) ∧ NumV (New w) w' r (dig (nv a % nv b)) ∧ Below w.heap.size w w' := by
  obtain ⟨hla, A, c, rfl, hc, hr⟩ := id ha
  obtain ⟨hlb, B, c', rfl, hc', hr'⟩ := id hb
  have HL : (dig (nv a)).length ≤ 35184372088831 := Nat.le_trans (dig_len_le hla) hm
  have HA := ha.trim
  have HB := hb.trim
  have hC := cmpI_nonneg hle
  have hC' := (cmpI_le (nv a) (nv b)).1
  obtain ⟨y0, y1, y2⟩ := dig_one (_x := 0) h1
  obtain ⟨bd, hB, hcb⟩ := HB.at 0 (by omega)
  subst hB
  obtain ⟨Y, hY⟩ : ∃ Y, (dig (nv b)).getD 0 0 = Y := ⟨_, rfl⟩
  rw [hY] at y0 y1 y2 hcb
  have hcb' : w.cell? bd = some (.int .u32 Y) := by simpa [Addr.add] using hcb
  obtain ⟨C, hCC⟩ : ∃ C, cmpI (nv a) (nv b) = C := ⟨_, rfl⟩
  rw [hCC] at hC hC'
  replace hCC := As.mk hCC
  replace y2 := As.mk y2
  replace h1 := As.mk h1
  clear hY hle
  go_enter Try.func89, Try.ntmps89
  go_wp2_with fail
  refine (nat_trim _ ha (by omega)).mono ?_
  rintro e w' ⟨rfl, ⟨m, rfl⟩⟩
  go_wp2_with fail
  refine (nat_trim _ (hb.drewN m) (by omega)).mono ?_
  rintro e w' ⟨rfl, ⟨m2, rfl⟩⟩
  rw [h1.out]
  go_wp2_with fail
  refine (nat_Cmp _ (HA.drewN _) (by rw [← h1.out]; exact HB.drewN _) (by omega) (by rw [h1.out]; omega)).mono ?_
  rintro e w' ⟨rfl, ⟨m3, rfl⟩⟩
  rw [nv_dig, nv_dig, hCC.out]
  go_wp2_with fail
  refine (nat_divSmall _ (HA.drewN _) (by omega) y0 y1).mono ?_
  rintro e w' ⟨q, r, rfl, hq, rfl, hb1⟩
  rw [nv_dig, y2.out] at hq
  rw [nv_dig, y2.out]
  have hR : nv a % nv b < 4294967296 := by
    have := Nat.mod_lt (nv a) (show 0 < nv b by have := y2.out; omega)
    have := y2.out
    omega
  obtain ⟨R, hRe⟩ : ∃ R, nv a % nv b = R := ⟨_, rfl⟩
  rw [hRe] at hR ⊢
  replace hRe := As.mk hRe
  go_wp2_with fail
  refine (nat_Of R _ (by omega)).mono ?_
  rintro e w2 ⟨r, rfl, hr2, hb2⟩
  go_wp2_with fail
  go_ret3
  have hs := hb1.size
  refine ⟨_, _, rfl, (hq.below hb2).mono ?_, ?_, ?_⟩
  · intro k hk _; exact hk
  · rw [hRe.out]
    exact hr2.mono (fun k hk _ => Nat.le_trans hs hk)
  · exact (((Below.refl _ _).drewsN _).after (by simp) hb1).after hs hb2
end Go.Proofs.Ytdbpjnjgjmfomaa
