/- ClassicalParts says yes at every table of rows. -/
import Derived.Test.YtdbpjnjgjmfomaaLawPc0
namespace Go.Proofs.Ytdbpjnjgjmfomaa
open Go.RowKit

/-- What the law's loops keep: alpha's box b, the sum of all covariances in the next, of the items' own in the one behind. -/
structure PRel (w wr : World) (b : Nat) (Q0 : Bool) (A3 : Option Addr) (Q1 c3 : Nat) (B3 : Option Addr) (Q2 d3 : Nat) (Q q8 : Rat) (m8 : Nat) (q9 : Rat) (m9 : Nat) : Prop where
  hB : Below w.heap.size w wr
  h3 : BoxR wr b (.bool Q0) (.slice A3 Q1 c3) (.slice B3 Q2 d3)
  hQ : RatV (fun j => j < b) wr (.agg #[.bool Q0, .slice A3 Q1 c3, .slice B3 Q2 d3]) Q
  h8 : BoxQ (fun j => j ≠ b + 1 ∧ j ≠ b + 2) wr (b + 1) q8 m8
  h9 : BoxQ (fun j => j ≠ b + 1 ∧ j ≠ b + 2) wr (b + 2) q9 m9
theorem PRel.below {w wr w1 : World} {b : Nat} {Q0 : Bool} {A3 : Option Addr} {Q1 c3 : Nat} {B3 : Option Addr} {Q2 d3 : Nat} {Q q8 : Rat} {m8 : Nat} {q9 : Rat} {m9 : Nat} (h : PRel w wr b Q0 A3 Q1 c3 B3 Q2 d3 Q q8 m8 q9 m9) (hb : Below wr.heap.size wr w1) : PRel w w1 b Q0 A3 Q1 c3 B3 Q2 d3 Q q8 m8 q9 m9 :=
  ⟨h.hB.after h.hB.size hb, h.h3.below hb, h.hQ.below hb, h.h8.below hb, h.h9.below hb⟩
theorem PRel.size {w wr : World} {b : Nat} {Q0 : Bool} {A3 : Option Addr} {Q1 c3 : Nat} {B3 : Option Addr} {Q2 d3 : Nat} {Q q8 : Rat} {m8 : Nat} {q9 : Rat} {m9 : Nat} (h : PRel w wr b Q0 A3 Q1 c3 B3 Q2 d3 Q q8 m8 q9 m9) : b + 2 < wr.heap.size := by
  obtain ⟨_, _, _, _, _, _, _, ⟨_, _, _, hl, _⟩, _⟩ := h.h9
  exact hl
theorem PRel.put8 {T : Nat → Prop} {w wr : World} {b : Nat} {Q0 : Bool} {A3 : Option Addr} {Q1 c3 : Nat} {B3 : Option Addr} {Q2 d3 : Nat} {Q q8 : Rat} {m8 : Nat} {q9 : Rat} {m9 : Nat} {N : Bool} {A B : Option Addr} {n c k d : Nat} {q : Rat} {m : Nat} (h : PRel w wr b Q0 A3 Q1 c3 B3 Q2 d3 Q q8 m8 q9 m9) (hw : w.heap.size ≤ b) (hV : RatV T wr (.agg #[.bool N, .slice A n c, .slice B k d]) q) (hT : ∀ j, T j → j < wr.heap.size → j ≠ b + 1 ∧ j ≠ b + 2) (hm : rz q ≤ m) :
    PRel w (((wr.setCell ⟨b + 1, 0, none⟩ (.bool N)).setCell ⟨b + 1, 1, none⟩ (.slice A n c)).setCell ⟨b + 1, 2, none⟩ (.slice B k d)) b Q0 A3 Q1 c3 B3 Q2 d3 Q q m q9 m9 := by
  obtain ⟨hB, h3, hQ, h8, h9⟩ := h
  obtain ⟨_, _, _, _, _, _, _, ⟨_, _, _, hR⟩, _⟩ := h8
  refine ⟨Below.set3 hB (by omega), h3.step (by simp [World.setCell]) ?_, hQ.set3 (by omega), BoxQ.put hR hV hT (by simp) hm, h9.set3 (by omega) (by simp)⟩
  rw [Below.heap_setCell _ _ _ b (by simp), Below.heap_setCell _ _ _ b (by simp), Below.heap_setCell _ _ _ b (by simp)]
theorem PRel.put9 {T : Nat → Prop} {w wr : World} {b : Nat} {Q0 : Bool} {A3 : Option Addr} {Q1 c3 : Nat} {B3 : Option Addr} {Q2 d3 : Nat} {Q q8 : Rat} {m8 : Nat} {q9 : Rat} {m9 : Nat} {N : Bool} {A B : Option Addr} {n c k d : Nat} {q : Rat} {m : Nat} (h : PRel w wr b Q0 A3 Q1 c3 B3 Q2 d3 Q q8 m8 q9 m9) (hw : w.heap.size ≤ b) (hV : RatV T wr (.agg #[.bool N, .slice A n c, .slice B k d]) q) (hT : ∀ j, T j → j < wr.heap.size → j ≠ b + 1 ∧ j ≠ b + 2) (hm : rz q ≤ m) :
    PRel w (((wr.setCell ⟨b + 2, 0, none⟩ (.bool N)).setCell ⟨b + 2, 1, none⟩ (.slice A n c)).setCell ⟨b + 2, 2, none⟩ (.slice B k d)) b Q0 A3 Q1 c3 B3 Q2 d3 Q q8 m8 q m := by
  obtain ⟨hB, h3, hQ, h8, h9⟩ := h
  obtain ⟨_, _, _, _, _, _, _, ⟨_, _, _, hR⟩, _⟩ := h9
  refine ⟨Below.set3 hB (by omega), h3.step (by simp [World.setCell]) ?_, hQ.set3 (by omega), h8.set3 (by omega) (by simp), BoxQ.put hR hV hT (by simp) hm⟩
  rw [Below.heap_setCell _ _ _ b (by simp), Below.heap_setCell _ _ _ b (by simp), Below.heap_setCell _ _ _ b (by simp)]
theorem RatI.set3 {S : Nat → Prop} {w : World} {v x y z : Value} {q : Rat} {m b : Nat} (h : RatI S w v q m) (hb : ¬ S b) : RatI S (((w.setCell ⟨b, 0, none⟩ x).setCell ⟨b, 1, none⟩ y).setCell ⟨b, 2, none⟩ z) v q m := h.step fun j hj _ => by
  have : j ≠ b := fun e => hb (e ▸ hj)
  rw [Below.heap_setCell _ _ _ j this, Below.heap_setCell _ _ _ j this, Below.heap_setCell _ _ _ j this]
/-- A box b holds the normal form of q. -/
def BoxC (w : World) (b : Nat) (q : Rat) : Prop := ∃ N A n c B k d, w.cell? ⟨b, 0, none⟩ = some (.bool N) ∧ w.cell? ⟨b, 1, none⟩ = some (.slice A n c) ∧ w.cell? ⟨b, 2, none⟩ = some (.slice B k d) ∧ RatV All w (.agg #[.bool N, .slice A n c, .slice B k d]) q
theorem BoxC.below {w w1 : World} {b : Nat} {q : Rat} (h : BoxC w b q) (hb : Below w.heap.size w w1) : BoxC w1 b q := by
  obtain ⟨N, A, n, c, B, k, d, h0, h1, h2, hv⟩ := h
  have hc : ∀ i x, w.cell? ⟨b, i, none⟩ = some x → w1.cell? ⟨b, i, none⟩ = some x := fun i x hx => (World.cell?_of_block (hb.block b (World.block_lt_of_cell? w _ hx))).trans hx
  exact ⟨N, A, n, c, B, k, d, hc _ _ h0, hc _ _ h1, hc _ _ h2, hv.below hb⟩
theorem BoxC.alloc {S : Nat → Prop} {w : World} {q : Rat} {N : Bool} {A B : Option Addr} {n c k d : Nat} (h : RatV S w (.agg #[.bool N, .slice A n c, .slice B k d]) q) : BoxC (w.alloc (.cells #[.bool N, .slice A n c, .slice B k d] 40)) w.heap.size q :=
  ⟨N, A, n, c, B, k, d, by simp [go_sem], by simp [go_sem], by simp [go_sem], (h.mono (fun _ _ _ => trivial)).below ((Below.refl _ _).alloc (Nat.le_refl _) _)⟩

set_option maxHeartbeats 16000000 in
set_option maxRecDepth 100000 in
theorem law_Parts {S : Nat → Prop} {v : Value} {rows : List (List Int)} (w : World) (hv : RowsV S w v rows) (hm : rows.length ≤ 140737488351232) (hr : ∀ i, (rows.getD i []).length ≤ 140737488351232) :
    Calls Try.prog 7 #[v] w fun e w' => e = .returned (.bool true) ∧ Below w.heap.size w w' := by
  obtain ⟨A, c, rfl⟩ := hv.slice
  obtain ⟨n, hn⟩ : ∃ n, rows.length = n := ⟨_, rfl⟩
  have HM : As (∀ W, Below w.heap.size w W → Calls Try.prog 20 #[.slice A rows.length c] W fun e w' => e = .returned (.bool (muchB rows)) ∧ Drawn W w') := ⟨fun W hb => law_much W (hv.below hb) hm hr⟩
  have HA : As (∀ W, Below w.heap.size w W → Calls Try.prog 21 #[.slice A rows.length c] W fun e w' => ∃ s, e = .returned (.tuple #[s, .int .i64 (errR rows)]) ∧ RatV (New W) w' s (alpR rows) ∧ Below W.heap.size W w') := ⟨fun W hb => cls_Alpha W (hv.below hb) hm hr⟩
  have HE : As (∀ W, Below w.heap.size w W → Calls Try.prog 22 #[.slice A rows.length c] W fun e w' => ∃ s, e = .returned (.tuple #[s, .int .i64 (errR rows)]) ∧ RatV (New W) w' s (if errR rows = 0 then varR rows * (1 - alpR rows) else 0) ∧ Below W.heap.size W w') := ⟨fun W hb => cls_Error W (hv.below hb) hm hr⟩
  have HR : As (∀ W, Below w.heap.size w W → 0 < n → ∃ ad, A = some ad ∧ ∀ p, p < n → ∃ B d, W.cell? (ad.add p) = some (.slice B (rows.getD p []).length d) ∧ IntsV (fun b => b < w.heap.size) W (.slice B (rows.getD p []).length d) (rows.getD p [])) := ⟨fun W hb h0 => by
    obtain ⟨ad, e, h⟩ := ((hv.mono (T := fun b => b < w.heap.size) (fun b _ h => h)).below hb).row (by omega)
    exact ⟨ad, e, fun p hp => h p (by omega)⟩⟩
  rw [hn] at HM HA HE
  rw [hn]
  clear hv hm
  obtain ⟨M0, hM0⟩ : ∃ M0, muchB rows = M0 := ⟨_, rfl⟩
  obtain ⟨E, hE⟩ : ∃ E, errR rows = E := ⟨_, rfl⟩
  obtain ⟨Q, hQe⟩ : ∃ Q, alpR rows = Q := ⟨_, rfl⟩
  obtain ⟨X, hX⟩ : ∃ X, (if errR rows = 0 then varR rows * (1 - alpR rows) else 0) = X := ⟨_, rfl⟩
  have hraQ := rz_alp rows
  rw [hQe] at hraQ
  rw [hM0] at HM
  rw [hX, hE] at HE
  rw [hE, hQe] at HA
  replace hn := As.mk hn
  replace hE := As.mk hE
  replace hQe := As.mk hQe
  replace hX := As.mk hX
  replace hr := As.mk hr
  clear hM0
  go_enter Try.func7, Try.ntmps7
  go_wp2_with fail
  refine (HM.out _ (Below.refl _ _)).mono ?_
  rintro e w1 ⟨rfl, ⟨m1, rfl⟩⟩
  have hB1 := (Below.refl w.heap.size w).drewsN m1
  generalize w.drewN m1 = W1 at *
  clear HM
  cases M0
  case true =>
    go_wp2_with fail
    go_ret
    exact ⟨rfl, hB1⟩
  by_cases hn0 : n = 0
  · subst hn0
    go_wp2_with fail
    go_ret
    exact ⟨rfl, hB1⟩
  have hz0 : ((n : Int) = 0) = False := eq_false (by omega)
  have hz0' : ((n : Int) == 0) = false := beq_eq_false_iff_ne.2 (by omega)
  by_cases h12 : 12 < n
  · have b12 : (12 < (n : Int)) = True := eq_true (by omega)
    go_wp2_with fail
    go_ret
    exact ⟨rfl, hB1⟩
  have b12 : (12 < (n : Int)) = False := eq_false (by omega)
  obtain ⟨ad, hA, HR1⟩ : ∃ ad, A = some ad ∧ ∀ W, Below w.heap.size w W → ∀ p, p < n → ∃ B d, W.cell? (ad.add p) = some (.slice B (rows.getD p []).length d) ∧ IntsV (fun b => b < w.heap.size) W (.slice B (rows.getD p []).length d) (rows.getD p []) := by
    obtain ⟨ad, hA, _⟩ := HR.out w (Below.refl _ _) (by omega)
    refine ⟨ad, hA, fun W hb => ?_⟩
    obtain ⟨ad', hA', h⟩ := HR.out W hb (by omega)
    obtain rfl : ad = ad' := by rw [hA] at hA'; injection hA'
    exact h
  subst hA
  replace HR1 := As.mk HR1
  clear HR
  obtain ⟨K, hK⟩ : ∃ K, (rows.getD 0 []).length = K := ⟨_, rfl⟩
  have hKm := hr.out 0
  rw [hK] at hKm
  obtain ⟨B0, d0, hc0, _⟩ := HR1.out _ hB1 0 (by omega)
  rw [addr_zero, hK] at hc0
  replace hK := As.mk hK
  have bn0 : (0 < (n : Int)) = True := eq_true (by omega)
  by_cases h5 : 5 < K
  · have b5 : (5 < (K : Int)) = True := eq_true (by omega)
    go_wp2_with fail
    go_ret
    exact ⟨rfl, hB1⟩
  have b5 : (5 < (K : Int)) = False := eq_false (by omega)
  go_wp2_with fail
  refine (HA.out _ hB1).mono ?_
  rintro e w2 ⟨s, rfl, hQ, hb⟩
  have hB2 := hB1.after hB1.size hb
  clear hc0 hb hB1 HA
  obtain ⟨Q0, A3, Q1, c3, B3, Q2, d3, rfl⟩ := hQ.letters
  by_cases hE0 : E = 0
  case neg =>
    have hEb : (E == 0) = false := beq_eq_false_iff_ne.2 hE0
    clear hQ
    go_wp2_with fail
    refine (HE.out _ (hB2.alloc hB2.size _)).mono ?_
    rintro e w3 ⟨s2, rfl, hs2, hb3⟩
    have hB3 := (hB2.alloc hB2.size (Obj.cells #[.bool Q0, .slice A3 Q1 c3, .slice B3 Q2 d3] 40)).after (Nat.le_trans hB2.size (by simp)) hb3
    obtain ⟨Q0', A3', Q1', c3', B3', Q2', d3', rfl⟩ := hs2.letters
    have hB4 := As.mk (fun o => hB3.alloc hB3.size o)
    clear hs2 hb3 hB3
    go_wp2_with fail
    go_ret
    exact ⟨by simp, hB4.out _⟩
  subst hE0
  obtain ⟨hT, hall⟩ := errR_zero hE.out
  have hIO := table_zero hT
  have hkR : kR rows = K := hK.out
  rw [hkR] at hall
  rw [hK.out] at hIO
  have hVe : As (varR rows = allR rows K) := ⟨by unfold varR; rw [if_pos hT, hkR]⟩
  have hQe2 : As (alpR rows = ((K : Int) : Rat) / (((K : Int) - 1 : Int) : Rat) * (1 - partR rows K / allR rows K)) := ⟨by unfold alpR; rw [if_pos hT, hkR, if_neg hall]⟩
  replace hall := As.mk hall
  have hk2 := hIO.two
  replace hIO := As.mk hIO
  clear hkR hT
  have hc0 : As (∀ W, Below w.heap.size w W → ∃ B0 d0, W.cell? ad = some (.slice B0 K d0)) := ⟨fun W hW => by
    obtain ⟨B0, d0, h, _⟩ := HR1.out W hW 0 (by omega)
    rw [addr_zero, hK.out] at h
    exact ⟨B0, d0, h⟩⟩
  obtain ⟨B1, d1, hc1⟩ := hc0.out _ (hB2.alloc hB2.size (Obj.cells #[.bool Q0, .slice A3 Q1 c3, .slice B3 Q2 d3] 40))
  obtain ⟨W3, hW3⟩ : ∃ W3, w2.alloc (Obj.cells #[.bool Q0, .slice A3 Q1 c3, .slice B3 Q2 d3] 40) = W3 := ⟨_, rfl⟩
  rw [hW3] at hc1
  clear hc0
  have hb3 : Below w.heap.size w W3 := by rw [← hW3]; exact hB2.alloc hB2.size _
  go_wp2_with (rw [hW3])
  obtain ⟨b, hbe⟩ : ∃ b, w2.heap.size = b := ⟨_, rfl⟩
  have hs3 : W3.heap.size = b + 1 := by rw [← hW3, ← hbe]; simp
  obtain ⟨W5, hW5⟩ : ∃ W5, (W3.alloc (Obj.cells #[Value.bool false, Value.slice none 0 0, Value.slice none 0 0] 40)).alloc (Obj.cells #[Value.bool false, Value.slice none 0 0, Value.slice none 0 0] 40) = W5 := ⟨_, rfl⟩
  rw [hW5, hs3, hbe, show b + 1 + 1 = b + 2 from rfl]
  have hb35 : Below W3.heap.size W3 W5 := by rw [← hW5]; exact ((Below.refl _ _).alloc (Nat.le_refl _) _).alloc (by simp) _
  have hs5 : W5.heap.size = b + 3 := by rw [← hW5]; simp; omega
  have hwb : w.heap.size ≤ b := by rw [← hbe]; exact hB2.size
  have hP : PRel w W5 b Q0 A3 Q1 c3 B3 Q2 d3 Q 0 1 0 1 := by
    refine ⟨hb3.after hb3.size hb35, ?_, ?_, ?_, ?_⟩
    · refine BoxR.below (w := W3) ?_ hb35
      subst hW3 hbe
      refine ⟨by simp [go_sem], by simp [go_sem], by simp [go_sem], by simp, fun i hi => ?_⟩
      rcases (by omega : i = 0 ∨ i = 1 ∨ i = 2) with rfl | rfl | rfl
      · exact ⟨⟨.bool Q0, by simp [go_sem]⟩, by simp [go_sem]⟩
      · exact ⟨⟨.slice A3 Q1 c3, by simp [go_sem]⟩, by simp [go_sem]⟩
      · exact ⟨⟨.slice B3 Q2 d3, by simp [go_sem]⟩, by simp [go_sem]⟩
    · refine RatV.below (w := W3) ?_ hb35
      rw [← hW3]
      exact (hQ.mono (fun k _ h => by rw [← hbe]; exact h)).below ((Below.refl _ _).alloc (Nat.le_refl _) _)
    · refine ⟨false, none, 0, 0, none, 0, 0, ?_, ratI_nil _ _, rz_zero⟩
      rw [← hs3]
      subst hW5
      refine ⟨by simp [go_sem], by simp [go_sem], by simp [go_sem], by simp; omega, fun i hi => ?_⟩
      rcases (by omega : i = 0 ∨ i = 1 ∨ i = 2) with rfl | rfl | rfl
      · exact ⟨⟨.bool false, by simp [go_sem]⟩, by simp [go_sem]⟩
      · exact ⟨⟨.slice none 0 0, by simp [go_sem]⟩, by simp [go_sem]⟩
      · exact ⟨⟨.slice none 0 0, by simp [go_sem]⟩, by simp [go_sem]⟩
    · refine ⟨false, none, 0, 0, none, 0, 0, ?_, ratI_nil _ _, rz_zero⟩
      rw [show b + 2 = W3.heap.size + 1 by omega]
      subst hW5
      refine ⟨by simp [go_sem], by simp [go_sem], by simp [go_sem], by simp, fun i hi => ?_⟩
      rcases (by omega : i = 0 ∨ i = 1 ∨ i = 2) with rfl | rfl | rfl
      · exact ⟨⟨.bool false, by simp [go_sem]⟩, by simp [go_sem]⟩
      · exact ⟨⟨.slice none 0 0, by simp [go_sem]⟩, by simp [go_sem]⟩
      · exact ⟨⟨.slice none 0 0, by simp [go_sem]⟩, by simp [go_sem]⟩
  clear hW5 hb35 hs5 hW3 hb3 hQ hB2 hc1 hbe hs3
  have hsum0 : sumR rows K 0 = 0 := rfl
  have hpart0 : partR rows 0 = 0 := rfl
  go_loopw [10, 11, 12, 13, 14, 15, 16] (fun v10 _ _ _ _ _ _ wr => ∃ i : Nat, i ≤ K ∧ v10 = .int .i64 i ∧ PRel w wr b Q0 A3 Q1 c3 B3 Q2 d3 Q (sumR rows K i) (40 * i + 1) (partR rows i) (8 * i + 1)) (fun v10 _ _ _ _ _ _ _ => (K - intOf v10).toNat)
  case atStart => exact ⟨0, by omega, rfl, by rw [hsum0, hpart0]; exact hP⟩
  case round =>
    clear hP hsum0 hpart0
    obtain ⟨i, hi, rfl, hP⟩ := hrel
    by_cases hlt : i < K
    · have bi : ((i : Int) < (K : Int)) = True := eq_true (by omega)
      go_wp2_with fail
      go_loopw [11, 12, 13, 14, 15, 16] (fun v11 _ _ _ _ _ wr => ∃ j : Nat, j ≤ K ∧ v11 = .int .i64 j ∧ PRel w wr b Q0 A3 Q1 c3 B3 Q2 d3 Q (sumR rows K i + crossR rows i j) (40 * i + 8 * j + 1) (if j ≤ i then partR rows i else partR rows (i + 1)) (8 * (i + 1) + 1)) (fun v11 _ _ _ _ _ _ => (K - intOf v11).toNat)
      case atStart => exact ⟨0, by omega, rfl, by
        rw [if_pos (Nat.zero_le i), show crossR rows i 0 = 0 from rfl, show sumR rows K i + 0 = sumR rows K i by grind]
        exact ⟨hP.hB, hP.h3, hP.hQ, hP.h8.le (by omega), hP.h9.le (by omega)⟩⟩
      case round =>
        clear hP
        rename World => Wj
        obtain ⟨j, hj, rfl, hP⟩ := hrel
        by_cases hlj : j < K
        · have bj : ((j : Int) < (K : Int)) = True := eq_true (by omega)
          have hPj := hP
          obtain ⟨H0, hH⟩ : ∃ H0, Wj.heap.size = H0 := ⟨_, rfl⟩
          obtain ⟨xs, hxs⟩ : ∃ xs, col rows i = xs := ⟨_, rfl⟩
          obtain ⟨ys, hys⟩ : ∃ ys, col rows j = ys := ⟨_, rfl⟩
          have hxl : xs.length = n := by rw [← hxs, col_length, hn.out]
          have hyl : ys.length = n := by rw [← hys, col_length, hn.out]
          have hxg : ∀ p, xs.getD p 0 = (rows.getD p []).getD i 0 := fun p => by rw [← hxs, col_get]
          have hyg : ∀ p, ys.getD p 0 = (rows.getD p []).getD j 0 := fun p => by rw [← hys, col_get]
          replace hxs := As.mk hxs
          replace hys := As.mk hys
          replace hxg := As.mk hxg
          replace hyg := As.mk hyg
          go_wp2_with fail
          go_loopw [12, 13, 14] (fun v12 v13 v14 wq => ∃ p : Nat, p ≤ n ∧ v14 = .int .i64 p ∧ Below H0 Wj wq ∧ OwnI wq H0 v12 (xs.take p) ∧ OwnI wq H0 v13 (ys.take p) ∧ (∀ g, v12.ownBlock = some g → v13.ownBlock ≠ some g)) (fun _ _ v14 _ => (n - intOf v14).toNat)
          case atStart => exact ⟨0, by omega, rfl, hH ▸ Below.refl _ _, OwnI.nil _ _ (by omega), OwnI.nil _ _ (by omega), fun g hg => by simp [Value.ownBlock] at hg⟩
          case round =>
            rename World => wq
            obtain ⟨p, hp, rfl, hbq, hx, hy, hxy⟩ := hrel
            have hP2 : PRel w wq b Q0 A3 Q1 c3 B3 Q2 d3 Q (sumR rows K i + crossR rows i j) (40 * i + 8 * j + 1) (if j ≤ i then partR rows i else partR rows (i + 1)) (8 * (i + 1) + 1) := hP.below (hH ▸ hbq)
            have hHq : H0 ≤ wq.heap.size := by rw [← hH]; exact (show Below _ _ _ from hH ▸ hbq).size
            by_cases hlp : p < n
            · have hlk := hIO.out.len p (by rw [hn.out]; exact hlp)
              obtain ⟨B, d, hrc, hri⟩ := HR1.out _ hP2.hB p hlp
              obtain ⟨bd, hB, hbc⟩ := hri.cells (by rw [hlk]; omega)
              subst hB
              have hxi := hbc i (by rw [hlk]; exact hlt)
              have hxp := hxg.out p
              have hyp := hyg.out p
              have htx := col_take (l := xs) (p := p) (by omega)
              have hty := col_take (l := ys) (p := p) (by omega)
              rw [← hxp] at hxi
              generalize xs.getD p 0 = X1 at *
              generalize ys.getD p 0 = Y1 at *
              replace htx := As.mk htx
              replace hty := As.mk hty
              rw [hlk] at hrc
              have hlx : (xs.take p).length ≤ 1000 := by rw [List.length_take]; omega
              have hly : (ys.take p).length ≤ 1000 := by rw [List.length_take]; omega
              replace hlk := As.mk hlk
              replace hyp := As.mk hyp
              have bp : ((p : Int) < (n : Int)) = True := eq_true (by omega)
              have bp0 : (0 ≤ (p : Int)) = True := eq_true (by omega)
              have bi0 : (0 ≤ (i : Int)) = True := eq_true (by omega)
              have bj0 : (0 ≤ (j : Int)) = True := eq_true (by omega)
              clear hri hbc hxp
              go_wp2_with (first
                | (at_builtin; refine append_int H0 rfl _ _ 28 _ X1 rfl Try.underlying28 (by kernel_rfl) u12 rfl rfl hx hbq hHq (by omega) ?_
                   intro v1 w1 hx1 hb1 hg hat
                   obtain ⟨B', d', hrc', hri'⟩ := HR1.out _ (hPj.hB.after hPj.hB.size (hH ▸ hb1)) p hlp
                   obtain ⟨bd', hB', hbc'⟩ := hri'.cells (by rw [hlk.out]; omega)
                   subst hB'
                   have hyi := hbc' j (by rw [hlk.out]; exact hlj)
                   rw [← hyp.out] at hyi
                   rw [hlk.out] at hrc'
                   clear hbc' hri'
                   have hy1 := hy.grown hg (fun k hk e => hxy k e hk)
                   have hxy1 : ∀ g, v1.ownBlock = some g → u13.ownBlock ≠ some g := fun g h1 h2 => by
                     rcases hat with h3 | ⟨b', h3, h4⟩
                     · exact hxy g (h3.symm.trans h1) h2
                     · rw [h3] at h1; injection h1 with h1; subst h1; have := (World.ownsRow.lt hy _ h2).2; omega
                   have hHq1 : H0 ≤ w1.heap.size := Nat.le_trans hHq hg.size)
                | (at_builtin; refine append_int H0 rfl _ _ 28 _ Y1 rfl Try.underlying28 (by kernel_rfl) u13 rfl rfl hy1 hb1 hHq1 (by omega) ?_
                   intro v2 w2 hy2 hb2 hg2 hat2))
              have hx2 := hx1.grown hg2 (fun k hk e => hxy1 k hk e)
              have hxy2 : ∀ g, v1.ownBlock = some g → v2.ownBlock ≠ some g := fun g h1 h2 => by
                rcases hat2 with h3 | ⟨b', h3, h4⟩
                · exact hxy1 g h1 (h3.symm.trans h2)
                · rw [h3] at h2; injection h2 with h2; subst h2; have := (World.ownsRow.lt hx1 _ h1).2; omega
              go_roundw
              case rel => exact ⟨p + 1, by omega, by go_num, hb2, by rw [← htx.out]; exact hx2, by rw [← hty.out]; exact hy2, hxy2⟩
              case measure => simp [intOf]; omega
            · obtain rfl : p = n := by omega
              have hxv : IntsV (fun _ => True) wq u12 xs := by
                have := hx.ints.mono (T := fun _ => True) (fun _ _ _ => trivial)
                rwa [List.take_of_length_le (by omega)] at this
              have hyv : IntsV (fun _ => True) wq u13 ys := by
                have := hy.ints.mono (T := fun _ => True) (fun _ _ _ => trivial)
                rwa [List.take_of_length_le (by omega)] at this
              have hokx : okScores xs = true := by rw [← hxs.out]; exact hIO.out.okcol i
              have hoky : okScores ys = true := by rw [← hys.out]; exact hIO.out.okcol j
              have hrzC : rz (covR xs ys) ≤ 7 := rz_covR xs ys (okScores_mod hokx) (okScores_mod hoky) (by omega)
              have hq8 : As ((sumR rows K i + crossR rows i j) + covR (col rows i) (col rows j) = sumR rows K i + crossR rows i (j + 1)) := ⟨by rw [show crossR rows i (j + 1) = crossR rows i j + covR (col rows i) (col rows j) from rfl, Rat.add_assoc]⟩
              have hq9 : As ((if j ≤ i then partR rows i else partR rows (i + 1)) = if i = j then partR rows i else if j + 1 ≤ i then partR rows i else partR rows (i + 1)) := ⟨by split <;> split <;> (try split) <;> first | rfl | omega⟩
              have HC := As.mk (cls_Covariance wq hxv hyv hokx hoky (by omega) (by omega) (by omega))
              obtain ⟨C, hC⟩ : ∃ C, covR xs ys = C := ⟨_, rfl⟩
              rw [hC] at HC hrzC
              have hCij : covR (col rows i) (col rows j) = C := by rw [hxs.out, hys.out, hC]
              rw [hCij] at hq8
              replace hCij := As.mk hCij
              generalize sumR rows K i + crossR rows i j = q8 at *
              generalize (if j ≤ i then partR rows i else partR rows (i + 1)) = q9 at *
              clear hxv hyv hokx hoky hC hx hy hxy hbq hP hPj hxs hys hxg hyg hxl hyl hH hHq
              go_wp2_with fail
              refine HC.out.mono ?_
              rintro e w6 ⟨r6, rfl, hCv, hb6⟩
              obtain ⟨C0, A5, C1, c5, B5, C2, d5, rfl⟩ := hCv.letters
              have hP6 := hP2.below hb6
              have hz6 := hP6.size
              have hz2 := hP2.size
              replace hCv := hCv.mono (T := fun j => b + 2 < j) (fun j h1 _ => by have h1 : _ ≤ j := h1; omega)
              clear hb6 HC hP2
              obtain ⟨N8, A8, n8, e8, B8, k8, d8, ⟨x0, x1, x2, _⟩, hI8, hr8⟩ := hP6.h8
              have hP7 := hP6.below ((Below.refl w6.heap.size w6).alloc (Nat.le_refl _) (Obj.cells #[.bool C0, .slice A5 C1 c5, .slice B5 C2 d5] 40))
              replace hI8 := hI8.below ((Below.refl w6.heap.size w6).alloc (Nat.le_refl _) (Obj.cells #[.bool C0, .slice A5 C1 c5, .slice B5 C2 d5] 40))
              have hCv7 := hCv.below ((Below.refl w6.heap.size w6).alloc (Nat.le_refl _) (Obj.cells #[.bool C0, .slice A5 C1 c5, .slice B5 C2 d5] 40))
              clear hP6 hCv
              have y0 : (w6.alloc (Obj.cells #[.bool C0, .slice A5 C1 c5, .slice B5 C2 d5] 40)).cell? ⟨w6.heap.size, 0, none⟩ = some (.bool C0) := by simp [go_sem]
              have y1 : (w6.alloc (Obj.cells #[.bool C0, .slice A5 C1 c5, .slice B5 C2 d5] 40)).cell? ⟨w6.heap.size, 1, none⟩ = some (.slice A5 C1 c5) := by simp [go_sem]
              have y2 : (w6.alloc (Obj.cells #[.bool C0, .slice A5 C1 c5, .slice B5 C2 d5] 40)).cell? ⟨w6.heap.size, 2, none⟩ = some (.slice B5 C2 d5) := by simp [go_sem]
              have hx9 : w6.heap.size < (w6.alloc (Obj.cells #[.bool C0, .slice A5 C1 c5, .slice B5 C2 d5] 40)).heap.size := by simp
              have hb16 : b + 1 < w6.heap.size := by omega
              go_wp2_with fail
              generalize w6.alloc (Obj.cells #[.bool C0, .slice A5 C1 c5, .slice B5 C2 d5] 40) = W7 at *
              have hadd := rz_add q8 C
              refine (rat_Add _ hI8 hCv7.i (by omega) (rz_pos _) (by omega)).mono ?_
              rintro e w8 ⟨r8, rfl, hL, hb8⟩
              obtain ⟨L0, A9, L1, c9, B9, L2, d9, rfl⟩ := hL.letters
              have hz7 := hP7.size
              have lift : ∀ a x, W7.cell? a = some x → w8.cell? a = some x := fun a x h => (World.cell?_of_block (hb8.block _ (World.block_lt_of_cell? W7 _ h))).trans h
              have hP8 := hP7.below hb8
              have hCv8 := hCv7.below hb8
              replace y0 := lift _ _ y0
              replace y1 := lift _ _ y1
              replace y2 := lift _ _ y2
              have hz8 := hP8.size
              replace hL := hL.mono (T := fun j => b + 2 < j) (fun j h1 _ => by have h1 : _ ≤ j := h1; omega)
              have hP9 := hP8.put8 hwb hL (fun j h1 _ => by have h1 : b + 2 < j := h1; omega) (show rz (q8 + C) ≤ 40 * i + 8 * (j + 1) + 1 by omega)
              rw [hq8.out] at hP9
              obtain ⟨g0, g1, g2, f0, f1, f2⟩ : (∃ x, w8.cell? ⟨b + 1, 0, none⟩ = some x) ∧ (∃ x, w8.cell? ⟨b + 1, 1, none⟩ = some x) ∧ (∃ x, w8.cell? ⟨b + 1, 2, none⟩ = some x) ∧ w8.frozen? ⟨b + 1, 0, none⟩ = false ∧ w8.frozen? ⟨b + 1, 1, none⟩ = false ∧ w8.frozen? ⟨b + 1, 2, none⟩ = false := by
                obtain ⟨_, _, _, _, _, _, _, ⟨_, _, _, hR⟩, _⟩ := hP8.h8
                exact hR.cells3
              obtain ⟨z0, g0⟩ := g0
              obtain ⟨z1, g1⟩ := g1
              obtain ⟨z2, g2⟩ := g2
              clear hP7 hCv7 lift hb8 hI8 hr8 x0 x1 x2 hx9
              by_cases hij : i = j
              · subst hij
                have hqe : As (q9 + C = if i + 1 ≤ i then partR rows i else partR rows (i + 1)) := ⟨by rw [hq9.out, if_pos rfl, if_neg (by omega), ← hCij.out]; rfl⟩
                have hrq : rz (q9 + C) ≤ 8 * (i + 1) + 1 := by
                  rw [hqe.out, if_neg (by omega)]
                  exact rz_part hIO.out (i + 1)
                obtain ⟨N9, A10, n9, c10, B10, k9, d10, ⟨v0, v1, v2, _⟩, hI9, hr9⟩ := hP8.h9
                have hI9' := hI9.set3 (b := b + 1) (x := .bool L0) (y := .slice A9 L1 c9) (z := .slice B9 L2 d9) (by simp)
                have hCv9 := hCv8.set3 (b := b + 1) (x := .bool L0) (y := .slice A9 L1 c9) (z := .slice B9 L2 d9) (by omega)
                have hne : w6.heap.size ≠ b + 1 := by omega
                have hne' : b + 1 ≠ w6.heap.size := by omega
                clear hP8 hCv8 hL hI9 hadd hq8 hq9
                go_wp2_with fail
                generalize ((w8.setCell ⟨b + 1, 0, none⟩ (.bool L0)).setCell ⟨b + 1, 1, none⟩ (.slice A9 L1 c9)).setCell ⟨b + 1, 2, none⟩ (.slice B9 L2 d9) = W9 at *
                refine (rat_Add _ hI9' hCv9.i (by omega) (rz_pos _) (by omega)).mono ?_
                rintro e w10 ⟨r10, rfl, hL, hb10⟩
                obtain ⟨M0, A11, M1, c11, B11, M2, d11, rfl⟩ := hL.letters
                have hz9 := hP9.size
                have hP10 := hP9.below hb10
                replace hL := hL.mono (T := fun j => b + 2 < j) (fun j h1 _ => by have h1 : _ ≤ j := h1; omega)
                have hP11 := hP10.put9 hwb hL (fun j h1 _ => by have h1 : b + 2 < j := h1; omega) hrq
                rw [hqe.out] at hP11
                obtain ⟨h0, h1, h2, f0, f1, f2⟩ : (∃ x, w10.cell? ⟨b + 2, 0, none⟩ = some x) ∧ (∃ x, w10.cell? ⟨b + 2, 1, none⟩ = some x) ∧ (∃ x, w10.cell? ⟨b + 2, 2, none⟩ = some x) ∧ w10.frozen? ⟨b + 2, 0, none⟩ = false ∧ w10.frozen? ⟨b + 2, 1, none⟩ = false ∧ w10.frozen? ⟨b + 2, 2, none⟩ = false := by
                  obtain ⟨_, _, _, _, _, _, _, ⟨_, _, _, hR⟩, _⟩ := hP10.h9
                  exact hR.cells3
                obtain ⟨z3, h0⟩ := h0
                obtain ⟨z4, h1⟩ := h1
                obtain ⟨z5, h2⟩ := h2
                clear hP9 hP10 hL hb10 hI9' hCv9 v0 v1 v2
                go_wp2_with fail
                go_roundw
                case rel => exact ⟨i + 1, by omega, by go_num, hP11⟩
                case measure => simp [intOf]; omega
              · rw [hq9.out, if_neg hij] at hP9
                have bij : ((i : Int) = (j : Int)) = False := eq_false (by omega)
                have bij' : ((i : Int) == (j : Int)) = false := beq_eq_false_iff_ne.2 (by omega)
                clear hP8 hCv8 hL hadd hq8 hq9
                go_wp2_with fail
                go_roundw
                case rel => exact ⟨j + 1, by omega, by go_num, hP9⟩
                case measure => simp [intOf]; omega
        · obtain rfl : j = K := by omega
          rw [if_neg (by omega)] at hP
          have hP' : PRel w Wj b Q0 A3 Q1 c3 B3 Q2 d3 Q (sumR rows j (i + 1)) (40 * (i + 1) + 1) (partR rows (i + 1)) (8 * (i + 1) + 1) := ⟨hP.hB, hP.h3, hP.hQ, hP.h8.le (by omega), hP.h9⟩
          clear hP
          go_wp2_with fail
          go_roundw
          case rel => exact ⟨i + 1, by omega, by go_num, hP'⟩
          case measure => simp [intOf]; omega
    · obtain rfl : i = K := by omega
      rw [all_eq] at hP
      have hrP := rz_part hIO.out i
      have hrV : rz (allR rows i) ≤ 1000 := by
        have := rz_var rows
        rwa [hVe.out] at this
      have hX2 : As (allR rows i * (1 - Q) = X) := ⟨by rw [← hX.out, hE.out, if_pos rfl, hVe.out, hQe.out]⟩
      obtain ⟨J, hJ⟩ : ∃ J, (i : Int) - 1 = J := ⟨_, rfl⟩
      rw [hJ] at hQe2
      have hw1 : IntKind.i64.wrap ((i : Int) - 1) = J := by rw [hJ]; exact IntWalk.i64_in _ (by omega)
      have hJ0 : J ≠ 0 := by omega
      obtain ⟨F, hF⟩ : ∃ F, ((i : Int) : Rat) / (J : Rat) = F := ⟨_, rfl⟩
      have hFe : As (F * (1 - partR rows i / allR rows i) = Q) := ⟨by rw [← hQe.out, hQe2.out, hF]⟩
      have hrF : rz F ≤ 2 := by rw [← hF]; exact rz_small _ _ (by omega) (by omega)
      have hv0 := hall.out
      have hq0 : -9223372036854775808 ≤ (i : Int) := by omega
      have hq1 : (i : Int) ≤ 9223372036854775807 := by omega
      have hq2 : -9223372036854775808 ≤ J := by omega
      have hq3 : J ≤ 9223372036854775807 := by omega
      replace hJ := As.mk hJ
      replace hF := As.mk hF
      clear hVe hQe hQe2 hX hall hIO hr hn HR1
      generalize allR rows i = V at *
      generalize partR rows i = P at *
      have hdV : decide (V ≠ 0) = true := decide_eq_true hv0
      have hdJ : decide (J ≠ 0) = true := decide_eq_true hJ0
      replace hv0 := As.mk hv0
      go_wp2_with fail
      refine (rat_Of _ 1 1 (by omega) (by omega) (by omega) (by omega)).mono ?_
      rw [one_frac, show decide ((1 : Int) ≠ 0) = true from by decide]
      rintro e w11 ⟨r, rfl, hone, hb⟩
      obtain ⟨zoN, zoA, zon, zoc, zoB, zok, zod, rfl⟩ := hone.letters
      have hP1 := hP.below hb
      clear hb hP
      obtain ⟨vvN, vvA, vvn, vvc, vvB, vvk, vvd, ⟨vvx0, vvx1, vvx2, _⟩, hIvv, hrvv⟩ := hP1.h8
      obtain ⟨ppN, ppA, ppn, ppc, ppB, ppk, ppd, ⟨ppx0, ppx1, ppx2, _⟩, hIpp, hrpp⟩ := hP1.h9
      have hsz1 := hP1.size
      have hb12 := (Below.refl w11.heap.size w11).alloc (Nat.le_refl _) (Obj.cells #[.bool zoN, .slice zoA zon zoc, .slice zoB zok zod] 40)
      have h17 := BoxC.alloc hone
      have hP12 := hP1.below hb12
      replace hIvv := hIvv.below hb12
      replace hIpp := hIpp.below hb12
      have hlt1 : b + 1 < w11.heap.size := by omega
      clear hone hP1 hb12
      go_wp2_with fail
      generalize w11.alloc (Obj.cells #[.bool zoN, .slice zoA zon zoc, .slice zoB zok zod] 40) = W12 at *
      generalize w11.heap.size = g17 at *
      clear vvx0 vvx1 vvx2 ppx0 ppx1 ppx2
      refine (rat_Div _ hIpp hIvv (by omega) (by omega) (by omega)).mono ?_
      rw [hdV]
      rintro e w13 ⟨r, rfl, hss, hb⟩
      obtain ⟨zsN, zsA, zsn, zsc, zsB, zsk, zsd, rfl⟩ := hss.letters
      have hP13 := hP12.below hb
      replace h17 := h17.below hb
      clear hb hP12 hIvv hIpp
      have hb14 := (Below.refl w13.heap.size w13).alloc (Nat.le_refl _) (Obj.cells #[.bool zsN, .slice zsA zsn zsc, .slice zsB zsk zsd] 40)
      have h19 := BoxC.alloc hss
      have hP14 := hP13.below hb14
      replace h17 := h17.below hb14
      clear hss hP13 hb14
      go_wp2_with fail
      generalize w13.alloc (Obj.cells #[.bool zsN, .slice zsA zsn zsc, .slice zsB zsk zsd] 40) = W14 at *
      generalize w13.heap.size = g19 at *
      refine (rat_Of _ (i : Int) J hq0 hq1 hq2 hq3).mono ?_
      rw [hdJ, hF.out]
      rintro e w15 ⟨r, rfl, hff, hb⟩
      obtain ⟨zfN, zfA, zfn, zfc, zfB, zfk, zfd, rfl⟩ := hff.letters
      have hP15 := hP14.below hb
      replace h17 := h17.below hb
      replace h19 := h19.below hb
      clear hb hP14
      have hb16 := (Below.refl w15.heap.size w15).alloc (Nat.le_refl _) (Obj.cells #[.bool zfN, .slice zfA zfn zfc, .slice zfB zfk zfd] 40)
      have h21 := BoxC.alloc hff
      have hP16 := hP15.below hb16
      replace h17 := h17.below hb16
      replace h19 := h19.below hb16
      clear hff hP15 hb16
      go_wp2_with fail
      generalize w15.alloc (Obj.cells #[.bool zfN, .slice zfA zfn zfc, .slice zfB zfk zfd] 40) = W16 at *
      generalize w15.heap.size = g21 at *
      refine (HE.out _ hP16.hB).mono ?_
      rintro e w17 ⟨r, rfl, hmm, hb⟩
      obtain ⟨zmN, zmA, zmn, zmc, zmB, zmk, zmd, rfl⟩ := hmm.letters
      have hP17 := hP16.below hb
      replace h17 := h17.below hb
      replace h19 := h19.below hb
      replace h21 := h21.below hb
      clear hb hP16 HE
      have hb18 := (Below.refl w17.heap.size w17).alloc (Nat.le_refl _) (Obj.cells #[.bool zmN, .slice zmA zmn zmc, .slice zmB zmk zmd] 40)
      have h23 := BoxC.alloc hmm
      have hP18 := hP17.below hb18
      replace h17 := h17.below hb18
      replace h19 := h19.below hb18
      replace h21 := h21.below hb18
      clear hmm hP17 hb18
      go_wp2_with fail
      generalize w17.alloc (Obj.cells #[.bool zmN, .slice zmA zmn zmc, .slice zmB zmk zmd] 40) = W18 at *
      generalize w17.heap.size = g23 at *
      obtain ⟨aaN, aaA, aan, aac, aaB, aak, aad, hB, ⟨aax0, aax1, aax2, _⟩, hIaa, h8, _⟩ : ∃ aaN aaA aan aac aaB aak aad, Below w.heap.size w W18 ∧ BoxR W18 b (.bool aaN) (.slice aaA aan aac) (.slice aaB aak aad) ∧ RatV All W18 (.agg #[.bool aaN, .slice aaA aan aac, .slice aaB aak aad]) Q ∧ BoxQ (fun j => j ≠ b + 1 ∧ j ≠ b + 2) W18 (b + 1) V (40 * i + 1) ∧ True := ⟨_, _, _, _, _, _, _, hP18.hB, hP18.h3, hP18.hQ.mono (fun _ _ _ => trivial), hP18.h8, trivial⟩
      obtain ⟨vvN, vvA, vvn, vvc, vvB, vvk, vvd, ⟨vvx0, vvx1, vvx2, _⟩, hIvv, hrvv⟩ := h8
      replace hIvv := hIvv.mono (T := All) (fun _ _ _ => trivial)
      obtain ⟨ooN, ooA, oon, ooc, ooB, ook, ood, oox0, oox1, oox2, hIoo⟩ := h17
      obtain ⟨ssN, ssA, ssn, ssc, ssB, ssk, ssd, ssx0, ssx1, ssx2, hIss⟩ := h19
      obtain ⟨ffN, ffA, ffn, ffc, ffB, ffk, ffd, ffx0, ffx1, ffx2, hIff⟩ := h21
      obtain ⟨mmN, mmA, mmn, mmc, mmB, mmk, mmd, mmx0, mmx1, mmx2, hImm⟩ := h23
      clear hP18
      have hs1 : rz 1 + rz (P / V) ≤ 35184372088828 := by
        have h1 := rz_one
        have h2 := rz_div P V
        omega
      have hs2 : rz F + rz (1 - P / V) ≤ 35184372088829 := by
        have h1 := rz_one
        have h2 := rz_div P V
        have h3 := rz_sub 1 (P / V)
        omega
      have hs3 : rz Q ≤ 35184372088832 := by omega
      have hs4 : rz 1 + rz Q ≤ 35184372088828 := by
        have h1 := rz_one
        omega
      have hs5 : 40 * i + 1 + rz (1 - Q) ≤ 35184372088829 := by
        have h1 := rz_one
        have h3 := rz_sub 1 Q
        omega
      have hs6 : rz X ≤ 35184372088832 := by
        rw [← hX2.out]
        have h1 := rz_one
        have h3 := rz_sub 1 Q
        have h4 := rz_mul V (1 - Q)
        omega
      have hm8 : 1 ≤ 40 * i + 1 := by omega
      clear hraQ hrP hrV hw1 hJ0 hq0 hq1 hq2 hq3
      go_region_held3 (fun w' => w'.cell? ⟨b, 0, none⟩ = some ((.bool aaN)) ∧ w'.cell? ⟨b, 1, none⟩ = some ((.slice aaA aan aac)) ∧ w'.cell? ⟨b, 2, none⟩ = some ((.slice aaB aak aad)) ∧ w'.cell? ⟨g21, 0, none⟩ = some ((.bool ffN)) ∧ w'.cell? ⟨g21, 1, none⟩ = some ((.slice ffA ffn ffc)) ∧ w'.cell? ⟨g21, 2, none⟩ = some ((.slice ffB ffk ffd)) ∧ w'.cell? ⟨g17, 0, none⟩ = some ((.bool ooN)) ∧ w'.cell? ⟨g17, 1, none⟩ = some ((.slice ooA oon ooc)) ∧ w'.cell? ⟨g17, 2, none⟩ = some ((.slice ooB ook ood)) ∧ w'.cell? ⟨g19, 0, none⟩ = some ((.bool ssN)) ∧ w'.cell? ⟨g19, 1, none⟩ = some ((.slice ssA ssn ssc)) ∧ w'.cell? ⟨g19, 2, none⟩ = some ((.slice ssB ssk ssd)) ∧ w'.cell? ⟨b + 1, 0, none⟩ = some ((.bool vvN)) ∧ w'.cell? ⟨b + 1, 1, none⟩ = some ((.slice vvA vvn vvc)) ∧ w'.cell? ⟨b + 1, 2, none⟩ = some ((.slice vvB vvk vvd)) ∧ w'.cell? ⟨g23, 0, none⟩ = some ((.bool mmN)) ∧ w'.cell? ⟨g23, 1, none⟩ = some ((.slice mmA mmn mmc)) ∧ w'.cell? ⟨g23, 2, none⟩ = some ((.slice mmB mmk mmd)) ∧ RatV All w' (.agg #[.bool aaN, .slice aaA aan aac, .slice aaB aak aad]) Q ∧ RatV All w' (.agg #[.bool ffN, .slice ffA ffn ffc, .slice ffB ffk ffd]) F ∧ RatV All w' (.agg #[.bool ooN, .slice ooA oon ooc, .slice ooB ook ood]) 1 ∧ RatV All w' (.agg #[.bool ssN, .slice ssA ssn ssc, .slice ssB ssk ssd]) (P / V) ∧ RatI All w' (.agg #[.bool vvN, .slice vvA vvn vvc, .slice vvB vvk vvd]) V (40 * i + 1) ∧ RatV All w' (.agg #[.bool mmN, .slice mmA mmn mmc, .slice mmB mmk mmd]) X ∧ Below w.heap.size w w')
        ((first
          | exact (keep_and (keep_and (keep_and (keep_and (keep_and (keep_and (keep_and (keep_and (keep_and (keep_and (keep_and (keep_and (keep_and (keep_and (keep_and (keep_and (keep_and (keep_and (keep_p RatV.below (keep_p RatV.below (keep_p RatV.below (keep_p RatV.below (keep_p RatI.below (keep_p RatV.below (keep_end))))))))))))))))))))))))) ⟨aax0, aax1, aax2, ffx0, ffx1, ffx2, oox0, oox1, oox2, ssx0, ssx1, ssx2, vvx0, vvx1, vvx2, mmx0, mmx1, mmx2, hIaa, hIff, hIoo, hIss, hIvv, hImm, hB⟩ (below_drew _)
          | with_reducible exact (keep_and (keep_and (keep_and (keep_and (keep_and (keep_and (keep_and (keep_and (keep_and (keep_and (keep_and (keep_and (keep_and (keep_and (keep_and (keep_and (keep_and (keep_and (keep_p RatV.below (keep_p RatV.below (keep_p RatV.below (keep_p RatV.below (keep_p RatI.below (keep_p RatV.below (keep_end))))))))))))))))))))))))) (by with_reducible assumption) (below_drew _)
          | with_reducible exact (keep_and (keep_and (keep_and (keep_and (keep_and (keep_and (keep_and (keep_and (keep_and (keep_and (keep_and (keep_and (keep_and (keep_and (keep_and (keep_and (keep_and (keep_and (keep_p RatV.below (keep_p RatV.below (keep_p RatV.below (keep_p RatV.below (keep_p RatI.below (keep_p RatV.below (keep_end))))))))))))))))))))))))) (by with_reducible assumption) (by with_reducible assumption)))
        (first
          | (go_at_call 29; obtain ⟨_, _, _, _, _, _, _, _, _, _, _, _, _, _, _, _, _, _, hIaa, hIff, hIoo, hIss, hIvv, hImm, hB1⟩ := ‹(_ = some _) ∧ (_ = some _) ∧ (_ = some _) ∧ (_ = some _) ∧ (_ = some _) ∧ (_ = some _) ∧ (_ = some _) ∧ (_ = some _) ∧ (_ = some _) ∧ (_ = some _) ∧ (_ = some _) ∧ (_ = some _) ∧ (_ = some _) ∧ (_ = some _) ∧ (_ = some _) ∧ (_ = some _) ∧ (_ = some _) ∧ (_ = some _) ∧ RatV _ _ (.agg #[.bool aaN, .slice aaA aan aac, .slice aaB aak aad]) Q ∧ RatV _ _ (.agg #[.bool ffN, .slice ffA ffn ffc, .slice ffB ffk ffd]) F ∧ RatV _ _ (.agg #[.bool ooN, .slice ooA oon ooc, .slice ooB ook ood]) 1 ∧ RatV _ _ (.agg #[.bool ssN, .slice ssA ssn ssc, .slice ssB ssk ssd]) (P / V) ∧ RatI _ _ _ V _ ∧ RatV _ _ (.agg #[.bool mmN, .slice mmA mmn mmc, .slice mmB mmk mmd]) X ∧ Below _ _ _›; refine (rat_Sub _ hIoo.i hIss.i (rz_pos _) (rz_pos _) hs1).mono ?_; rintro e w41 ⟨u41, rfl, hL, hb⟩)
          | (go_at_call 28; obtain ⟨_, _, _, _, _, _, _, _, _, _, _, _, _, _, _, _, _, _, hIaa, hIff, hIoo, hIss, hIvv, hImm, hB1⟩ := ‹(_ = some _) ∧ (_ = some _) ∧ (_ = some _) ∧ (_ = some _) ∧ (_ = some _) ∧ (_ = some _) ∧ (_ = some _) ∧ (_ = some _) ∧ (_ = some _) ∧ (_ = some _) ∧ (_ = some _) ∧ (_ = some _) ∧ (_ = some _) ∧ (_ = some _) ∧ (_ = some _) ∧ (_ = some _) ∧ (_ = some _) ∧ (_ = some _) ∧ RatV _ _ (.agg #[.bool aaN, .slice aaA aan aac, .slice aaB aak aad]) Q ∧ RatV _ _ (.agg #[.bool ffN, .slice ffA ffn ffc, .slice ffB ffk ffd]) F ∧ RatV _ _ (.agg #[.bool ooN, .slice ooA oon ooc, .slice ooB ook ood]) 1 ∧ RatV _ _ (.agg #[.bool ssN, .slice ssA ssn ssc, .slice ssB ssk ssd]) (P / V) ∧ RatI _ _ _ V _ ∧ RatV _ _ (.agg #[.bool mmN, .slice mmA mmn mmc, .slice mmB mmk mmd]) X ∧ Below _ _ _›; refine (rat_Mul _ hIff.i hL.i (rz_pos _) (rz_pos _) hs2).mono ?_; rw [hFe.out]; rintro e w42 ⟨u42, rfl, hXr, hb⟩)
          | (go_at_call 27; obtain ⟨_, _, _, _, _, _, _, _, _, _, _, _, _, _, _, _, _, _, hIaa, hIff, hIoo, hIss, hIvv, hImm, hB1⟩ := ‹(_ = some _) ∧ (_ = some _) ∧ (_ = some _) ∧ (_ = some _) ∧ (_ = some _) ∧ (_ = some _) ∧ (_ = some _) ∧ (_ = some _) ∧ (_ = some _) ∧ (_ = some _) ∧ (_ = some _) ∧ (_ = some _) ∧ (_ = some _) ∧ (_ = some _) ∧ (_ = some _) ∧ (_ = some _) ∧ (_ = some _) ∧ (_ = some _) ∧ RatV _ _ (.agg #[.bool aaN, .slice aaA aan aac, .slice aaB aak aad]) Q ∧ RatV _ _ (.agg #[.bool ffN, .slice ffA ffn ffc, .slice ffB ffk ffd]) F ∧ RatV _ _ (.agg #[.bool ooN, .slice ooA oon ooc, .slice ooB ook ood]) 1 ∧ RatV _ _ (.agg #[.bool ssN, .slice ssA ssn ssc, .slice ssB ssk ssd]) (P / V) ∧ RatI _ _ _ V _ ∧ RatV _ _ (.agg #[.bool mmN, .slice mmA mmn mmc, .slice mmB mmk mmd]) X ∧ Below _ _ _›; refine (law_same _ hIaa hXr hs3).mono ?_; rintro e w43 ⟨rfl, hb⟩))
      all_goals
        go_wp2_with fail
        go_region_held3 (fun w' => w'.cell? ⟨b, 0, none⟩ = some ((.bool aaN)) ∧ w'.cell? ⟨b, 1, none⟩ = some ((.slice aaA aan aac)) ∧ w'.cell? ⟨b, 2, none⟩ = some ((.slice aaB aak aad)) ∧ w'.cell? ⟨g21, 0, none⟩ = some ((.bool ffN)) ∧ w'.cell? ⟨g21, 1, none⟩ = some ((.slice ffA ffn ffc)) ∧ w'.cell? ⟨g21, 2, none⟩ = some ((.slice ffB ffk ffd)) ∧ w'.cell? ⟨g17, 0, none⟩ = some ((.bool ooN)) ∧ w'.cell? ⟨g17, 1, none⟩ = some ((.slice ooA oon ooc)) ∧ w'.cell? ⟨g17, 2, none⟩ = some ((.slice ooB ook ood)) ∧ w'.cell? ⟨g19, 0, none⟩ = some ((.bool ssN)) ∧ w'.cell? ⟨g19, 1, none⟩ = some ((.slice ssA ssn ssc)) ∧ w'.cell? ⟨g19, 2, none⟩ = some ((.slice ssB ssk ssd)) ∧ w'.cell? ⟨b + 1, 0, none⟩ = some ((.bool vvN)) ∧ w'.cell? ⟨b + 1, 1, none⟩ = some ((.slice vvA vvn vvc)) ∧ w'.cell? ⟨b + 1, 2, none⟩ = some ((.slice vvB vvk vvd)) ∧ w'.cell? ⟨g23, 0, none⟩ = some ((.bool mmN)) ∧ w'.cell? ⟨g23, 1, none⟩ = some ((.slice mmA mmn mmc)) ∧ w'.cell? ⟨g23, 2, none⟩ = some ((.slice mmB mmk mmd)) ∧ RatV All w' (.agg #[.bool aaN, .slice aaA aan aac, .slice aaB aak aad]) Q ∧ RatV All w' (.agg #[.bool ffN, .slice ffA ffn ffc, .slice ffB ffk ffd]) F ∧ RatV All w' (.agg #[.bool ooN, .slice ooA oon ooc, .slice ooB ook ood]) 1 ∧ RatV All w' (.agg #[.bool ssN, .slice ssA ssn ssc, .slice ssB ssk ssd]) (P / V) ∧ RatI All w' (.agg #[.bool vvN, .slice vvA vvn vvc, .slice vvB vvk vvd]) V (40 * i + 1) ∧ RatV All w' (.agg #[.bool mmN, .slice mmA mmn mmc, .slice mmB mmk mmd]) X ∧ Below w.heap.size w w')
          ((first
            | exact (keep_and (keep_and (keep_and (keep_and (keep_and (keep_and (keep_and (keep_and (keep_and (keep_and (keep_and (keep_and (keep_and (keep_and (keep_and (keep_and (keep_and (keep_and (keep_p RatV.below (keep_p RatV.below (keep_p RatV.below (keep_p RatV.below (keep_p RatI.below (keep_p RatV.below (keep_end))))))))))))))))))))))))) (by with_reducible assumption) (below_drew _)
            | with_reducible exact (keep_and (keep_and (keep_and (keep_and (keep_and (keep_and (keep_and (keep_and (keep_and (keep_and (keep_and (keep_and (keep_and (keep_and (keep_and (keep_and (keep_and (keep_and (keep_p RatV.below (keep_p RatV.below (keep_p RatV.below (keep_p RatV.below (keep_p RatI.below (keep_p RatV.below (keep_end))))))))))))))))))))))))) (by with_reducible assumption) (below_drew _)
            | with_reducible exact (keep_and (keep_and (keep_and (keep_and (keep_and (keep_and (keep_and (keep_and (keep_and (keep_and (keep_and (keep_and (keep_and (keep_and (keep_and (keep_and (keep_and (keep_and (keep_p RatV.below (keep_p RatV.below (keep_p RatV.below (keep_p RatV.below (keep_p RatI.below (keep_p RatV.below (keep_end))))))))))))))))))))))))) (by with_reducible assumption) (by with_reducible assumption)))
          (first
            | (go_at_call 29; obtain ⟨_, _, _, _, _, _, _, _, _, _, _, _, _, _, _, _, _, _, hIaa, hIff, hIoo, hIss, hIvv, hImm, hB1⟩ := ‹(_ = some _) ∧ (_ = some _) ∧ (_ = some _) ∧ (_ = some _) ∧ (_ = some _) ∧ (_ = some _) ∧ (_ = some _) ∧ (_ = some _) ∧ (_ = some _) ∧ (_ = some _) ∧ (_ = some _) ∧ (_ = some _) ∧ (_ = some _) ∧ (_ = some _) ∧ (_ = some _) ∧ (_ = some _) ∧ (_ = some _) ∧ (_ = some _) ∧ RatV _ _ (.agg #[.bool aaN, .slice aaA aan aac, .slice aaB aak aad]) Q ∧ RatV _ _ (.agg #[.bool ffN, .slice ffA ffn ffc, .slice ffB ffk ffd]) F ∧ RatV _ _ (.agg #[.bool ooN, .slice ooA oon ooc, .slice ooB ook ood]) 1 ∧ RatV _ _ (.agg #[.bool ssN, .slice ssA ssn ssc, .slice ssB ssk ssd]) (P / V) ∧ RatI _ _ _ V _ ∧ RatV _ _ (.agg #[.bool mmN, .slice mmA mmn mmc, .slice mmB mmk mmd]) X ∧ Below _ _ _›; refine (rat_Sub _ hIoo.i hIaa.i (rz_pos _) (rz_pos _) hs4).mono ?_; rintro e w51 ⟨u51, rfl, hL2, hb⟩)
            | (go_at_call 28; obtain ⟨_, _, _, _, _, _, _, _, _, _, _, _, _, _, _, _, _, _, hIaa, hIff, hIoo, hIss, hIvv, hImm, hB1⟩ := ‹(_ = some _) ∧ (_ = some _) ∧ (_ = some _) ∧ (_ = some _) ∧ (_ = some _) ∧ (_ = some _) ∧ (_ = some _) ∧ (_ = some _) ∧ (_ = some _) ∧ (_ = some _) ∧ (_ = some _) ∧ (_ = some _) ∧ (_ = some _) ∧ (_ = some _) ∧ (_ = some _) ∧ (_ = some _) ∧ (_ = some _) ∧ (_ = some _) ∧ RatV _ _ (.agg #[.bool aaN, .slice aaA aan aac, .slice aaB aak aad]) Q ∧ RatV _ _ (.agg #[.bool ffN, .slice ffA ffn ffc, .slice ffB ffk ffd]) F ∧ RatV _ _ (.agg #[.bool ooN, .slice ooA oon ooc, .slice ooB ook ood]) 1 ∧ RatV _ _ (.agg #[.bool ssN, .slice ssA ssn ssc, .slice ssB ssk ssd]) (P / V) ∧ RatI _ _ _ V _ ∧ RatV _ _ (.agg #[.bool mmN, .slice mmA mmn mmc, .slice mmB mmk mmd]) X ∧ Below _ _ _›; refine (rat_Mul _ hIvv hL2.i hm8 (rz_pos _) hs5).mono ?_; rw [hX2.out]; rintro e w52 ⟨u52, rfl, hXs, hb⟩)
            | (go_at_call 27; obtain ⟨_, _, _, _, _, _, _, _, _, _, _, _, _, _, _, _, _, _, hIaa, hIff, hIoo, hIss, hIvv, hImm, hB1⟩ := ‹(_ = some _) ∧ (_ = some _) ∧ (_ = some _) ∧ (_ = some _) ∧ (_ = some _) ∧ (_ = some _) ∧ (_ = some _) ∧ (_ = some _) ∧ (_ = some _) ∧ (_ = some _) ∧ (_ = some _) ∧ (_ = some _) ∧ (_ = some _) ∧ (_ = some _) ∧ (_ = some _) ∧ (_ = some _) ∧ (_ = some _) ∧ (_ = some _) ∧ RatV _ _ (.agg #[.bool aaN, .slice aaA aan aac, .slice aaB aak aad]) Q ∧ RatV _ _ (.agg #[.bool ffN, .slice ffA ffn ffc, .slice ffB ffk ffd]) F ∧ RatV _ _ (.agg #[.bool ooN, .slice ooA oon ooc, .slice ooB ook ood]) 1 ∧ RatV _ _ (.agg #[.bool ssN, .slice ssA ssn ssc, .slice ssB ssk ssd]) (P / V) ∧ RatI _ _ _ V _ ∧ RatV _ _ (.agg #[.bool mmN, .slice mmA mmn mmc, .slice mmB mmk mmd]) X ∧ Below _ _ _›; refine (law_same _ hImm hXs hs6).mono ?_; rintro e w53 ⟨rfl, hb⟩; have hBB := hB1.after hB1.size hb))
        all_goals
          go_wp2_with fail
          go_ret
          exact ⟨rfl, hBB⟩
end Go.Proofs.Ytdbpjnjgjmfomaa
