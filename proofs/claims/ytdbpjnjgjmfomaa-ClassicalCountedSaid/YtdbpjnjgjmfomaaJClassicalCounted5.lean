/- Joined texts: RefAll, AlphaPure, AlphaSum, Alpha1, Mix, AppI, LawGc0, LawGc, LawGd, LawGe, IntsOpen. -/
import Derived.Test.YtdbpjnjgjmfomaaJClassicalCounted4
import Derived.ChangeArms
import Derived.ChangeSame
import Derived.ChangeSlices
import Derived.Deep.Slices
/- The reference's rules of scores: within, all. -/
namespace Go.Proofs.Ytdbpjnjgjmfomaa
open Go.RowKit

set_option maxHeartbeats 4000000 in
set_option maxRecDepth 100000 in
theorem ref_within (w : World) (x : Int) :
    Calls Try.prog 82 #[.int .i64 x] w fun e w' => e = .returned (.bool (decide (-1000000 ≤ x) && decide (x ≤ 1000000))) ∧ Drawn w w' := by
  by_cases h1 : -1000000 ≤ x
  · have b1 : (-1000000 ≤ x) = True := eq_true h1
    by_cases h2 : x ≤ 1000000
    · have hz : As ((decide (-1000000 ≤ x) && decide (x ≤ 1000000)) = true) := ⟨by simp [h1, h2]⟩
      have b2 : (x ≤ 1000000) = True := eq_true h2
      go_enter Try.func82, Try.ntmps82
      go_wp2_with fail
      go_ret
      exact ⟨by first | rfl | (simp; omega) | simp, by repeat (first | exact Drawn.refl _ | apply Drawn.step)⟩
    · have b2 : (x ≤ 1000000) = False := eq_false h2
      go_enter Try.func82, Try.ntmps82
      go_wp2_with fail
      go_ret
      exact ⟨by first | rfl | (simp; omega) | simp, by repeat (first | exact Drawn.refl _ | apply Drawn.step)⟩
  · have b1 : (-1000000 ≤ x) = False := eq_false h1
    go_enter Try.func82, Try.ntmps82
    go_wp2_with fail
    go_ret
    exact ⟨by first | rfl | (simp; omega) | simp, by repeat (first | exact Drawn.refl _ | apply Drawn.step)⟩

set_option maxHeartbeats 4000000 in
set_option maxRecDepth 100000 in
theorem ref_all {S : Nat → Prop} {v : Value} {l : List Int} (w : World) (hv : IntsV S w v l) (hm : l.length ≤ 140737488351232) :
    Calls Try.prog 46 #[v] w fun e w' => e = .returned (.bool (okScores l)) ∧ Drawn w w' := by
  obtain ⟨A, c, rfl⟩ := hv.slice
  obtain ⟨n, hn⟩ : ∃ n, l.length = n := ⟨_, rfl⟩
  rw [hn] at hm ⊢
  rw [hn] at hv
  replace hn := As.mk hn
  go_enter Try.func46, Try.ntmps46
  go_wp2_with fail
  go_loopw [3] (fun v3 wr => ∃ k : Nat, k ≤ n ∧ v3 = .int .i64 k ∧ As (okScores l = okScores (l.drop k)) ∧ Drawn w wr) (fun v3 _ => (n - intOf v3).toNat)
  case atStart => exact ⟨0, by omega, rfl, ⟨by simp⟩, by repeat (first | exact Drawn.refl _ | apply Drawn.step)⟩
  case round =>
    obtain ⟨k, hk, rfl, hI, hd⟩ := hrel
    by_cases hlt : k < n
    · obtain ⟨ad, hA, hc⟩ := (hv.below hd.below).cells (by have := hn.out; omega)
      subst hA
      have hck := hc k (by have := hn.out; omega)
      have hst : As (okScores (l.drop k) = (decide (-1000000 ≤ l.getD k 0) && decide (l.getD k 0 ≤ 1000000) && okScores (l.drop (k + 1)))) := ⟨by
        have hkl : k < l.length := by have := hn.out; omega
        unfold okScores
        rw [List.drop_eq_getElem_cons hkl, List.all_cons, List.getD_eq_getElem?_getD, List.getElem?_eq_getElem hkl]; rfl⟩
      clear hc
      generalize l.getD k 0 = x at *
      have b1 : ((k : Int) < (n : Int)) = True := eq_true (by omega)
      have b3 : (0 ≤ (k : Int)) = True := eq_true (by omega)
      obtain ⟨B, hB⟩ : ∃ B, (decide (-1000000 ≤ x) && decide (x ≤ 1000000)) = B := ⟨_, rfl⟩
      have HW : As (∀ W, Calls Try.prog 82 #[.int .i64 x] W fun e w' => e = .returned (.bool B) ∧ Drawn W w') := ⟨fun W => by rw [← hB]; exact ref_within W x⟩
      rw [hB] at hst
      clear hB
      go_wp2_with fail
      refine (HW.out _).mono ?_
      rintro e w1 ⟨rfl, h1⟩
      have hd1 : Drawn w w1 := by
        obtain ⟨a1, rfl⟩ := hd
        obtain ⟨a2, rfl⟩ := h1
        exact ⟨⟨a1 + a2, World.drewN_drewN ..⟩⟩
      clear h1 HW
      cases B
      · have R : As (okScores l = false) := ⟨by rw [hI.out, hst.out]; rfl⟩
        clear hI hst
        go_wp2_with fail
        go_ret
        exact ⟨by rw [R.out]; rfl, by repeat (first | exact hd1 | apply Drawn.step)⟩
      · have R : As (okScores l = okScores (l.drop (k + 1))) := ⟨by rw [hI.out, hst.out]; rfl⟩
        clear hI hst
        go_wp2_with fail
        go_roundw
        case rel => exact ⟨k + 1, by omega, by go_num, R, by repeat (first | exact hd1 | apply Drawn.step)⟩
        case measure => simp [intOf]; omega
    · obtain rfl : k = n := by omega
      have R : As (okScores l = true) := ⟨by rw [hI.out, ← hn.out]; simp [okScores]⟩
      clear hI
      go_wp2_with fail
      go_ret
      exact ⟨by rw [R.out]; rfl, by repeat (first | exact hd | apply Drawn.step)⟩
end Go.Proofs.Ytdbpjnjgjmfomaa

/- The reliability coefficient in plain Lean: columns, totals, and that the covariances of all columns add up to the variance of the totals. -/
namespace Go.Proofs.Ytdbpjnjgjmfomaa
open Go.RowKit

def col (rows : List (List Int)) (i : Nat) : List Int := rows.map (fun r => r.getD i 0)
/-- The sum of the first k numbers of a row, of each row. -/
def totp (rows : List (List Int)) (k : Nat) : List Int := rows.map (fun r => sm r k)
theorem col_length (rows : List (List Int)) (i : Nat) : (col rows i).length = rows.length := by simp [col]
theorem totp_length (rows : List (List Int)) (k : Nat) : (totp rows k).length = rows.length := by simp [totp]
theorem col_get (rows : List (List Int)) (i p : Nat) : (col rows i).getD p 0 = (rows.getD p []).getD i 0 := by
  unfold col
  rcases Nat.lt_or_ge p rows.length with h | h
  · simp [List.getD_eq_getElem?_getD, List.getElem?_eq_getElem h]
  · simp [List.getD_eq_getElem?_getD, List.getElem?_eq_none h]
theorem sm_nil (k : Nat) : sm [] k = 0 := by
  induction k with
  | zero => rfl
  | succ k ih => rw [sm, ih]; simp
theorem totp_get (rows : List (List Int)) (k p : Nat) : (totp rows k).getD p 0 = sm (rows.getD p []) k := by
  unfold totp
  rcases Nat.lt_or_ge p rows.length with h | h
  · simp [List.getD_eq_getElem?_getD, List.getElem?_eq_getElem h]
  · simp [List.getD_eq_getElem?_getD, List.getElem?_eq_none h, sm_nil]
theorem totp_succ (rows : List (List Int)) (k p : Nat) : (totp rows (k + 1)).getD p 0 = (totp rows k).getD p 0 + (col rows k).getD p 0 := by
  rw [totp_get, totp_get, col_get, sm]

/-- The sum of the columns' variances, of the first k. -/
def partR (rows : List (List Int)) : Nat → Rat
  | 0 => 0
  | k + 1 => partR rows k + covR (col rows k) (col rows k)
def allR (rows : List (List Int)) (k : Nat) : Rat := covR (totp rows k) (totp rows k)

structure InOrder (rows : List (List Int)) (k : Nat) : Prop where
  few : rows.length ≤ 200
  some : 0 < rows.length
  len : ∀ p, p < rows.length → (rows.getD p []).length = k
  two : 2 ≤ k
  sixty : k ≤ 60
  ok : ∀ p, p < rows.length → okScores (rows.getD p []) = true
theorem any_false {α : Type} {l : List α} {p : α → Bool} (h : l.any p = false) (d : α) (i : Nat) (hi : i < l.length) : p (l.getD i d) = false := by
  have := List.any_eq_false.1 h (l.getD i d) (by rw [List.getD_eq_getElem?_getD, List.getElem?_eq_getElem hi]; exact List.getElem_mem hi)
  simpa using this
theorem table_zero {rows : List (List Int)} (h : tableE rows = 0) : InOrder rows (rows.getD 0 []).length := by
  unfold tableE at h
  by_cases h1 : 200 < rows.length
  · rw [if_pos h1] at h; omega
  rw [if_neg h1] at h
  cases h2 : rows.any long
  · rw [h2] at h
    rw [if_neg (by simp)] at h
    cases h3 : rows.any wild
    · rw [h3] at h
      rw [if_neg (by simp)] at h
      cases h4 : rows.any (odd (rows.getD 0 []).length)
      · rw [h4] at h
        rw [if_neg (by simp)] at h
        by_cases h5 : rows.length = 0
        · rw [if_pos h5] at h; omega
        · have hp : 0 < rows.length := by omega
          have e0 := any_false h4 [] 0 hp
          have e1 := any_false h2 [] 0 hp
          simp [odd] at e0
          simp [long] at e1
          refine ⟨by omega, hp, fun p hp => ?_, by simpa using e0, by simpa using e1, fun p hp => ?_⟩
          · have := any_false h4 [] p hp
            simp [odd] at this
            simpa using this.2
          · have := any_false h3 [] p hp
            simpa [wild] using this
      · rw [h4] at h; simp at h
    · rw [h3] at h; simp at h
  · rw [h2] at h; simp at h
theorem InOrder.score {rows : List (List Int)} {k : Nat} (h : InOrder rows k) (p i : Nat) : -1000000 ≤ (rows.getD p []).getD i 0 ∧ (rows.getD p []).getD i 0 ≤ 1000000 := by
  rcases Nat.lt_or_ge p rows.length with hp | hp
  · rcases Nat.lt_or_ge i (rows.getD p []).length with hi | hi
    · exact okScores_at (h.ok p hp) i hi
    · rw [List.getD_eq_getElem?_getD (l := rows.getD p []), List.getElem?_eq_none hi]; simp
  · rw [List.getD_eq_getElem?_getD (l := rows), List.getElem?_eq_none hp]; simp
theorem sm_small {x : List Int} (h : ∀ i, -1000000 ≤ x.getD i 0 ∧ x.getD i 0 ≤ 1000000) (k : Nat) : -(1000000 * (k : Int)) ≤ sm x k ∧ sm x k ≤ 1000000 * (k : Int) := by
  induction k with
  | zero => simp [sm]
  | succ k ih => rw [sm]; have := h k; omega
theorem InOrder.colmod {rows : List (List Int)} {k : Nat} (h : InOrder rows k) (i : Nat) : Mod (col rows i) := fun p => by
  rw [col_get]; have := h.score p i; omega
theorem InOrder.totmod {rows : List (List Int)} {k : Nat} (h : InOrder rows k) (j : Nat) (hj : j ≤ 60) : Mod (totp rows j) := fun p => by
  rw [totp_get]; have := sm_small (fun i => h.score p i) j; omega
theorem rz_part {rows : List (List Int)} {k : Nat} (h : InOrder rows k) (j : Nat) : rz (partR rows j) ≤ 8 * j + 1 := by
  induction j with
  | zero =>
    have := rz_small 0 1 (by decide) (by decide)
    have e : ((0 : Int) : Rat) / ((1 : Int) : Rat) = 0 := by simp [Rat.div_def]
    rw [partR]
    have h1 := rz_int 0 1
    rw [e] at h1
    have h2 : sz (0 : Int) = 0 := (dig_nil_iff 0).2 rfl
    have h3 : sz (1 : Int) ≤ 1 := dig_one_len
    omega
  | succ j ih =>
    rw [partR]
    have h1 := rz_add (partR rows j) (covR (col rows j) (col rows j))
    have h2 := rz_covR _ _ (h.colmod j) (h.colmod j) (by rw [col_length]; exact h.few)
    omega
end Go.Proofs.Ytdbpjnjgjmfomaa

/- The covariances of all columns add up to the variance of the totals. -/
namespace Go.Proofs.Ytdbpjnjgjmfomaa
open Go.RowKit

theorem sm_sum {x y z : List Int} (h : ∀ p, x.getD p 0 = y.getD p 0 + z.getD p 0) (m : Nat) : sm x m = sm y m + sm z m := by
  induction m with
  | zero => rfl
  | succ m ih => rw [sm, sm, sm, ih, h]; omega
theorem dt_suml {x y z : List Int} (u : List Int) (h : ∀ p, x.getD p 0 = y.getD p 0 + z.getD p 0) (m : Nat) : dt x u m = dt y u m + dt z u m := by
  induction m with
  | zero => rfl
  | succ m ih => rw [dt, dt, dt, ih, h, Int.add_mul]; omega
theorem dt_comm (x y : List Int) (m : Nat) : dt x y m = dt y x m := by
  induction m with
  | zero => rfl
  | succ m ih => rw [dt, dt, ih, Int.mul_comm]
theorem cov_suml {x y z : List Int} (u : List Int) (h : ∀ p, x.getD p 0 = y.getD p 0 + z.getD p 0) (hy : y.length = x.length) (hz : z.length = x.length) : covR x u = covR y u + covR z u := by
  unfold covR
  rw [hy, hz, dt_suml u h, sm_sum h, Rat.intCast_add, Rat.intCast_add]
  grind
theorem cov_comm {x y : List Int} (h : y.length = x.length) : covR x y = covR y x := by
  unfold covR
  rw [h, dt_comm]
  grind
/-- The sum of the first m covariances with column i; of the first m of these sums. -/
def crossR (rows : List (List Int)) (i : Nat) : Nat → Rat
  | 0 => 0
  | j + 1 => crossR rows i j + covR (col rows i) (col rows j)
theorem sm_zero {x : List Int} (h : ∀ p, x.getD p 0 = 0) (m : Nat) : sm x m = 0 := by
  induction m with
  | zero => rfl
  | succ m ih => rw [sm, ih, h]; rfl
theorem dt_zerol {x : List Int} (u : List Int) (h : ∀ p, x.getD p 0 = 0) (m : Nat) : dt x u m = 0 := by
  induction m with
  | zero => rfl
  | succ m ih => rw [dt, ih, h]; simp
theorem cov_zerol {x : List Int} (u : List Int) (h : ∀ p, x.getD p 0 = 0) : covR x u = 0 := by
  unfold covR
  rw [sm_zero h, dt_zerol u h]
  grind
theorem totp_zero (rows : List (List Int)) (p : Nat) : (totp rows 0).getD p 0 = 0 := by rw [totp_get]; rfl
theorem cross_eq (rows : List (List Int)) (i j : Nat) : crossR rows i j = covR (totp rows j) (col rows i) := by
  induction j with
  | zero => rw [crossR, cov_zerol _ (totp_zero rows)]
  | succ j ih =>
    rw [crossR, ih, cov_suml (x := totp rows (j + 1)) (col rows i) (fun p => totp_succ rows j p) (by simp [totp_length]) (by simp [totp_length, col_length])]
    rw [cov_comm (x := col rows i) (y := col rows j) (by simp [col_length])]
def sumR (rows : List (List Int)) (k : Nat) : Nat → Rat
  | 0 => 0
  | i + 1 => sumR rows k i + crossR rows i k
theorem sum_eq (rows : List (List Int)) (k m : Nat) : sumR rows k m = covR (totp rows m) (totp rows k) := by
  induction m with
  | zero => rw [sumR, cov_zerol _ (totp_zero rows)]
  | succ m ih =>
    rw [sumR, ih, cross_eq, cov_suml (x := totp rows (m + 1)) (totp rows k) (fun p => totp_succ rows m p) (by simp [totp_length]) (by simp [totp_length, col_length])]
    rw [cov_comm (x := totp rows k) (y := col rows m) (by simp [totp_length, col_length])]
theorem all_eq (rows : List (List Int)) (k : Nat) : sumR rows k k = allR rows k := sum_eq rows k k
end Go.Proofs.Ytdbpjnjgjmfomaa

/- classical.alpha where the table is not in order. -/
namespace Go.Proofs.Ytdbpjnjgjmfomaa
open Go.RowKit

/-- A ratio behind three stores into another block. -/
theorem RatV.set3 {S : Nat → Prop} {w : World} {v x y z : Value} {q : Rat} {b : Nat} (h : RatV S w v q) (hb : ¬ S b) : RatV S (((w.setCell ⟨b, 0, none⟩ x).setCell ⟨b, 1, none⟩ y).setCell ⟨b, 2, none⟩ z) v q := by
  obtain ⟨u, d, e, hu, hd⟩ := h
  exact ⟨u, d, e, ((hu.stored hb _).stored hb _).stored hb _, ((hd.stored hb _).stored hb _).stored hb _⟩
theorem Below.set3 {w W : World} {b : Nat} {x y z : Value} (h : Below w.heap.size w W) (hb : w.heap.size ≤ b) : Below w.heap.size w (((W.setCell ⟨b, 0, none⟩ x).setCell ⟨b, 1, none⟩ y).setCell ⟨b, 2, none⟩ z) :=
  ((h.setCell hb _).setCell hb _).setCell hb _
theorem Res.cells3 {w : World} {b : Nat} (h : Res w b 3) : (∃ x, w.cell? ⟨b, 0, none⟩ = some x) ∧ (∃ x, w.cell? ⟨b, 1, none⟩ = some x) ∧ (∃ x, w.cell? ⟨b, 2, none⟩ = some x) ∧ w.frozen? ⟨b, 0, none⟩ = false ∧ w.frozen? ⟨b, 1, none⟩ = false ∧ w.frozen? ⟨b, 2, none⟩ = false :=
  ⟨(h.2 0 (by omega)).1, (h.2 1 (by omega)).1, (h.2 2 (by omega)).1, (h.2 0 (by omega)).2, (h.2 1 (by omega)).2, (h.2 2 (by omega)).2⟩

set_option maxHeartbeats 8000000 in
set_option maxRecDepth 100000 in
theorem cls_alpha_no {S : Nat → Prop} {v : Value} {rows : List (List Int)} (w : World) (hv : RowsV S w v rows) (hm : rows.length ≤ 140737488351232) (hr : ∀ i, (rows.getD i []).length ≤ 140737488351232) (hE : tableE rows ≠ 0) :
    Calls Try.prog 48 #[v] w fun e w' => ∃ r s, e = .returned (.tuple #[r, s, .int .i64 (tableE rows)]) ∧ RatV (New w) w' r 0 ∧ RatV (New w) w' s 0 ∧ Below w.heap.size w w' := by
  obtain ⟨A, c, rfl⟩ := hv.slice
  obtain ⟨E, hEE⟩ : ∃ E, tableE rows = E := ⟨_, rfl⟩
  have HT : As (∀ W, Below w.heap.size w W → Calls Try.prog 83 #[.slice A rows.length c] W fun e w' => e = .returned (.int .i64 E) ∧ Drawn W w') := ⟨fun W hb => by
    rw [← hEE]
    exact cls_table W (hv.below hb) hm hr⟩
  rw [hEE] at hE ⊢
  have hEb : (E == 0) = false := beq_eq_false_iff_ne.2 hE
  clear hv hm hr hEE
  generalize rows.length = n at *
  go_enter Try.func48, Try.ntmps48
  go_wp2_with fail
  obtain ⟨W, hW⟩ : ∃ W, ((w.alloc (Obj.cells #[Value.bool false, Value.slice none 0 0, Value.slice none 0 0] 40)).alloc (Obj.cells #[Value.bool false, Value.slice none 0 0, Value.slice none 0 0] 40)) = W := ⟨_, rfl⟩
  have hs : W.heap.size = w.heap.size + 2 := by rw [← hW]; simp
  have hB : Below w.heap.size w W := by rw [← hW]; exact (((Below.refl _ _).alloc (by simp <;> omega) _).alloc (by simp <;> omega) _)
  have hR0 : Res W (w.heap.size) 3 := ⟨by omega, fun i hi => by
    subst hW
    rcases (by omega : i = 0 ∨ i = 1 ∨ i = 2) with rfl | rfl | rfl
    · exact ⟨⟨.bool false, by simp [go_sem]⟩, by simp [go_sem]⟩
    · exact ⟨⟨.slice none 0 0, by simp [go_sem]⟩, by simp [go_sem]⟩
    · exact ⟨⟨.slice none 0 0, by simp [go_sem]⟩, by simp [go_sem]⟩⟩
  have hR1 : Res W (w.heap.size + 1) 3 := ⟨by omega, fun i hi => by
    subst hW
    rcases (by omega : i = 0 ∨ i = 1 ∨ i = 2) with rfl | rfl | rfl
    · exact ⟨⟨.bool false, by simp [go_sem]⟩, by simp [go_sem]⟩
    · exact ⟨⟨.slice none 0 0, by simp [go_sem]⟩, by simp [go_sem]⟩
    · exact ⟨⟨.slice none 0 0, by simp [go_sem]⟩, by simp [go_sem]⟩⟩
  rw [hW]
  clear hW
  have hS : Below w.heap.size w W ∧ Res W w.heap.size 3 ∧ Res W (w.heap.size + 1) 3 := ⟨hB, hR0, hR1⟩
  clear hR0 hR1
  refine (HT.out _ hB).mono ?_
  rintro e w1 ⟨rfl, ⟨m1, rfl⟩⟩
  replace hS := (keep_B (keep_R (Res.below))) hS ((Below.refl _ _).drewsN m1)
  have hlW : w.heap.size + 2 ≤ W.heap.size := by omega
  clear hB HT
  generalize hW1 : W.drewN m1 = W1 at *
  have hlW1 : w.heap.size + 2 ≤ W1.heap.size := by rw [← hW1]; exact hlW
  clear hW1 hs hlW
  go_wp2_with fail
  refine (cls_zero _).mono ?_
  rintro e w2 ⟨r1, rfl, hr1, hb2⟩
  have hR9 := hS.2
  replace hS := (keep_B (keep_R (Res.below))) hS hb2
  have hlw2 := hb2.size
  go_wp2_with fail
  refine (cls_zero _).mono ?_
  rintro e w3 ⟨r2, rfl, hr2, hb3⟩
  replace hS := (keep_B (keep_R (Res.below))) hS hb3
  replace hr1 := hr1.below hb3
  obtain ⟨A1, c1, B1, d1, rfl⟩ := hr1.slice
  obtain ⟨A2, c2, B2, d2, rfl⟩ := hr2.slice
  obtain ⟨⟨x0, g0⟩, ⟨x1, g1⟩, ⟨x2, g2⟩, f0, f1, f2⟩ := hS.2.1.cells3
  obtain ⟨⟨y0, k0⟩, ⟨y1, k1⟩, ⟨y2, k2⟩, l0, l1, l2⟩ := hS.2.2.cells3
  have hst1 : As (∀ x y z x' y' z', RatV (New w) ((((((w3.setCell ⟨w.heap.size, 0, none⟩ x).setCell ⟨w.heap.size, 1, none⟩ y).setCell ⟨w.heap.size, 2, none⟩ z).setCell ⟨w.heap.size + 1, 0, none⟩ x').setCell ⟨w.heap.size + 1, 1, none⟩ y').setCell ⟨w.heap.size + 1, 2, none⟩ z') (.agg #[.bool (decide ((0 : Rat).num < 0)), .slice A1 (sz (0 : Rat).num) c1, .slice B1 (dig (0 : Rat).den).length d1]) 0) := ⟨fun x y z x' y' z' =>
    ((hr1.set3 (by show ¬ W1.heap.size ≤ _; omega)).set3 (by show ¬ W1.heap.size ≤ _; omega)).mono (fun k hk _ => by have : W1.heap.size ≤ k := hk; show w.heap.size ≤ k; omega)⟩
  have hst2 : As (∀ x y z x' y' z', RatV (New w) ((((((w3.setCell ⟨w.heap.size, 0, none⟩ x).setCell ⟨w.heap.size, 1, none⟩ y).setCell ⟨w.heap.size, 2, none⟩ z).setCell ⟨w.heap.size + 1, 0, none⟩ x').setCell ⟨w.heap.size + 1, 1, none⟩ y').setCell ⟨w.heap.size + 1, 2, none⟩ z') (.agg #[.bool (decide ((0 : Rat).num < 0)), .slice A2 (sz (0 : Rat).num) c2, .slice B2 (dig (0 : Rat).den).length d2]) 0) := ⟨fun x y z x' y' z' =>
    ((hr2.set3 (by show ¬ w2.heap.size ≤ _; omega)).set3 (by show ¬ w2.heap.size ≤ _; omega)).mono (fun k hk _ => by have : w2.heap.size ≤ k := hk; show w.heap.size ≤ k; omega)⟩
  have hB9 := As.mk hS.1
  clear hS hR9 hr1 hr2 hb2 hb3
  go_wp2_with fail
  refine bodyPost_ret (v := .tuple #[.agg #[.bool (decide ((0 : Rat).num < 0)), .slice A1 (sz (0 : Rat).num) c1, .slice B1 (dig (0 : Rat).den).length d1], .agg #[.bool (decide ((0 : Rat).num < 0)), .slice A2 (sz (0 : Rat).num) c2, .slice B2 (dig (0 : Rat).den).length d2], .int .i64 E]) (by simp [results, Try.results48, go_sem, g0, g1, g2, k0, k1, k2]) rfl ?_
  exact ⟨_, _, rfl, hst1.out _ _ _ _ _ _, hst2.out _ _ _ _ _ _, Below.set3 (Below.set3 hB9.out (Nat.le_refl _)) (by omega)⟩
end Go.Proofs.Ytdbpjnjgjmfomaa

/- A list whose first p numbers are of one list, the others of another. -/
namespace Go.Proofs.Ytdbpjnjgjmfomaa
open Go.RowKit

def mix (a b : List Int) (p : Nat) : List Int := a.take p ++ b.drop p
theorem mix_length {a b : List Int} (h : a.length = b.length) (p : Nat) : (mix a b p).length = b.length := by
  unfold mix; rw [List.length_append, List.length_take, List.length_drop]; omega
theorem mix_zero (a b : List Int) : mix a b 0 = b := by simp [mix]
theorem mix_full {a b : List Int} (h : a.length = b.length) : mix a b b.length = a := by simp [mix, ← h]
theorem mix_get {a b : List Int} (h : a.length = b.length) (p : Nat) (hp : p < b.length) : (mix a b p).getD p 0 = b.getD p 0 := by
  unfold mix
  rw [List.getD_eq_getElem?_getD, List.getElem?_append_right (by rw [List.length_take]; omega), List.length_take, List.getElem?_drop, List.getD_eq_getElem?_getD]
  rw [show p + (p - min p a.length) = p by omega]
theorem mix_set {a b : List Int} (h : a.length = b.length) (p : Nat) (hp : p < b.length) : (mix a b p).set p (a.getD p 0) = mix a b (p + 1) := by
  unfold mix
  apply List.ext_getElem?
  intro i
  rw [List.getElem?_set]
  by_cases hi : p = i
  · subst hi
    rw [if_pos rfl, if_pos (by rw [List.length_append, List.length_take, List.length_drop]; omega)]
    rw [List.getElem?_append_left (by rw [List.length_take]; omega), List.getElem?_take, if_pos (by omega)]
    rw [List.getD_eq_getElem?_getD, List.getElem?_eq_getElem (by omega)]; rfl
  · rw [if_neg hi]
    rcases Nat.lt_or_ge i p with h1 | h1
    · rw [List.getElem?_append_left (by rw [List.length_take]; omega), List.getElem?_append_left (by rw [List.length_take]; omega), List.getElem?_take, List.getElem?_take, if_pos h1, if_pos (by omega)]
    · rw [List.getElem?_append_right (by rw [List.length_take]; omega), List.getElem?_append_right (by rw [List.length_take]; omega), List.length_take, List.length_take, List.getElem?_drop, List.getElem?_drop]
      congr 1; omega
end Go.Proofs.Ytdbpjnjgjmfomaa

/- Appending a number to a row of ints of the call's own; columns grown so. -/
namespace Go.Proofs.Ytdbpjnjgjmfomaa
open Go.RowKit

theorem OwnI.nil (w : World) (B : Nat) (_hb : B ≤ w.heap.size) : OwnI w B (.slice none 0 0) [] := by
  first | exact ⟨hb, .inl ⟨rfl, rfl⟩⟩ | exact ⟨rfl, .inl ⟨rfl, rfl⟩⟩
/-- A row that another row's append leaves as it is. -/
theorem OwnI.grown {w w1 : World} {B : Nat} {v : Value} {l : List Int} {row : Option Nat} (h : OwnI w B v l) (hg : w.grownBy w1 row) (hne : ∀ k, v.ownBlock = some k → row ≠ some k) : OwnI w1 B v l :=
  h.kept (fun k hk => hg.block k (World.ownsRow.lt h k hk).2 (fun e => hne k hk e.symm))
theorem col_take {l : List Int} {p : Nat} (h : p < l.length) : l.take p ++ [l.getD p 0] = l.take (p + 1) := by
  rw [List.take_succ_eq_append_getElem h, List.getD_eq_getElem?_getD, List.getElem?_eq_getElem h]; rfl

section
variable {P : Program} {ops : Array Oper} {rest : List Oper} {o : Oper} {a : Act} {Q : Exit → Act → World → Prop}
/-- append(v, y) of one number, behind 'at_builtin': the world is the old one and the box of y. -/
theorem append_int {w0 W : World} (B : Nat) (hgd : o.guard = none) (s x : Operand) (t : TypeId) (xs : List Int) (y : Int)
    (ho : o.op = .call { callee := .builtin .append, args := #[s, x], argTypes := #[t, t] })
    (ht : P.underlying t = some (.slice 3)) (hinfo : (P.info? 3).map (fun i => (i.zero, i.size, i.bytes)) = some (some (.int .i64 0), 1, 8))
    (v : Value) (hs : a.eval s = v) (hx : a.eval x = .slice (some ⟨W.heap.size, 0, none⟩) 1 1)
    (HO : OwnI W B v xs) (HB : Below B w0 W) (hbase : B ≤ W.heap.size) (hl : xs.length + 1 ≤ 17592186044416)
    (h : ∀ v1 w1, OwnI w1 B v1 (xs ++ [y]) → Below B w0 w1 → W.grownBy w1 v.ownBlock → (v1.ownBlock = v.ownBlock ∨ ∃ b, v1.ownBlock = some b ∧ W.heap.size ≤ b) → wpList P ops Q rest (a.put o.dst v1) w1) :
    wpList P ops Q (o :: rest) a (W.alloc (.cells #[.int .i64 y] 3)) := by
  obtain ⟨i0, hi, hzz⟩ := Option.map_eq_some_iff.1 hinfo
  simp only [Prod.mk.injEq] at hzz
  obtain ⟨hz0, hz1, hz2⟩ := hzz
  refine wpList_append_own_at (W.alloc (.cells #[.int .i64 y] 3)) hgd s x t ho B 3 i0 (.int .i64 0) 1 8 ht hi hz0 hz1 hz2 rfl (by omega) v xs.length (i64s xs) hs (HO.below ((Below.refl _ _).alloc (Nat.le_refl _) _)) ⟨W.heap.size, 0, none⟩ 1 1 [.int .i64 y] hx rfl
    (World.news_of_block (cs := #[.int .i64 y]) (t := 3) (fr := (0, 0)) (heap_alloc_new W _)) (by simp [Value.oneCell']) (by simp only [maxLen]; omega) (by omega) (by simp; omega) ?_
  intro v1 w1 hown hg _ hat
  refine h v1 w1 (by simpa [OwnI, i64s] using hown) ((HB.alloc hbase _).grown hg (by simp; omega) (fun k hk => (World.ownsRow.lt HO k hk).1)) (World.grownBy.trans (World.grownBy_alloc W _ _) hg) ?_
  rcases hat with hat | hat
  · exact .inl hat
  · exact .inr ⟨_, hat, by simp⟩
end
end Go.Proofs.Ytdbpjnjgjmfomaa

/- The law of the counted persons: every countable option once, groups of sizes that differ by at most 1. -/
namespace Go.Proofs.Ytdbpjnjgjmfomaa
open Go.RowKit

set_option maxHeartbeats 4000000 in
set_option maxRecDepth 100000 in
theorem law_small {S : Nat → Prop} {v : Value} {l : List Int} (w : World) (hv : IntsV S w v l) (hm : l.length ≤ 140737488351232) :
    Calls Try.prog 19 #[v] w fun e w' => e = .returned (.bool (okScores l)) ∧ w = w' := by
  obtain ⟨A, c, rfl⟩ := hv.slice
  obtain ⟨n, hn⟩ : ∃ n, l.length = n := ⟨_, rfl⟩
  rw [hn] at hm ⊢
  rw [hn] at hv
  replace hn := As.mk hn
  go_enter Try.func19, Try.ntmps19
  go_wp2_with fail
  go_loop [3] (fun v3 => ∃ k : Nat, k ≤ n ∧ v3 = .int .i64 k ∧ As (okScores l = okScores (l.drop k))) (fun v3 => (n - intOf v3).toNat)
  case atStart => exact ⟨0, by omega, rfl, ⟨by simp⟩⟩
  case round =>
    obtain ⟨k, hk, rfl, hI⟩ := hrel
    by_cases hlt : k < n
    · obtain ⟨ad, hA, hc⟩ := hv.cells (by have := hn.out; omega)
      subst hA
      have hck := hc k (by have := hn.out; omega)
      have hst : As (okScores (l.drop k) = (decide (-1000000 ≤ l.getD k 0) && decide (l.getD k 0 ≤ 1000000) && okScores (l.drop (k + 1)))) := ⟨by
        have hkl : k < l.length := by have := hn.out; omega
        unfold okScores
        rw [List.drop_eq_getElem_cons hkl, List.all_cons, List.getD_eq_getElem?_getD, List.getElem?_eq_getElem hkl]; rfl⟩
      clear hc hv
      generalize l.getD k 0 = x at *
      have b1 : ((k : Int) < (n : Int)) = True := eq_true (by omega)
      have b3 : (0 ≤ (k : Int)) = True := eq_true (by omega)
      by_cases h1 : x < -1000000
      · have R : As (okScores l = false) := ⟨by rw [hI.out, hst.out, decide_eq_false (show ¬ -1000000 ≤ x by omega)]; rfl⟩
        clear hI hst
        go_wp2_with fail
        go_ret
        exact ⟨by rw [R.out]; rfl, rfl⟩
      · by_cases h2 : 1000000 < x
        · have R : As (okScores l = false) := ⟨by rw [hI.out, hst.out, decide_eq_false (show ¬ x ≤ 1000000 by omega)]; simp⟩
          clear hI hst
          go_wp2_with fail
          go_ret
          exact ⟨by rw [R.out]; rfl, rfl⟩
        · have R : As (okScores l = okScores (l.drop (k + 1))) := ⟨by rw [hI.out, hst.out, decide_eq_true (show -1000000 ≤ x by omega), decide_eq_true (show x ≤ 1000000 by omega)]; rfl⟩
          clear hI hst
          go_wp2_with fail
          go_round
          case rel => exact ⟨k + 1, by omega, by go_num, R⟩
          case measure => simp [intOf]; omega
    · obtain rfl : k = n := by omega
      have R : As (okScores l = true) := ⟨by rw [hI.out, List.drop_of_length_le (by have := hn.out; omega)]; rfl⟩
      clear hI hv
      go_wp2_with fail
      go_ret
      exact ⟨by rw [R.out]; rfl, rfl⟩
end Go.Proofs.Ytdbpjnjgjmfomaa

/- The law of the counted persons, walked. -/
namespace Go.Proofs.Ytdbpjnjgjmfomaa
open Go.RowKit

theorem grp_err {os ts : List Int} {n m : Int} (h : grpE os ts n m ≠ 0) (h1 : ¬ n < 1) (h2 : ¬ 5 < n) (h3 : ¬ m < 1) (h4 : ¬ 10 < m) (h5 : os.length ≠ 0) (h6 : os.length = ts.length) (h7 : ¬ 200 < os.length) : okScores ts = false := by
  unfold grpE at h
  rw [if_neg (by omega), if_neg (by omega)] at h
  cases hk : okScores ts with
  | false => rfl
  | true => rw [hk, if_neg (by simp), if_neg (by omega), if_neg (by omega)] at h; exact absurd rfl h

set_option maxHeartbeats 16000000 in
set_option maxRecDepth 100000 in
theorem law_Counted_no {S T : Nat → Prop} {u v : Value} {os ts : List Int} (w : World) (n m : Int) (hu : IntsV S w u os) (hv : IntsV T w v ts) (ho : os.length ≤ 140737488351232) (ht : ts.length ≤ 140737488351232) (h1 : manyB os.length = false) (h2 : manyB ts.length = false) (hE : grpE os ts n m ≠ 0) :
    Calls Try.prog 6 #[u, v, .int .i64 n, .int .i64 m] w fun e w' => e = .returned (.bool true) ∧ Below w.heap.size w w' := by
  obtain ⟨A, c, rfl⟩ := hu.slice
  obtain ⟨B, d, rfl⟩ := hv.slice
  have M1 : As (∀ W, Calls Try.prog 16 #[.slice A os.length c] W fun e w' => e = .returned (.bool false) ∧ Drawn W w') := ⟨fun W => by rw [← h1]; exact law_many W A c _ ho⟩
  have M2 : As (∀ W, Calls Try.prog 16 #[.slice B ts.length d] W fun e w' => e = .returned (.bool false) ∧ Drawn W w') := ⟨fun W => by rw [← h2]; exact law_many W B d _ ht⟩
  have C1 : As (∀ W, Below w.heap.size w W → Calls Try.prog 17 #[.slice A os.length c, .slice B ts.length d, .int .i64 n, .int .i64 m] W fun e w' => e = .returned (.tuple #[.slice none 0 0, .int .i64 (grpE os ts n m)]) ∧ Below W.heap.size W w') :=
    ⟨fun W hb => cls_Groups_no W n m (hu.below hb) (hv.below hb) ho ht hE⟩
  have HE := As.mk (fun a b c d e f g => grp_err hE a b c d e f g)
  have HS : As (∀ W, Below w.heap.size w W → okScores ts = false → Calls Try.prog 19 #[.slice B ts.length d] W fun e w' => e = .returned (.bool false) ∧ W = w') := ⟨fun W hb h => by rw [← h]; exact law_small W (hv.below hb) ht⟩
  generalize grpE os ts n m = E at *
  have hEb : (E == 0) = false := beq_eq_false_iff_ne.2 hE
  clear hu hv h1 h2
  generalize os.length = L1 at *
  generalize ts.length = L2 at *
  go_enter Try.func6, Try.ntmps6
  go_wp2_with fail
  refine (M1.out _).mono ?_
  rintro e w1 ⟨rfl, hD⟩
  clear M1
  go_wp2_with fail
  refine (M2.out _).mono ?_
  rintro e w2 ⟨rfl, hD2⟩
  clear M2
  have hb2 := hD.below.after hD.below.size hD2.below
  clear hD hD2
  have K1 := As.mk (C1.out _ hb2)
  clear C1
  go_wp2_with fail
  refine K1.out.mono ?_
  rintro e w3 ⟨rfl, hb3⟩
  replace hb3 := hb2.after hb2.size hb3
  clear K1 hb2
  by_cases a1 : n < 1
  · clear HE HS
    go_wp2_with fail
    go_ret
    exact ⟨rfl, hb3⟩
  · by_cases a2 : 5 < n
    · clear HE HS
      go_wp2_with fail
      go_ret
      exact ⟨rfl, hb3⟩
    · by_cases a3 : m < 1
      · clear HE HS
        go_wp2_with fail
        go_ret
        exact ⟨rfl, hb3⟩
      · by_cases a4 : 10 < m
        · clear HE HS
          go_wp2_with fail
          go_ret
          exact ⟨rfl, hb3⟩
        · by_cases a5 : L1 = 0
          · subst a5
            clear HE HS
            go_wp2_with fail
            go_ret
            exact ⟨rfl, hb3⟩
          · have c5 : ((L1 : Int) == 0) = false := beq_eq_false_iff_ne.2 (by omega)
            by_cases a6 : L1 = L2
            · subst a6
              by_cases a7 : 200 < L1
              · have c7 : (200 < (L1 : Int)) = True := eq_true (by omega)
                clear HE HS
                go_wp2_with fail
                go_ret
                exact ⟨rfl, hb3⟩
              · have c7 : (200 < (L1 : Int)) = False := eq_false (by omega)
                have hok := HE.out (by omega) (by omega) (by omega) (by omega) (by omega) rfl (by omega)
                have KS := As.mk (HS.out _ hb3 hok)
                clear HE HS hok
                go_wp2_with fail
                refine KS.out.mono ?_
                rintro e w4 ⟨rfl, rfl⟩
                clear KS
                go_wp2_with fail
                go_ret
                exact ⟨rfl, hb3⟩
            · have c6 : ((L1 : Int) == (L2 : Int)) = false := beq_eq_false_iff_ne.2 (by omega)
              clear HE HS
              go_wp2_with fail
              go_ret
              exact ⟨rfl, hb3⟩
end Go.Proofs.Ytdbpjnjgjmfomaa

/- The law of the counted persons, walked: the good case. -/
namespace Go.Proofs.Ytdbpjnjgjmfomaa
open Go.RowKit

theorem rowS_bd {l : List Int} {m : Nat} (h : ∀ x, x < m → 0 ≤ l.getD x 0 ∧ l.getD x 0 ≤ 40) : ∀ j, j ≤ m → 0 ≤ rowS l j ∧ rowS l j ≤ 40 * j
  | 0, _ => by simp [rowS]
  | j + 1, hj => by have := rowS_bd h j (by omega); have := h j (by omega); rw [rowS]; omega
theorem totS_bd {T : Nat → List Int} {m : Nat} (hm : m ≤ 10) (h : ∀ r x, x < m → 0 ≤ (T r).getD x 0 ∧ (T r).getD x 0 ≤ 40) : ∀ i, 0 ≤ totS T m i ∧ totS T m i ≤ 400 * i
  | 0 => by simp [totS]
  | i + 1 => by have := totS_bd hm h i; have := rowS_bd (h i) m (Nat.le_refl _); rw [totS]; omega
/-- The least and the greatest size of the first r groups. -/
structure LoHi (L n r lo hi : Nat) : Prop where
  b : ∀ q, q < r → lo ≤ cntG L n q ∧ cntG L n q ≤ hi
  l : lo = L ∨ ∃ q, q < r ∧ lo = cntG L n q
  h : hi = 0 ∨ ∃ q, q < r ∧ hi = cntG L n q
theorem LoHi.start (L n : Nat) : LoHi L n 0 L 0 := ⟨fun q h => by omega, .inl rfl, .inl rfl⟩
theorem LoHi.step {L n r lo hi : Nat} (h : LoHi L n r lo hi) : LoHi L n (r + 1) (min lo (cntG L n r)) (max hi (cntG L n r)) := by
  refine ⟨fun q hq => ?_, ?_, ?_⟩
  · by_cases e : q = r
    · subst e; omega
    · have := h.b q (by omega); omega
  · by_cases e : lo ≤ cntG L n r
    · rw [Nat.min_eq_left e]
      rcases h.l with h1 | ⟨q, h1, h2⟩
      · exact .inl h1
      · exact .inr ⟨q, by omega, h2⟩
    · exact .inr ⟨r, by omega, by omega⟩
  · by_cases e : cntG L n r ≤ hi
    · rw [Nat.max_eq_left e]
      rcases h.h with h1 | ⟨q, h1, h2⟩
      · exact .inl h1
      · exact .inr ⟨q, by omega, h2⟩
    · exact .inr ⟨r, by omega, by omega⟩
theorem LoHi.bd {L n r lo hi : Nat} (h : LoHi L n r lo hi) (s : Nat) : lo ≤ L ∧ hi ≤ L ∧ cntG L n s ≤ L := by
  refine ⟨?_, ?_, cntG_le L n s⟩
  · rcases h.l with h1 | ⟨q, _, h1⟩
    · omega
    · have := cntG_le L n q; omega
  · rcases h.h with h1 | ⟨q, _, h1⟩
    · omega
    · have := cntG_le L n q; omega
theorem LoHi.done {L n lo hi : Nat} (h : LoHi L n n lo hi) (hn : 1 ≤ n) (hb : 0 < cntG L n 0 ∧ ∀ r s, r < n → s < n → cntG L n r ≤ cntG L n s + 1) : 0 < hi ∧ hi ≤ lo + 1 := by
  have h0 := h.b 0 (by omega)
  refine ⟨by omega, ?_⟩
  rcases h.h with h1 | ⟨q, hq, h1⟩
  · omega
  · rcases h.l with h2 | ⟨s, hs, h2⟩
    · have := cntG_le L n q; omega
    · have := hb.2 q s hq hs; omega
theorem okz (L : Nat) : ∀ i, (List.replicate L (0 : Int)).getD i 0 = 0 := fun i => by
  rw [List.getD_eq_getElem?_getD, List.getElem?_replicate]
  split <;> rfl

set_option maxHeartbeats 16000000 in
set_option maxRecDepth 100000 in
theorem law_Counted_ok {S T : Nat → Prop} {u v : Value} {os ts : List Int} (w : World) (n m : Nat) (hu : IntsV S w u os) (hv : IntsV T w v ts) (h1 : manyB os.length = false) (h2 : manyB ts.length = false) (hL : os.length = ts.length) (h0 : 0 < ts.length) (h40 : ts.length ≤ 40) (hok : okScores ts = true) (hn1 : 1 ≤ n) (hn5 : n ≤ 5) (hm1 : 1 ≤ m) (hm10 : m ≤ 10) :
    Calls Try.prog 6 #[u, v, .int .i64 n, .int .i64 m] w fun e w' => e = .returned (.bool true) ∧ Below w.heap.size w w' := by
  obtain ⟨A, c, rfl⟩ := hu.slice
  obtain ⟨B, d, rfl⟩ := hv.slice
  obtain ⟨L, hLe⟩ : ∃ L, ts.length = L := ⟨_, rfl⟩
  have M1 : As (∀ W, Calls Try.prog 16 #[.slice A L c] W fun e w' => e = .returned (.bool false) ∧ Drawn W w') := ⟨fun W => by rw [← h1, hL, hLe]; exact law_many W A c _ (by omega)⟩
  have M2 : As (∀ W, Calls Try.prog 16 #[.slice B L d] W fun e w' => e = .returned (.bool false) ∧ Drawn W w') := ⟨fun W => by rw [← h2, hLe]; exact law_many W B d _ (by omega)⟩
  have C1 : As (∀ W, Below w.heap.size w W → Calls Try.prog 17 #[.slice A L c, .slice B L d, .int .i64 n, .int .i64 m] W fun e w' => ∃ gt, W.heap.size < gt ∧ e = .returned (.tuple #[.slice (some ⟨gt, 0, none⟩) n n, .int .i64 0]) ∧ Below W.heap.size W w' ∧ TabI w' gt n m (fun r => gt + 1 + r) (runT m (pstP os ts n m) L)) :=
    ⟨fun W hb => by
      have := cls_Groups_ok W n m (hu.below hb) (hv.below hb) hL h0 h40 hok hn1 hn5 hm1 hm10
      rwa [hL, hLe] at this⟩
  have C2 : As (∀ W, Below w.heap.size w W → ∀ (x : Value) (U : Nat → Prop), IntsV U W x (List.replicate L 0) → Calls Try.prog 17 #[x, .slice B L d, .int .i64 n, .int .i64 1] W fun e w' => ∃ gt, W.heap.size < gt ∧ e = .returned (.tuple #[.slice (some ⟨gt, 0, none⟩) n n, .int .i64 0]) ∧ Below W.heap.size W w' ∧ TabI w' gt n 1 (fun r => gt + 1 + r) (runT 1 (pstP (List.replicate L 0) ts n 1) L) ∧ ∃ C, Mrg (fun x y => tv ts x < tv ts y) ((List.range L).map (fun t : Nat => (t : Int))) C) :=
    ⟨fun W hb x U hx => by
      have := cls_Groups_okC W n 1 hx (hv.below hb) (by simpa using hLe.symm) h0 h40 hok hn1 hn5 (by omega) (by omega)
      rwa [hLe] at this⟩
  have hBal := bal (L := L) (by omega) (by omega) hn1 hn5
  have HT := As.mk (totS_run (os := os) (ts := ts) (m := m) hn1 L (by omega))
  have hui := As.mk (hu.mono (T := fun k => k < w.heap.size) (fun k _ h => h))
  have hLo := As.mk (hL.trans hLe)
  rw [hL, hLe] at hui
  rw [hL, hLe]
  rw [hLe] at h0 h40
  replace hBal := As.mk hBal
  replace hLe := As.mk hLe
  clear hu hv h1 h2 hL hok
  go_enter Try.func6, Try.ntmps6
  go_wp2_with fail
  refine (M1.out _).mono ?_
  rintro e w1 ⟨rfl, hD⟩
  clear M1
  go_wp2_with fail
  refine (M2.out _).mono ?_
  rintro e w2 ⟨rfl, hD2⟩
  clear M2
  have hb2 := hD.below.after hD.below.size hD2.below
  clear hD hD2
  have K1 := As.mk (C1.out _ hb2)
  clear C1
  go_wp2_with fail
  refine K1.out.mono ?_
  rintro e w3 ⟨gt, _, rfl, hb3, hT⟩
  replace hb3 := hb2.after hb2.size hb3
  clear K1 hb2
  go_wp2_with fail
  have hTT := As.mk hT
  have hbb := As.mk hb3
  clear hT hb3
  go_loop [11, 13] (fun v11 v13 => ∃ k : Nat, k ≤ L ∧ v13 = .int .i64 k ∧ v11 = .int .i64 (wantN os m k : Nat)) (fun _ v13 => (L - intOf v13).toNat)
  case atStart => exact ⟨0, by omega, rfl, rfl⟩
  case round =>
    obtain ⟨k, hk, rfl, rfl⟩ := hrel
    by_cases hlt : k < L
    · have bk : ((k : Int) < (L : Int)) = True := eq_true (by omega)
      have bk0 : (0 ≤ (k : Int)) = True := eq_true (by omega)
      obtain ⟨ad, rfl, hcell⟩ := (hui.out.below hbb.out).cells (by rw [hLo.out]; omega)
      have hoc := hcell k (by rw [hLo.out]; exact hlt)
      have hst : As (wantN os m (k + 1) = wantN os m k + if 0 ≤ os.getD k 0 ∧ os.getD k 0 < (m : Int) then 1 else 0) := ⟨rfl⟩
      have hwl := wantN_le os m k
      clear hcell
      obtain ⟨X, hX⟩ : ∃ X, os.getD k 0 = X := ⟨_, rfl⟩
      rw [hX] at hoc hst
      clear hX
      obtain ⟨N, hN⟩ : ∃ N, wantN os m k = N := ⟨_, rfl⟩
      rw [hN] at hst hwl ⊢
      clear hN
      by_cases hX0 : 0 ≤ X
      · by_cases hXm : X < (m : Int)
        · have R : As (wantN os m (k + 1) = N + 1) := ⟨by rw [hst.out, if_pos ⟨hX0, hXm⟩]⟩
          clear hst
          go_wp2_with fail
          go_round
          case rel => exact ⟨k + 1, by omega, by go_num, by rw [R.out]; go_num⟩
          case measure => simp [intOf]; omega
        · have R : As (wantN os m (k + 1) = N) := ⟨by rw [hst.out, if_neg (fun h => hXm h.2)]; rfl⟩
          have bxm : (X < (m : Int)) = False := eq_false hXm
          clear hst
          go_wp2_with fail
          go_round
          case rel => exact ⟨k + 1, by omega, by go_num, by rw [R.out]⟩
          case measure => simp [intOf]; omega
      · have R : As (wantN os m (k + 1) = N) := ⟨by rw [hst.out, if_neg (fun h => hX0 h.1)]; rfl⟩
        have bxm : (0 ≤ X) = False := eq_false hX0
        clear hst
        go_wp2_with fail
        go_round
        case rel => exact ⟨k + 1, by omega, by go_num, by rw [R.out]⟩
        case measure => simp [intOf]; omega
    · obtain rfl : L = k := by omega
      have bk : ((L : Int) < (L : Int)) = False := eq_false (by omega)
      obtain ⟨N, hN⟩ : ∃ N, wantN os m L = N := ⟨_, rfl⟩
      rw [hN] at HT ⊢
      obtain ⟨X, hX⟩ : ∃ X, runT m (pstP os ts n m) L = X := ⟨_, rfl⟩
      have hbd : As (∀ r x, x < m → 0 ≤ (X r).getD x 0 ∧ (X r).getD x 0 ≤ 40) := ⟨fun r x hx => by
        have := runT_le (m := m) (st := pstP os ts n m) (pstP_lt os ts n m) L r x hx
        rw [hX] at this
        omega⟩
      rw [hX] at HT hTT
      clear hX hN
      go_wp2_with fail
      go_loop [12, 14, 15] (fun v12 v14 _ => ∃ i : Nat, i ≤ n ∧ v14 = .int .i64 i ∧ v12 = .int .i64 (totS X m i)) (fun _ v14 _ => (n - intOf v14).toNat)
      case atStart => exact ⟨0, by omega, rfl, rfl⟩
      case round =>
        obtain ⟨i, hi, rfl, rfl⟩ := hrel
        by_cases hlt : i < n
        · have bi : ((i : Int) < (n : Int)) = True := eq_true (by omega)
          have bi0 : (0 ≤ (i : Int)) = True := eq_true (by omega)
          have ht1 := totS_bd hm10 hbd.out i
          have htop := hTT.out.top i hlt
          have hZ0 : As (totS X m i + rowS (X i) 0 = totS X m i) := ⟨by simp [rowS]⟩
          have hZ1 : As (totS X m i + rowS (X i) m = totS X m (i + 1)) := ⟨rfl⟩
          obtain ⟨Z, hZ⟩ : ∃ Z, totS X m i = Z := ⟨_, rfl⟩
          rw [hZ] at ht1 hZ0 hZ1 ⊢
          clear hZ
          obtain ⟨hz0, hz1⟩ := ht1
          go_wp2_with fail
          go_loop [12, 15] (fun v12 v15 => ∃ j : Nat, j ≤ m ∧ v15 = .int .i64 j ∧ v12 = .int .i64 (Z + rowS (X i) j)) (fun _ v15 => (m - intOf v15).toNat)
          case atStart => exact ⟨0, by omega, rfl, by rw [hZ0.out]⟩
          case round =>
            obtain ⟨j, hj, rfl, rfl⟩ := hrel
            by_cases hlj : j < m
            · have bj : ((j : Int) < (m : Int)) = True := eq_true (by omega)
              have bj0 : (0 ≤ (j : Int)) = True := eq_true (by omega)
              obtain ⟨hr0, hr1⟩ := rowS_bd (hbd.out i) j (by omega)
              obtain ⟨hx0, hx1⟩ := hbd.out i j hlj
              obtain ⟨hc, _⟩ := hTT.out.get i j hlt hlj
              have hs : As (rowS (X i) (j + 1) = rowS (X i) j + (X i).getD j 0) := ⟨rfl⟩
              generalize (X i).getD j 0 = Y at *
              generalize rowS (X i) j = V at *
              go_wp2_with fail
              go_round
              case rel => exact ⟨j + 1, by omega, by go_num, by rw [hs.out]; exact val_int (by omega)⟩
              case measure => simp [intOf]; omega
            · obtain rfl : m = j := by omega
              have bj : ((m : Int) < (m : Int)) = False := eq_false (by omega)
              go_wp2_with fail
              go_round
              case rel => exact ⟨i + 1, by omega, by go_num, by rw [hZ1.out]⟩
              case measure => simp [intOf]; omega
        · obtain rfl : n = i := by omega
          have bi : ((n : Int) < (n : Int)) = False := eq_false (by omega)
          rw [HT.out]
          clear HT hbd hTT
          have bn1 : ((n : Int) < 1) = False := eq_false (by omega)
          have hw3 := hbb.out.size
          go_wp2_with fail
          go_loopw [16, 17] (fun v16 v17 wr => ∃ k : Nat, k ≤ L ∧ v17 = .int .i64 k ∧ Below w.heap.size w wr ∧ OwnI wr w.heap.size v16 (List.replicate k 0)) (fun _ v17 _ => (L - intOf v17).toNat)
          case atStart => exact ⟨0, by omega, rfl, hbb.out, OwnI.nil _ _ hw3⟩
          case round =>
            obtain ⟨k, hk, rfl, hB, hO⟩ := hrel
            by_cases hlt : k < L
            · have bk : ((k : Int) < (L : Int)) = True := eq_true (by omega)
              have hsz := hB.size
              have hl1 : (List.replicate k (0 : Int)).length + 1 ≤ 17592186044416 := by simp; omega
              go_wp2_with (first
                | (at_builtin; refine append_int w.heap.size rfl _ _ 28 _ 0 rfl Try.underlying28 (by kernel_rfl) u16 rfl rfl hO hB hsz hl1 ?_
                   intro v1 w4 hO1 hB1 _ _))
              go_roundw
              case rel => exact ⟨k + 1, by omega, by go_num, hB1, by rw [List.replicate_succ']; exact hO1⟩
              case measure => simp [intOf]; omega
            · obtain rfl : L = k := by omega
              have bk : ((L : Int) < (L : Int)) = False := eq_false (by omega)
              have K2 := As.mk (C2.out _ hB _ _ hO.ints)
              clear hO C2
              go_wp2_with fail
              refine K2.out.mono ?_
              rintro e w5 ⟨g2, _, rfl, hb5, hT2, C, hC⟩
              clear K2
              replace hb5 := hB.after hB.size hb5
              have hsz := size_of_group (n := n) hLe.out hC
              clear hB hC
              obtain ⟨Y, hY⟩ : ∃ Y, runT 1 (pstP (List.replicate L 0) ts n 1) L = Y := ⟨_, rfl⟩
              rw [hY] at hT2 hsz
              clear hY
              have HC : As (∀ r, r < n → w5.cell? ⟨g2, r, none⟩ = some (.slice (some ⟨g2 + 1 + r, 0, none⟩) 1 1) ∧ w5.cell? ⟨g2 + 1 + r, 0, none⟩ = some (.int .i64 (cntG L n r : Nat))) := ⟨fun r hr => ⟨hT2.top r hr, by rw [← hsz r]; exact (hT2.get r 0 hr (by omega)).1⟩⟩
              clear hT2 hsz
              go_wp2_with fail
              go_loopw [19, 20, 21] (fun v19 v20 v21 wr => ∃ lo hi r : Nat, r ≤ n ∧ v21 = .int .i64 r ∧ v19 = .int .i64 lo ∧ v20 = .int .i64 hi ∧ Below w5.heap.size w5 wr ∧ LoHi L n r lo hi) (fun _ _ v21 _ => (n - intOf v21).toNat)
              case atStart => exact ⟨L, 0, 0, by omega, rfl, rfl, rfl, Below.refl _ _, LoHi.start L n⟩
              case round =>
                rename World => wq
                obtain ⟨lo, hi, r, hr, rfl, rfl, rfl, hB, hI⟩ := hrel
                by_cases hlr : r < n
                · have br : ((r : Int) < (n : Int)) = True := eq_true (by omega)
                  have br0 : (0 ≤ (r : Int)) = True := eq_true (by omega)
                  obtain ⟨hc1, hc2⟩ := HC.out r hlr
                  replace hc1 := cell_below hc1 hB
                  replace hc2 := cell_below hc2 hB
                  have hI1 := As.mk hI.step
                  obtain ⟨hlo, hhi, hcl⟩ := hI.bd r
                  clear hI
                  obtain ⟨N, hN⟩ : ∃ N, cntG L n r = N := ⟨_, rfl⟩
                  rw [hN] at hc2 hI1 hcl
                  clear hN
                  go_wp2_with fail
                  go_quiet (fail)
                  go_wp2_with fail
                  go_roundw
                  case rel => exact ⟨min lo N, max hi N, r + 1, by omega, by go_num, val_int (by omega), val_int (by omega), by repeat (first | exact hB | apply Below.drewsN), hI1.out⟩
                  case measure => simp [intOf]; omega
                · obtain rfl : n = r := by omega
                  have br : ((n : Int) < (n : Int)) = False := eq_false (by omega)
                  obtain ⟨hp, hd⟩ := hI.done (by omega) hBal.out
                  have c1 : ((hi : Int) - (lo : Int) ≤ 1) = True := eq_true (by omega)
                  have c2 : (0 < (hi : Int)) = True := eq_true (by omega)
                  obtain ⟨hlo, hhi, _⟩ := hI.bd 0
                  clear hI
                  go_wp2_with fail
                  go_ret
                  exact ⟨rfl, by repeat (first | exact hb5.after hb5.size hB | apply Below.drewsN)⟩
end Go.Proofs.Ytdbpjnjgjmfomaa

/- The law of the counted persons, whole. -/
namespace Go.Proofs.Ytdbpjnjgjmfomaa
open Go.RowKit

set_option maxHeartbeats 8000000 in
set_option maxRecDepth 100000 in
theorem law_Counted {S T : Nat → Prop} {u v : Value} {os ts : List Int} (w : World) (n m : Int) (hu : IntsV S w u os) (hv : IntsV T w v ts) (ho : os.length ≤ 140737488351232) (ht : ts.length ≤ 140737488351232) :
    Calls Try.prog 6 #[u, v, .int .i64 n, .int .i64 m] w fun e w' => e = .returned (.bool true) ∧ Below w.heap.size w w' := by
  cases h1 : manyB os.length with
  | true =>
    obtain ⟨A, c, rfl⟩ := hu.slice
    obtain ⟨B, d, rfl⟩ := hv.slice
    have M1 : As (∀ W, Calls Try.prog 16 #[.slice A os.length c] W fun e w' => e = .returned (.bool true) ∧ Drawn W w') := ⟨fun W => by rw [← h1]; exact law_many W A c _ ho⟩
    clear hu hv h1
    generalize os.length = L1 at *
    generalize ts.length = L2 at *
    go_enter Try.func6, Try.ntmps6
    go_wp2_with fail
    refine (M1.out _).mono ?_
    rintro e w1 ⟨rfl, hD⟩
    clear M1
    go_wp2_with fail
    go_ret
    exact ⟨rfl, hD.below⟩
  | false =>
    cases h2 : manyB ts.length with
    | true =>
      obtain ⟨A, c, rfl⟩ := hu.slice
      obtain ⟨B, d, rfl⟩ := hv.slice
      have M1 : As (∀ W, Calls Try.prog 16 #[.slice A os.length c] W fun e w' => e = .returned (.bool false) ∧ Drawn W w') := ⟨fun W => by rw [← h1]; exact law_many W A c _ ho⟩
      have M2 : As (∀ W, Calls Try.prog 16 #[.slice B ts.length d] W fun e w' => e = .returned (.bool true) ∧ Drawn W w') := ⟨fun W => by rw [← h2]; exact law_many W B d _ ht⟩
      clear hu hv h1 h2
      generalize os.length = L1 at *
      generalize ts.length = L2 at *
      go_enter Try.func6, Try.ntmps6
      go_wp2_with fail
      refine (M1.out _).mono ?_
      rintro e w1 ⟨rfl, hD⟩
      clear M1
      go_wp2_with fail
      refine (M2.out _).mono ?_
      rintro e w2 ⟨rfl, hD2⟩
      clear M2
      go_wp2_with fail
      go_ret
      exact ⟨rfl, hD.below.after hD.below.size hD2.below⟩
    | false =>
      by_cases hE : grpE os ts n m = 0
      · obtain ⟨n, m, rfl, rfl, hn1, hn5, hm1, hm10, hL, hl0, h40, hok⟩ := grp_zero hE h2
        exact law_Counted_ok w n m hu hv h1 h2 hL hl0 h40 hok hn1 hn5 hm1 hm10
      · exact law_Counted_no w n m hu hv ho ht h1 h2 hE
end Go.Proofs.Ytdbpjnjgjmfomaa

/- A list of ints, opened. -/
namespace Go.Proofs.Ytdbpjnjgjmfomaa
open Go.RowKit Go.Deep Go.ChangeShapes

section
variable {H : Type} {enc : TypeId × Value → H} {W : World} {held : Bool} {fuel : Nat}
theorem open_intsV {cs : List Value} {x : DataW H × List MemPlace} (h : DataW.trod enc Try.prog W 0 (fun _ => true) held fuel 28 cs = some x) :
    ∃ A zs c, cs = [.slice A zs.length c] ∧ IntsV (fun _ => True) W (.slice A zs.length c) zs ∧ (zs = [] ∨ ∃ ds ss, x.1 = .slice ds ss ∧ ds.length = zs.length) := by
  rcases open_ints Try.underlying28 Try.underlying3 (by kernel_rfl) h with ⟨hcs, _⟩ | ⟨a, len, cap, zs, hcs, _, hl, hm, hz, hx, hcell, hwf⟩
  · exact ⟨none, [], 0, by simpa using hcs, ⟨none, 0, rfl, Nat.le_refl _, Rd.nil _ _ _⟩, .inl rfl⟩
  · simp only [if_true] at hz
    have hlen : (zs.take len).length = len := by rw [List.length_take]; omega
    refine ⟨some a, zs.take len, cap, by rw [hlen]; simpa using hcs, ⟨some a, cap, rfl, by omega, fun _ => ⟨a, rfl, trivial, fun j v hj => ?_⟩⟩, .inr ⟨_, _, by rw [hx], by simp [lits]⟩⟩
    have hjl : j < len := by
      have := (List.getElem?_eq_some_iff.1 hj).1
      rw [i64s_length, hlen] at this
      exact this
    rw [i64s_get _ j (by omega)] at hj
    injection hj with hj
    rw [hcell j (by omega), ← hj]
    congr 2
    rw [List.getD_eq_getElem?_getD, List.getD_eq_getElem?_getD, List.getElem?_take, if_pos hjl]
end
end Go.Proofs.Ytdbpjnjgjmfomaa
