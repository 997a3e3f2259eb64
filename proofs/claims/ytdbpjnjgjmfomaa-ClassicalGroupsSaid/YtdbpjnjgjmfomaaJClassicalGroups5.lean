/- Joined texts: AlphaPure, AlphaSum, Alpha1, Mix, AppI, TabA, RefGr2, LawGa, LawGb, IntsOpen. -/
import Derived.Test.YtdbpjnjgjmfomaaJClassicalGroups4
import Derived.StillTailTactics
import Derived.ChangeArms
import Derived.ChangeSame
import Derived.ChangeSlices
import Derived.Deep.Slices
/- The reliability coefficient in plain Lean: columns, totals, and that the covariances of all columns add up to the variance of the totals. -/
namespace Go.Proofs.Ytdbpjnjgjmfomaa
open Go.RowKit

def col (rows : List (List Int)) (i : Nat) : List Int := rows.map (fun r => r.getD i 0)
/-- The sum of the first k numbers of a row, of each row. -/
def totp (rows : List (List Int)) (k : Nat) : List Int := rows.map (fun r => sm r k)
theorem col_length (rows : List (List Int)) (i : Nat) : (col rows i).length = rows.length := by simp [col]
theorem totp_length (rows : List (List Int)) (k : Nat) : (totp rows k).length = rows.length := by simp [totp]
theorem col_get (rows : List (List Int)) (i p : Nat) : (col rows i).getD p 0 = (rows.getD p []).getD i 0 := by
  unfold col
  rcases Nat.lt_or_ge p rows.length with h | h
  · simp [List.getD_eq_getElem?_getD, List.getElem?_eq_getElem h]
  · simp [List.getD_eq_getElem?_getD, List.getElem?_eq_none h]
theorem sm_nil (k : Nat) : sm [] k = 0 := by
  induction k with
  | zero => rfl
  | succ k ih => rw [sm, ih]; simp
theorem totp_get (rows : List (List Int)) (k p : Nat) : (totp rows k).getD p 0 = sm (rows.getD p []) k := by
  unfold totp
  rcases Nat.lt_or_ge p rows.length with h | h
  · simp [List.getD_eq_getElem?_getD, List.getElem?_eq_getElem h]
  · simp [List.getD_eq_getElem?_getD, List.getElem?_eq_none h, sm_nil]
theorem totp_succ (rows : List (List Int)) (k p : Nat) : (totp rows (k + 1)).getD p 0 = (totp rows k).getD p 0 + (col rows k).getD p 0 := by
  rw [totp_get, totp_get, col_get, sm]

/-- The sum of the columns' variances, of the first k. -/
def partR (rows : List (List Int)) : Nat → Rat
  | 0 => 0
  | k + 1 => partR rows k + covR (col rows k) (col rows k)
def allR (rows : List (List Int)) (k : Nat) : Rat := covR (totp rows k) (totp rows k)

structure InOrder (rows : List (List Int)) (k : Nat) : Prop where
  few : rows.length ≤ 200
  some : 0 < rows.length
  len : ∀ p, p < rows.length → (rows.getD p []).length = k
  two : 2 ≤ k
  sixty : k ≤ 60
  ok : ∀ p, p < rows.length → okScores (rows.getD p []) = true
theorem any_false {α : Type} {l : List α} {p : α → Bool} (h : l.any p = false) (d : α) (i : Nat) (hi : i < l.length) : p (l.getD i d) = false := by
  have := List.any_eq_false.1 h (l.getD i d) (by rw [List.getD_eq_getElem?_getD, List.getElem?_eq_getElem hi]; exact List.getElem_mem hi)
  simpa using this
theorem table_zero {rows : List (List Int)} (h : tableE rows = 0) : InOrder rows (rows.getD 0 []).length := by
  unfold tableE at h
  by_cases h1 : 200 < rows.length
  · rw [if_pos h1] at h; omega
  rw [if_neg h1] at h
  cases h2 : rows.any long
  · rw [h2] at h
    rw [if_neg (by simp)] at h
    cases h3 : rows.any wild
    · rw [h3] at h
      rw [if_neg (by simp)] at h
      cases h4 : rows.any (odd (rows.getD 0 []).length)
      · rw [h4] at h
        rw [if_neg (by simp)] at h
        by_cases h5 : rows.length = 0
        · rw [if_pos h5] at h; omega
        · have hp : 0 < rows.length := by omega
          have e0 := any_false h4 [] 0 hp
          have e1 := any_false h2 [] 0 hp
          simp [odd] at e0
          simp [long] at e1
          refine ⟨by omega, hp, fun p hp => ?_, by simpa using e0, by simpa using e1, fun p hp => ?_⟩
          · have := any_false h4 [] p hp
            simp [odd] at this
            simpa using this.2
          · have := any_false h3 [] p hp
            simpa [wild] using this
      · rw [h4] at h; simp at h
    · rw [h3] at h; simp at h
  · rw [h2] at h; simp at h
theorem InOrder.score {rows : List (List Int)} {k : Nat} (h : InOrder rows k) (p i : Nat) : -1000000 ≤ (rows.getD p []).getD i 0 ∧ (rows.getD p []).getD i 0 ≤ 1000000 := by
  rcases Nat.lt_or_ge p rows.length with hp | hp
  · rcases Nat.lt_or_ge i (rows.getD p []).length with hi | hi
    · exact okScores_at (h.ok p hp) i hi
    · rw [List.getD_eq_getElem?_getD (l := rows.getD p []), List.getElem?_eq_none hi]; simp
  · rw [List.getD_eq_getElem?_getD (l := rows), List.getElem?_eq_none hp]; simp
theorem sm_small {x : List Int} (h : ∀ i, -1000000 ≤ x.getD i 0 ∧ x.getD i 0 ≤ 1000000) (k : Nat) : -(1000000 * (k : Int)) ≤ sm x k ∧ sm x k ≤ 1000000 * (k : Int) := by
  induction k with
  | zero => simp [sm]
  | succ k ih => rw [sm]; have := h k; omega
theorem InOrder.colmod {rows : List (List Int)} {k : Nat} (h : InOrder rows k) (i : Nat) : Mod (col rows i) := fun p => by
  rw [col_get]; have := h.score p i; omega
theorem InOrder.totmod {rows : List (List Int)} {k : Nat} (h : InOrder rows k) (j : Nat) (hj : j ≤ 60) : Mod (totp rows j) := fun p => by
  rw [totp_get]; have := sm_small (fun i => h.score p i) j; omega
theorem rz_part {rows : List (List Int)} {k : Nat} (h : InOrder rows k) (j : Nat) : rz (partR rows j) ≤ 8 * j + 1 := by
  induction j with
  | zero =>
    have := rz_small 0 1 (by decide) (by decide)
    have e : ((0 : Int) : Rat) / ((1 : Int) : Rat) = 0 := by simp [Rat.div_def]
    rw [partR]
    have h1 := rz_int 0 1
    rw [e] at h1
    have h2 : sz (0 : Int) = 0 := (dig_nil_iff 0).2 rfl
    have h3 : sz (1 : Int) ≤ 1 := dig_one_len
    omega
  | succ j ih =>
    rw [partR]
    have h1 := rz_add (partR rows j) (covR (col rows j) (col rows j))
    have h2 := rz_covR _ _ (h.colmod j) (h.colmod j) (by rw [col_length]; exact h.few)
    omega
end Go.Proofs.Ytdbpjnjgjmfomaa

/- The covariances of all columns add up to the variance of the totals. -/
namespace Go.Proofs.Ytdbpjnjgjmfomaa
open Go.RowKit

theorem sm_sum {x y z : List Int} (h : ∀ p, x.getD p 0 = y.getD p 0 + z.getD p 0) (m : Nat) : sm x m = sm y m + sm z m := by
  induction m with
  | zero => rfl
  | succ m ih => rw [sm, sm, sm, ih, h]; omega
theorem dt_suml {x y z : List Int} (u : List Int) (h : ∀ p, x.getD p 0 = y.getD p 0 + z.getD p 0) (m : Nat) : dt x u m = dt y u m + dt z u m := by
  induction m with
  | zero => rfl
  | succ m ih => rw [dt, dt, dt, ih, h, Int.add_mul]; omega
theorem dt_comm (x y : List Int) (m : Nat) : dt x y m = dt y x m := by
  induction m with
  | zero => rfl
  | succ m ih => rw [dt, dt, ih, Int.mul_comm]
theorem cov_suml {x y z : List Int} (u : List Int) (h : ∀ p, x.getD p 0 = y.getD p 0 + z.getD p 0) (hy : y.length = x.length) (hz : z.length = x.length) : covR x u = covR y u + covR z u := by
  unfold covR
  rw [hy, hz, dt_suml u h, sm_sum h, Rat.intCast_add, Rat.intCast_add]
  grind
theorem cov_comm {x y : List Int} (h : y.length = x.length) : covR x y = covR y x := by
  unfold covR
  rw [h, dt_comm]
  grind
/-- The sum of the first m covariances with column i; of the first m of these sums. -/
def crossR (rows : List (List Int)) (i : Nat) : Nat → Rat
  | 0 => 0
  | j + 1 => crossR rows i j + covR (col rows i) (col rows j)
theorem sm_zero {x : List Int} (h : ∀ p, x.getD p 0 = 0) (m : Nat) : sm x m = 0 := by
  induction m with
  | zero => rfl
  | succ m ih => rw [sm, ih, h]; rfl
theorem dt_zerol {x : List Int} (u : List Int) (h : ∀ p, x.getD p 0 = 0) (m : Nat) : dt x u m = 0 := by
  induction m with
  | zero => rfl
  | succ m ih => rw [dt, ih, h]; simp
theorem cov_zerol {x : List Int} (u : List Int) (h : ∀ p, x.getD p 0 = 0) : covR x u = 0 := by
  unfold covR
  rw [sm_zero h, dt_zerol u h]
  grind
theorem totp_zero (rows : List (List Int)) (p : Nat) : (totp rows 0).getD p 0 = 0 := by rw [totp_get]; rfl
theorem cross_eq (rows : List (List Int)) (i j : Nat) : crossR rows i j = covR (totp rows j) (col rows i) := by
  induction j with
  | zero => rw [crossR, cov_zerol _ (totp_zero rows)]
  | succ j ih =>
    rw [crossR, ih, cov_suml (x := totp rows (j + 1)) (col rows i) (fun p => totp_succ rows j p) (by simp [totp_length]) (by simp [totp_length, col_length])]
    rw [cov_comm (x := col rows i) (y := col rows j) (by simp [col_length])]
def sumR (rows : List (List Int)) (k : Nat) : Nat → Rat
  | 0 => 0
  | i + 1 => sumR rows k i + crossR rows i k
theorem sum_eq (rows : List (List Int)) (k m : Nat) : sumR rows k m = covR (totp rows m) (totp rows k) := by
  induction m with
  | zero => rw [sumR, cov_zerol _ (totp_zero rows)]
  | succ m ih =>
    rw [sumR, ih, cross_eq, cov_suml (x := totp rows (m + 1)) (totp rows k) (fun p => totp_succ rows m p) (by simp [totp_length]) (by simp [totp_length, col_length])]
    rw [cov_comm (x := totp rows k) (y := col rows m) (by simp [totp_length, col_length])]
theorem all_eq (rows : List (List Int)) (k : Nat) : sumR rows k k = allR rows k := sum_eq rows k k
end Go.Proofs.Ytdbpjnjgjmfomaa

/- classical.alpha where the table is not in order. -/
namespace Go.Proofs.Ytdbpjnjgjmfomaa
open Go.RowKit

/-- A ratio behind three stores into another block. -/
theorem RatV.set3 {S : Nat → Prop} {w : World} {v x y z : Value} {q : Rat} {b : Nat} (h : RatV S w v q) (hb : ¬ S b) : RatV S (((w.setCell ⟨b, 0, none⟩ x).setCell ⟨b, 1, none⟩ y).setCell ⟨b, 2, none⟩ z) v q := by
  obtain ⟨u, d, e, hu, hd⟩ := h
  exact ⟨u, d, e, ((hu.stored hb _).stored hb _).stored hb _, ((hd.stored hb _).stored hb _).stored hb _⟩
theorem Below.set3 {w W : World} {b : Nat} {x y z : Value} (h : Below w.heap.size w W) (hb : w.heap.size ≤ b) : Below w.heap.size w (((W.setCell ⟨b, 0, none⟩ x).setCell ⟨b, 1, none⟩ y).setCell ⟨b, 2, none⟩ z) :=
  ((h.setCell hb _).setCell hb _).setCell hb _
theorem Res.cells3 {w : World} {b : Nat} (h : Res w b 3) : (∃ x, w.cell? ⟨b, 0, none⟩ = some x) ∧ (∃ x, w.cell? ⟨b, 1, none⟩ = some x) ∧ (∃ x, w.cell? ⟨b, 2, none⟩ = some x) ∧ w.frozen? ⟨b, 0, none⟩ = false ∧ w.frozen? ⟨b, 1, none⟩ = false ∧ w.frozen? ⟨b, 2, none⟩ = false :=
  ⟨(h.2 0 (by omega)).1, (h.2 1 (by omega)).1, (h.2 2 (by omega)).1, (h.2 0 (by omega)).2, (h.2 1 (by omega)).2, (h.2 2 (by omega)).2⟩

set_option maxHeartbeats 8000000 in
set_option maxRecDepth 100000 in
theorem cls_alpha_no {S : Nat → Prop} {v : Value} {rows : List (List Int)} (w : World) (hv : RowsV S w v rows) (hm : rows.length ≤ 140737488351232) (hr : ∀ i, (rows.getD i []).length ≤ 140737488351232) (hE : tableE rows ≠ 0) :
    Calls Try.prog 48 #[v] w fun e w' => ∃ r s, e = .returned (.tuple #[r, s, .int .i64 (tableE rows)]) ∧ RatV (New w) w' r 0 ∧ RatV (New w) w' s 0 ∧ Below w.heap.size w w' := by
  obtain ⟨A, c, rfl⟩ := hv.slice
  obtain ⟨E, hEE⟩ : ∃ E, tableE rows = E := ⟨_, rfl⟩
  have HT : As (∀ W, Below w.heap.size w W → Calls Try.prog 83 #[.slice A rows.length c] W fun e w' => e = .returned (.int .i64 E) ∧ Drawn W w') := ⟨fun W hb => by
    rw [← hEE]
    exact cls_table W (hv.below hb) hm hr⟩
  rw [hEE] at hE ⊢
  have hEb : (E == 0) = false := beq_eq_false_iff_ne.2 hE
  clear hv hm hr hEE
  generalize rows.length = n at *
  go_enter Try.func48, Try.ntmps48
  go_wp2_with fail
  obtain ⟨W, hW⟩ : ∃ W, ((w.alloc (Obj.cells #[Value.bool false, Value.slice none 0 0, Value.slice none 0 0] 40)).alloc (Obj.cells #[Value.bool false, Value.slice none 0 0, Value.slice none 0 0] 40)) = W := ⟨_, rfl⟩
  have hs : W.heap.size = w.heap.size + 2 := by rw [← hW]; simp
  have hB : Below w.heap.size w W := by rw [← hW]; exact (((Below.refl _ _).alloc (by simp <;> omega) _).alloc (by simp <;> omega) _)
  have hR0 : Res W (w.heap.size) 3 := ⟨by omega, fun i hi => by
    subst hW
    rcases (by omega : i = 0 ∨ i = 1 ∨ i = 2) with rfl | rfl | rfl
    · exact ⟨⟨.bool false, by simp [go_sem]⟩, by simp [go_sem]⟩
    · exact ⟨⟨.slice none 0 0, by simp [go_sem]⟩, by simp [go_sem]⟩
    · exact ⟨⟨.slice none 0 0, by simp [go_sem]⟩, by simp [go_sem]⟩⟩
  have hR1 : Res W (w.heap.size + 1) 3 := ⟨by omega, fun i hi => by
    subst hW
    rcases (by omega : i = 0 ∨ i = 1 ∨ i = 2) with rfl | rfl | rfl
    · exact ⟨⟨.bool false, by simp [go_sem]⟩, by simp [go_sem]⟩
    · exact ⟨⟨.slice none 0 0, by simp [go_sem]⟩, by simp [go_sem]⟩
    · exact ⟨⟨.slice none 0 0, by simp [go_sem]⟩, by simp [go_sem]⟩⟩
  rw [hW]
  clear hW
  have hS : Below w.heap.size w W ∧ Res W w.heap.size 3 ∧ Res W (w.heap.size + 1) 3 := ⟨hB, hR0, hR1⟩
  clear hR0 hR1
  refine (HT.out _ hB).mono ?_
  rintro e w1 ⟨rfl, ⟨m1, rfl⟩⟩
  replace hS := (keep_B (keep_R (Res.below))) hS ((Below.refl _ _).drewsN m1)
  have hlW : w.heap.size + 2 ≤ W.heap.size := by omega
  clear hB HT
  generalize hW1 : W.drewN m1 = W1 at *
  have hlW1 : w.heap.size + 2 ≤ W1.heap.size := by rw [← hW1]; exact hlW
  clear hW1 hs hlW
  go_wp2_with fail
  refine (cls_zero _).mono ?_
  rintro e w2 ⟨r1, rfl, hr1, hb2⟩
  have hR9 := hS.2
  replace hS := (keep_B (keep_R (Res.below))) hS hb2
  have hlw2 := hb2.size
  go_wp2_with fail
  refine (cls_zero _).mono ?_
  rintro e w3 ⟨r2, rfl, hr2, hb3⟩
  replace hS := (keep_B (keep_R (Res.below))) hS hb3
  replace hr1 := hr1.below hb3
  obtain ⟨A1, c1, B1, d1, rfl⟩ := hr1.slice
  obtain ⟨A2, c2, B2, d2, rfl⟩ := hr2.slice
  obtain ⟨⟨x0, g0⟩, ⟨x1, g1⟩, ⟨x2, g2⟩, f0, f1, f2⟩ := hS.2.1.cells3
  obtain ⟨⟨y0, k0⟩, ⟨y1, k1⟩, ⟨y2, k2⟩, l0, l1, l2⟩ := hS.2.2.cells3
  have hst1 : As (∀ x y z x' y' z', RatV (New w) ((((((w3.setCell ⟨w.heap.size, 0, none⟩ x).setCell ⟨w.heap.size, 1, none⟩ y).setCell ⟨w.heap.size, 2, none⟩ z).setCell ⟨w.heap.size + 1, 0, none⟩ x').setCell ⟨w.heap.size + 1, 1, none⟩ y').setCell ⟨w.heap.size + 1, 2, none⟩ z') (.agg #[.bool (decide ((0 : Rat).num < 0)), .slice A1 (sz (0 : Rat).num) c1, .slice B1 (dig (0 : Rat).den).length d1]) 0) := ⟨fun x y z x' y' z' =>
    ((hr1.set3 (by show ¬ W1.heap.size ≤ _; omega)).set3 (by show ¬ W1.heap.size ≤ _; omega)).mono (fun k hk _ => by have : W1.heap.size ≤ k := hk; show w.heap.size ≤ k; omega)⟩
  have hst2 : As (∀ x y z x' y' z', RatV (New w) ((((((w3.setCell ⟨w.heap.size, 0, none⟩ x).setCell ⟨w.heap.size, 1, none⟩ y).setCell ⟨w.heap.size, 2, none⟩ z).setCell ⟨w.heap.size + 1, 0, none⟩ x').setCell ⟨w.heap.size + 1, 1, none⟩ y').setCell ⟨w.heap.size + 1, 2, none⟩ z') (.agg #[.bool (decide ((0 : Rat).num < 0)), .slice A2 (sz (0 : Rat).num) c2, .slice B2 (dig (0 : Rat).den).length d2]) 0) := ⟨fun x y z x' y' z' =>
    ((hr2.set3 (by show ¬ w2.heap.size ≤ _; omega)).set3 (by show ¬ w2.heap.size ≤ _; omega)).mono (fun k hk _ => by have : w2.heap.size ≤ k := hk; show w.heap.size ≤ k; omega)⟩
  have hB9 := As.mk hS.1
  clear hS hR9 hr1 hr2 hb2 hb3
  go_wp2_with fail
  refine bodyPost_ret (v := .tuple #[.agg #[.bool (decide ((0 : Rat).num < 0)), .slice A1 (sz (0 : Rat).num) c1, .slice B1 (dig (0 : Rat).den).length d1], .agg #[.bool (decide ((0 : Rat).num < 0)), .slice A2 (sz (0 : Rat).num) c2, .slice B2 (dig (0 : Rat).den).length d2], .int .i64 E]) (by simp [results, Try.results48, go_sem, g0, g1, g2, k0, k1, k2]) rfl ?_
  exact ⟨_, _, rfl, hst1.out _ _ _ _ _ _, hst2.out _ _ _ _ _ _, Below.set3 (Below.set3 hB9.out (Nat.le_refl _)) (by omega)⟩
end Go.Proofs.Ytdbpjnjgjmfomaa

/- A list whose first p numbers are of one list, the others of another. -/
namespace Go.Proofs.Ytdbpjnjgjmfomaa
open Go.RowKit

def mix (a b : List Int) (p : Nat) : List Int := a.take p ++ b.drop p
theorem mix_length {a b : List Int} (h : a.length = b.length) (p : Nat) : (mix a b p).length = b.length := by
  unfold mix; rw [List.length_append, List.length_take, List.length_drop]; omega
theorem mix_zero (a b : List Int) : mix a b 0 = b := by simp [mix]
theorem mix_full {a b : List Int} (h : a.length = b.length) : mix a b b.length = a := by simp [mix, ← h]
theorem mix_get {a b : List Int} (h : a.length = b.length) (p : Nat) (hp : p < b.length) : (mix a b p).getD p 0 = b.getD p 0 := by
  unfold mix
  rw [List.getD_eq_getElem?_getD, List.getElem?_append_right (by rw [List.length_take]; omega), List.length_take, List.getElem?_drop, List.getD_eq_getElem?_getD]
  rw [show p + (p - min p a.length) = p by omega]
theorem mix_set {a b : List Int} (h : a.length = b.length) (p : Nat) (hp : p < b.length) : (mix a b p).set p (a.getD p 0) = mix a b (p + 1) := by
  unfold mix
  apply List.ext_getElem?
  intro i
  rw [List.getElem?_set]
  by_cases hi : p = i
  · subst hi
    rw [if_pos rfl, if_pos (by rw [List.length_append, List.length_take, List.length_drop]; omega)]
    rw [List.getElem?_append_left (by rw [List.length_take]; omega), List.getElem?_take, if_pos (by omega)]
    rw [List.getD_eq_getElem?_getD, List.getElem?_eq_getElem (by omega)]; rfl
  · rw [if_neg hi]
    rcases Nat.lt_or_ge i p with h1 | h1
    · rw [List.getElem?_append_left (by rw [List.length_take]; omega), List.getElem?_append_left (by rw [List.length_take]; omega), List.getElem?_take, List.getElem?_take, if_pos h1, if_pos (by omega)]
    · rw [List.getElem?_append_right (by rw [List.length_take]; omega), List.getElem?_append_right (by rw [List.length_take]; omega), List.length_take, List.length_take, List.getElem?_drop, List.getElem?_drop]
      congr 1; omega
end Go.Proofs.Ytdbpjnjgjmfomaa

/- Appending a number to a row of ints of the call's own; columns grown so. -/
namespace Go.Proofs.Ytdbpjnjgjmfomaa
open Go.RowKit

theorem OwnI.nil (w : World) (B : Nat) (_hb : B ≤ w.heap.size) : OwnI w B (.slice none 0 0) [] := by
  first | exact ⟨hb, .inl ⟨rfl, rfl⟩⟩ | exact ⟨rfl, .inl ⟨rfl, rfl⟩⟩
/-- A row that another row's append leaves as it is. -/
theorem OwnI.grown {w w1 : World} {B : Nat} {v : Value} {l : List Int} {row : Option Nat} (h : OwnI w B v l) (hg : w.grownBy w1 row) (hne : ∀ k, v.ownBlock = some k → row ≠ some k) : OwnI w1 B v l :=
  h.kept (fun k hk => hg.block k (World.ownsRow.lt h k hk).2 (fun e => hne k hk e.symm))
theorem col_take {l : List Int} {p : Nat} (h : p < l.length) : l.take p ++ [l.getD p 0] = l.take (p + 1) := by
  rw [List.take_succ_eq_append_getElem h, List.getD_eq_getElem?_getD, List.getElem?_eq_getElem h]; rfl

section
variable {P : Program} {ops : Array Oper} {rest : List Oper} {o : Oper} {a : Act} {Q : Exit → Act → World → Prop}
/-- append(v, y) of one number, behind 'at_builtin': the world is the old one and the box of y. -/
theorem append_int {w0 W : World} (B : Nat) (hgd : o.guard = none) (s x : Operand) (t : TypeId) (xs : List Int) (y : Int)
    (ho : o.op = .call { callee := .builtin .append, args := #[s, x], argTypes := #[t, t] })
    (ht : P.underlying t = some (.slice 3)) (hinfo : (P.info? 3).map (fun i => (i.zero, i.size, i.bytes)) = some (some (.int .i64 0), 1, 8))
    (v : Value) (hs : a.eval s = v) (hx : a.eval x = .slice (some ⟨W.heap.size, 0, none⟩) 1 1)
    (HO : OwnI W B v xs) (HB : Below B w0 W) (hbase : B ≤ W.heap.size) (hl : xs.length + 1 ≤ 17592186044416)
    (h : ∀ v1 w1, OwnI w1 B v1 (xs ++ [y]) → Below B w0 w1 → W.grownBy w1 v.ownBlock → (v1.ownBlock = v.ownBlock ∨ ∃ b, v1.ownBlock = some b ∧ W.heap.size ≤ b) → wpList P ops Q rest (a.put o.dst v1) w1) :
    wpList P ops Q (o :: rest) a (W.alloc (.cells #[.int .i64 y] 3)) := by
  obtain ⟨i0, hi, hzz⟩ := Option.map_eq_some_iff.1 hinfo
  simp only [Prod.mk.injEq] at hzz
  obtain ⟨hz0, hz1, hz2⟩ := hzz
  refine wpList_append_own_at (W.alloc (.cells #[.int .i64 y] 3)) hgd s x t ho B 3 i0 (.int .i64 0) 1 8 ht hi hz0 hz1 hz2 rfl (by omega) v xs.length (i64s xs) hs (HO.below ((Below.refl _ _).alloc (Nat.le_refl _) _)) ⟨W.heap.size, 0, none⟩ 1 1 [.int .i64 y] hx rfl
    (World.news_of_block (cs := #[.int .i64 y]) (t := 3) (fr := (0, 0)) (heap_alloc_new W _)) (by simp [Value.oneCell']) (by simp only [maxLen]; omega) (by omega) (by simp; omega) ?_
  intro v1 w1 hown hg _ hat
  refine h v1 w1 (by simpa [OwnI, i64s] using hown) ((HB.alloc hbase _).grown hg (by simp; omega) (fun k hk => (World.ownsRow.lt HO k hk).1)) (World.grownBy.trans (World.grownBy_alloc W _ _) hg) ?_
  rcases hat with hat | hat
  · exact .inl hat
  · exact .inr ⟨_, hat, by simp⟩
end
end Go.Proofs.Ytdbpjnjgjmfomaa

/- A table of ints whose outer row grows by append. -/
namespace Go.Proofs.Ytdbpjnjgjmfomaa
open Go.RowKit

theorem owns_kept {w w1 : World} {B size n : Nat} {e : TypeId} {v : Value} {xs : List Value} (h : w.ownsRow B e size v n xs) (hm : ∀ k, v.ownBlock = some k → w1.heap[k]? = w.heap[k]?) : w1.ownsRow B e size v n xs := by
  refine ⟨h.1, ?_⟩
  rcases h.2 with h2 | ⟨g, cap, cur, rfl, hg, hh, r⟩
  · exact .inl h2
  · exact .inr ⟨g, cap, cur, rfl, hg, (hm g rfl).trans hh, r⟩
theorem owns_below {w w1 : World} {B size n : Nat} {e : TypeId} {v : Value} {xs : List Value} (h : w.ownsRow B e size v n xs) (hb : Below w.heap.size w w1) : w1.ownsRow B e size v n xs :=
  owns_kept h (fun k hk => hb.block k (World.ownsRow.lt h k hk).2)
/-- k rows of m ints; the outer row is v, row r lies in block R r and holds T r. -/
structure TabA (w : World) (B : Nat) (v : Value) (m k : Nat) (R : Nat → Nat) (T : Nat → List Int) : Prop where
  own : w.ownsRow B 28 1 v k ((List.range k).map fun r => Value.slice (some ⟨R r, 0, none⟩) m m)
  row : ∀ r, r < k → OwnI w B (.slice (some ⟨R r, 0, none⟩) m m) (T r)
  len : ∀ r, r < k → (T r).length = m
  inj : ∀ r s, r < k → s < k → R r = R s → r = s
  ne : ∀ r, r < k → v.ownBlock ≠ some (R r)
theorem TabA.nil (w : World) (B m : Nat) (R : Nat → Nat) (T : Nat → List Int) : TabA w B (.slice none 0 0) m 0 R T :=
  ⟨⟨rfl, .inl ⟨rfl, rfl⟩⟩, fun r h => by omega, fun r h => by omega, fun r s h => by omega, fun r h => by omega⟩
theorem TabA.form {w : World} {B m k : Nat} {v : Value} {R : Nat → Nat} {T : Nat → List Int} (h : TabA w B v m k R T) (hk : 0 < k) : ∃ g cap, v = .slice (some ⟨g, 0, none⟩) k cap ∧ B ≤ g ∧ g < w.heap.size ∧ TabI w g k m R T := by
  rcases h.own.2 with ⟨rfl, h1⟩ | ⟨g, cap, cur, rfl, hB, hh, r⟩
  · omega
  · refine ⟨g, cap, rfl, hB, (Array.getElem?_eq_some_iff.1 hh).1, ⟨fun r hr => ?_, fun r hr => (h.row r hr).lower (Nat.zero_le _), h.len, h.inj, fun r hr e => h.ne r hr (by simp [Value.ownBlock, e])⟩⟩
    rw [World.ownsRow.cellAt h.own r (by simpa using hr)]
    simp [hr]
theorem TabA.blk {w : World} {B m k r : Nat} {v : Value} {R : Nat → Nat} {T : Nat → List Int} (h : TabA w B v m k R T) (hr : r < k) : B ≤ R r ∧ R r < w.heap.size := by
  have := h.row r hr
  have h2 := World.ownsRow.lt this (R r) rfl
  exact h2
/-- One row more: its block, the box of its slice, and the append. -/
theorem TabA.step {w w1 : World} {B m k : Nat} {v v1 : Value} {R : Nat → Nat} {T : Nat → List Int} (h : TabA w B v m k R T) (hB : B ≤ w.heap.size) (hm : m ≤ 1000) {x : Value}
    (hown : w1.ownsRow B 28 1 v1 (k + 1) (((List.range k).map fun r => Value.slice (some ⟨R r, 0, none⟩) m m) ++ [.slice (some ⟨w.heap.size, 0, none⟩) m m]))
    (hg : World.grownBy ((w.alloc (.cells (madeCells #[.int .i64 0] m) 3)).alloc (.cells #[x] 28)) w1 v.ownBlock)
    (hat : v1.ownBlock = v.ownBlock ∨ v1.ownBlock = some (w.heap.size + 2)) :
    TabA w1 B v1 m (k + 1) (fun r => if r = k then w.heap.size else R r) (fun r => if r = k then List.replicate m 0 else T r) := by
  have hba := ((Below.refl w.heap.size w).alloc (Nat.le_refl _) (.cells (madeCells #[.int .i64 0] m) 3)).alloc (by simp) (.cells #[x] 28)
  have hvb : ∀ b, v.ownBlock = some b → b < w.heap.size := fun b hb => (World.ownsRow.lt h.own b hb).2
  refine ⟨?_, fun r hr => ?_, fun r hr => ?_, fun r s hr hs e => ?_, fun r hr e => ?_⟩
  · rw [List.range_succ, List.map_append]
    have e : (List.range k).map (fun r => Value.slice (some ⟨if r = k then w.heap.size else R r, 0, none⟩) m m) = (List.range k).map fun r => Value.slice (some ⟨R r, 0, none⟩) m m :=
      List.map_congr_left (fun r hr => by rw [List.mem_range] at hr; rw [if_neg (by omega)])
    rw [e]
    simpa using hown
  · by_cases e : r = k
    · subst e
      simp only [if_pos]
      have := OwnI.made w B m hB (by omega)
      have h2 := this.below ((Below.refl _ (w.alloc (.cells (madeCells #[.int .i64 0] m) 3))).alloc (Nat.le_refl _) (.cells #[x] 28))
      exact h2.grown hg (fun b hb e2 => by have := hvb b e2; simp [Value.ownBlock] at hb; omega)
    · simp only [if_neg e]
      have hr' : r < k := by omega
      exact ((h.row r hr').below hba).grown hg (fun b hb e2 => h.ne r hr' (by rw [e2]; simpa [Value.ownBlock] using hb.symm))
  · by_cases e : r = k
    · subst e; simp
    · simp only [if_neg e]; exact h.len r (by omega)
  · by_cases e1 : r = k <;> by_cases e2 : s = k
    · omega
    · simp only [if_pos e1, if_neg e2] at e
      have := (h.blk (show s < k by omega)).2; omega
    · simp only [if_neg e1, if_pos e2] at e
      have := (h.blk (show r < k by omega)).2; omega
    · simp only [if_neg e1, if_neg e2] at e
      exact h.inj r s (by omega) (by omega) e
  · by_cases e1 : r = k
    · simp only [if_pos e1] at e
      rcases hat with h1 | h1
      · have := hvb _ (h1.symm.trans e); omega
      · rw [h1] at e; injection e with e; omega
    · simp only [if_neg e1] at e
      rcases hat with h1 | h1
      · exact h.ne r (by omega) (h1.symm.trans e)
      · rw [h1] at e; injection e with e; have := (h.blk (show r < k by omega)).2; omega
theorem TabA.congr {w : World} {B m k : Nat} {v : Value} {R R' : Nat → Nat} {T U : Nat → List Int} (h : TabA w B v m k R T) (e1 : ∀ r, r < k → R' r = R r) (e2 : ∀ r, r < k → U r = T r) : TabA w B v m k R' U := by
  refine ⟨?_, fun r hr => by rw [e1 r hr, e2 r hr]; exact h.row r hr, fun r hr => by rw [e2 r hr]; exact h.len r hr, fun r s hr hs e => h.inj r s hr hs (by rwa [e1 r hr, e1 s hs] at e), fun r hr => by rw [e1 r hr]; exact h.ne r hr⟩
  rw [show (List.range k).map (fun r => Value.slice (some ⟨R' r, 0, none⟩) m m) = (List.range k).map fun r => Value.slice (some ⟨R r, 0, none⟩) m m from List.map_congr_left (fun r hr => by rw [List.mem_range] at hr; rw [e1 r hr])]
  exact h.own
end Go.Proofs.Ytdbpjnjgjmfomaa

/- The reference's Groups, the good case. -/
namespace Go.Proofs.Ytdbpjnjgjmfomaa
open Go.RowKit

theorem rk_lt (l : List Int) (i : Nat) : ∀ k, i < k → rk l i k < k
  | 0, h => by omega
  | k + 1, h => by
    simp only [rk]
    by_cases e : i = k
    · subst e
      rw [if_neg (by omega)]
      have := rk_le l i i
      omega
    · have := rk_lt l i k (by omega)
      split <;> omega
theorem TabI.congr' {w : World} {gt n m : Nat} {R : Nat → Nat} {T U : Nat → List Int} (h : TabI w gt n m R T) (e : ∀ r, r < n → U r = T r) : TabI w gt n m R U :=
  ⟨h.top, fun r hr => by rw [e r hr]; exact h.row r hr, fun r hr => by rw [e r hr]; exact h.len r hr, h.inj, h.ne⟩

set_option maxHeartbeats 16000000 in
set_option maxRecDepth 100000 in
theorem ref_Groups_ok {S T : Nat → Prop} {u v : Value} {os ts : List Int} (w : World) (n m : Nat) (hu : IntsV S w u os) (hv : IntsV T w v ts) (hL : os.length = ts.length) (h0 : 0 < ts.length) (h40 : ts.length ≤ 40) (hok : okScores ts = true) (hn1 : 1 ≤ n) (hn5 : n ≤ 5) (hm1 : 1 ≤ m) (hm10 : m ≤ 10) :
    Calls Try.prog 18 #[u, v, .int .i64 n, .int .i64 m] w fun e w' => ∃ g cap R, e = .returned (.tuple #[.slice (some ⟨g, 0, none⟩) n cap, .int .i64 0]) ∧ Below w.heap.size w w' ∧ TabI w' g n m R (runT m (pstP os ts n m) ts.length) := by
  obtain ⟨A, c, rfl⟩ := hu.slice
  obtain ⟨B, d, rfl⟩ := hv.slice
  obtain ⟨L, hLe⟩ : ∃ L, ts.length = L := ⟨_, rfl⟩
  have K : As (Calls Try.prog 46 #[.slice B L d] w fun e w' => e = .returned (.bool true) ∧ Drawn w w') := ⟨by
    have := ref_all w hv (by omega)
    rwa [hok, hLe] at this⟩
  have hvi := hv.mono (T := fun k => k < w.heap.size) (fun k _ h => h)
  have hui := As.mk (hu.mono (T := fun k => k < w.heap.size) (fun k _ h => h))
  rw [hL, hLe] at hui
  have hLo := As.mk (hL.trans hLe)
  rw [hL, hLe]
  rw [hLe] at h0 h40 hvi
  have HRK : As (∀ W, Below w.heap.size w W → ∀ i : Nat, i < L → Calls Try.prog 47 #[.slice B L d, .int .i64 i] W fun e w' => e = .returned (.int .i64 (rk ts i L)) ∧ Drawn W w') := ⟨fun W hb i hi => by
    have h1 : IntsV (fun k => k < w.heap.size) W (.slice B ts.length d) ts := by rw [hLe]; exact hvi.below hb
    have := ref_rank W h1 i (by omega) (by omega)
    rwa [hLe] at this⟩
  have hmkM : ∀ W, (Instr.makeSlice 28 (.int .i64 (m : Int)) (.int .i64 (m : Int))).run Try.prog W = .ok (.slice (some ⟨W.heap.size, 0, none⟩) m m) (W.alloc (.cells (madeCells #[.int .i64 0] m) 3)) :=
    fun W => make_ints 28 Try.underlying28 (by kernel_rfl) m m (by omega) (by omega) W
  obtain ⟨i0, hi, hzz⟩ := Option.map_eq_some_iff.1 (show (Try.prog.info? 28).map (fun i => (i.zero, i.size, i.bytes)) = some (some (.slice none 0 0), 1, 24) by kernel_rfl)
  simp only [Prod.mk.injEq] at hzz
  obtain ⟨hz0, hz1, hz2⟩ := hzz
  have hi' := As.mk hi
  have hz' := As.mk (And.intro hz0 (And.intro hz1 hz2))
  clear hi hz0 hz1 hz2
  have a1 : ((n : Int) < 1) = False := eq_false (by omega)
  have a2 : (5 < (n : Int)) = False := eq_false (by omega)
  have a3 : ((m : Int) < 1) = False := eq_false (by omega)
  have a4 : (10 < (m : Int)) = False := eq_false (by omega)
  have a5 : (200 < (L : Int)) = False := eq_false (by omega)
  have a6 : ((L : Int) = 0) = False := eq_false (by omega)
  have a6b : ((L : Int) == 0) = false := beq_eq_false_iff_ne.2 (by omega)
  have a6n : (L = 0) = False := eq_false (by omega)
  replace hLe := As.mk hLe
  clear hu hv hL hok hvi
  go_enter Try.func18, Try.ntmps18
  go_wp2_with fail
  refine K.out.mono ?_
  rintro e w1 ⟨rfl, h⟩
  have hb1 := h.below
  clear h K
  go_wp2_with fail
  go_loopw [10, 11] (fun v10 v11 wr => ∃ (r : Nat) (R : Nat → Nat) (T : Nat → List Int), r ≤ n ∧ v11 = .int .i64 r ∧ Below w.heap.size w wr ∧ TabA wr w.heap.size v10 m r R T ∧ ∀ q, q < r → T q = List.replicate m 0) (fun _ v11 _ => (n - intOf v11).toNat)
  case atStart => exact ⟨0, fun _ => 0, fun _ => [], by omega, rfl, hb1, TabA.nil _ _ _ _ _, fun q h => by omega⟩
  case round =>
    clear hb1
    obtain ⟨r, R, T, hr, rfl, hB, hT, hTz⟩ := hrel
    by_cases hlr : r < n
    · have br : ((r : Int) < (n : Int)) = True := eq_true (by omega)
      have hsz := hB.size
      have hown0 := As.mk (owns_below hT.own (((Below.refl wr.heap.size wr).alloc (Nat.le_refl _) (.cells (madeCells #[.int .i64 0] m) 3)).alloc (by simp) (.cells #[.slice (some ⟨wr.heap.size, 0, none⟩) m m] 28)))
      have hTT := As.mk hT
      have hTz' := As.mk hTz
      clear hT hTz
      go_wp2_with (first
        | (at_builtin; refine wpList_append_own_at _ rfl _ _ 30 rfl w.heap.size 28 i0 (.slice none 0 0) 1 24 Try.underlying30 hi'.out hz'.out.1 hz'.out.2.1 hz'.out.2.2 (by simp [Value.cells]) (by omega) u10 r _ rfl hown0.out ⟨wr.heap.size + 1, 0, none⟩ 1 1 [.slice (some ⟨wr.heap.size, 0, none⟩) m m] rfl rfl
            (World.news_of_block (cs := #[.slice (some ⟨wr.heap.size, 0, none⟩) m m]) (t := 28) (fr := (0, 0)) (by have := heap_alloc_new (wr.alloc (.cells (madeCells #[.int .i64 0] m) 3)) (.cells #[.slice (some ⟨wr.heap.size, 0, none⟩) m m] 28); simpa using this)) (by simp [Value.oneCell']) (by simp only [maxLen]; omega) (by omega) (by simp; omega) ?_
           intro v1 w2 hown hg _ hat))
      have hT1 := hTT.out.step hsz (by omega) hown hg (by simpa using hat)
      have hB1 := ((hB.alloc hsz (.cells (madeCells #[.int .i64 0] m) 3)).alloc (by simp; omega) (.cells #[.slice (some ⟨wr.heap.size, 0, none⟩) m m] 28)).grown hg (by simp; omega) (fun k hk => (World.ownsRow.lt hown0.out k hk).1)
      have hTz1 := hTz'.out
      go_roundw
      case rel => exact ⟨r + 1, _, _, by omega, by go_num, hB1, hT1, fun q hq => by
        by_cases e : q = r
        · simp [e]
        · simp only [if_neg e]; exact hTz1 q (by omega)⟩
      case measure => simp [intOf]; omega
    · obtain rfl : n = r := by omega
      have br : ((n : Int) < (n : Int)) = False := eq_false (by omega)
      obtain ⟨g, cap, rfl, hg1, hg2, hI⟩ := hT.form (by omega)
      have hI0 : TabI wr g n m R (runT m (pstP os ts n m) 0) := hI.congr' (fun q hq => (hTz q hq).symm)
      have hRb : As (∀ q, q < n → w.heap.size ≤ R q) := ⟨fun q hq => (hT.blk hq).1⟩
      clear hT hTz hI
      go_wp2_with fail
      go_loopw [12, 13] (fun v12 _ wr => ∃ i : Nat, i ≤ L ∧ v12 = .int .i64 i ∧ Below w.heap.size w wr ∧ TabI wr g n m R (runT m (pstP os ts n m) i)) (fun v12 _ _ => (L - intOf v12).toNat)
      case atStart => exact ⟨0, by omega, rfl, hB, hI0⟩
      case round =>
        clear hI0 hB hg2
        rename World => wq
        obtain ⟨i, hi, rfl, hB, hT⟩ := hrel
        by_cases hlt : i < L
        · have bi : ((i : Int) < (L : Int)) = True := eq_true (by omega)
          have bi0 : (0 ≤ (i : Int)) = True := eq_true (by omega)
          obtain ⟨ad, rfl, hcell⟩ := (hui.out.below hB).cells (by rw [hLo.out]; omega)
          have hoc := hcell i (by rw [hLo.out]; exact hlt)
          have hst : As (pstP os ts n m i = if 0 ≤ os.getD i 0 ∧ os.getD i 0 < (m : Int) then some (rk ts i L * n / L, (os.getD i 0).toNat) else none) := ⟨by unfold pstP; rw [hLe.out]⟩
          clear hcell
          obtain ⟨X, hX⟩ : ∃ X, os.getD i 0 = X := ⟨_, rfl⟩
          rw [hX] at hoc hst
          clear hX
          by_cases hX0 : 0 ≤ X
          · obtain ⟨x, rfl⟩ := Int.eq_ofNat_of_zero_le hX0
            have bx0 : (0 ≤ (x : Int)) = True := eq_true (by omega)
            by_cases hXm : (x : Int) < (m : Int)
            · have bxm : ((x : Int) < (m : Int)) = True := eq_true (by omega)
              have hxm : x < m := by omega
              have HK := HRK.out wq hB i hlt
              obtain ⟨k, hk⟩ : ∃ k, rk ts i L = k := ⟨_, rfl⟩
              have hkL : k < L := by rw [← hk]; exact rk_lt ts i L hlt
              have hpl := place_lt hkL hn1
              obtain ⟨q, hq⟩ : ∃ q, k * n / L = q := ⟨_, rfl⟩
              rw [hk, hq] at hst
              rw [hq] at hpl
              rw [hk] at HK
              have hst2 : As (pstP os ts n m i = some (q, x)) := ⟨by rw [hst.out, if_pos ⟨hX0, hXm⟩]; rfl⟩
              have hw64 : wrap64 ((wrap64 ((k : Int) * (n : Int))).tdiv (L : Int)) = (q : Int) := place_wrap hq (by omega) (by omega) (by omega)
              have HK' := As.mk HK
              replace hk := As.mk hk
              replace hq := As.mk hq
              clear hst hX0 hXm HK
              go_wp2_with fail
              refine HK'.out.mono ?_
              rintro e w3 ⟨rfl, hD⟩
              clear HK'
              have hd := hD.below
              have hB3 := hB.after hB.size hd
              have hT3 := hT.below hd
              have hoc3 := cell_below hoc hd
              clear hd hD hB hT hoc
              go_wp2_with fail
              have htop := hT3.top q hpl
              obtain ⟨hcv, hcf⟩ := hT3.get q x hpl (by omega)
              obtain ⟨Y, hY⟩ : ∃ Y, (runT m (pstP os ts n m) i q).getD x 0 = Y := ⟨_, rfl⟩
              rw [hY] at hcv
              have hYb : 0 ≤ Y ∧ Y ≤ 40 := by
                have := runT_le (m := m) (st := pstP os ts n m) (pstP_lt os ts n m) i q x (by omega)
                rw [hY] at this
                omega
              obtain ⟨hY0, hY1⟩ := hYb
              have hwY : IntKind.i64.wrap (Y + 1) = Y + 1 := IntWalk.i64_in _ (by omega)
              have hG1 : As (TabI ((w3.drewN 1).setCell ⟨R q, x, none⟩ (.int .i64 (Y + 1))) g n m R (runT m (pstP os ts n m) (i + 1))) := ⟨by
                have := (hT3.below ((Below.refl _ _).drewsN 1)).set q x hpl (Y + 1)
                rw [← hY] at this ⊢
                exact this.congr (fun r => by simp only [runT, hst2.out]; rfl)⟩
              have hB4 : As (Below w.heap.size w ((w3.drewN 1).setCell ⟨R q, x, none⟩ (.int .i64 (Y + 1)))) := ⟨(hB3.drewsN 1).setCell (hRb.out q hpl) _⟩
              have bq0 : (0 ≤ (q : Int)) = True := eq_true (by omega)
              have bqn : ((q : Int) < (n : Int)) = True := eq_true (by omega)
              rw [hw64]
              clear hT3 hB3 hY hw64
              obtain ⟨b, hb⟩ : ∃ b, R q = b := ⟨_, rfl⟩
              rw [hb] at hcv hcf htop hG1 hB4
              clear hb
              go_still_tail 20, (by kernel_rfl)
              repeat still_step
              try refine wpStill_nil ?_
              change wpList _ _ _ _ _ (w3.drewN 1)
              go_wp2_with fail
              go_roundw
              case rel => exact ⟨i + 1, by omega, by go_num, hB4.out, hG1.out⟩
              case measure => simp [intOf]; omega
            · have bxm : ((x : Int) < (m : Int)) = False := eq_false (by omega)
              have hT1 := As.mk (hT.congr (U := runT m (pstP os ts n m) (i + 1)) (fun r => by
                have : pstP os ts n m i = none := by rw [hst.out, if_neg (fun h => hXm h.2)]
                simp only [runT, this]))
              clear hst hX0 hXm hT
              go_wp2_with fail
              go_roundw
              case rel => exact ⟨i + 1, by omega, by go_num, hB, hT1.out⟩
              case measure => simp [intOf]; omega
          · have bx0 : (0 ≤ X) = False := eq_false (by omega)
            have hT1 := As.mk (hT.congr (U := runT m (pstP os ts n m) (i + 1)) (fun r => by
              have : pstP os ts n m i = none := by rw [hst.out, if_neg (fun h => hX0 h.1)]
              simp only [runT, this]))
            clear hst hX0 hT
            go_wp2_with fail
            go_roundw
            case rel => exact ⟨i + 1, by omega, by go_num, hB, hT1.out⟩
            case measure => simp [intOf]; omega
        · obtain rfl : L = i := by omega
          have bi : ((L : Int) < (L : Int)) = False := eq_false (by omega)
          have hT1 := As.mk hT
          clear hT
          go_wp2_with fail
          go_ret2
          exact ⟨g, cap, R, rfl, hB, hT1.out⟩
end Go.Proofs.Ytdbpjnjgjmfomaa

/- The law's own helper many over chapter 25. -/
namespace Go.Proofs.Ytdbpjnjgjmfomaa
open Go.RowKit

def manyB (n : Nat) : Bool := decide (40 < n ∧ n ≤ 200)
set_option maxHeartbeats 4000000 in
set_option maxRecDepth 100000 in
theorem law_many (w : World) (A : Option Addr) (c n : Nat) (hm : n ≤ 140737488351232) :
    Calls Try.prog 16 #[.slice A n c] w fun e w' => e = .returned (.bool (manyB n)) ∧ Drawn w w' := by
  by_cases h1 : 40 < n
  · by_cases h2 : n ≤ 200
    · have R : As (manyB n = true) := ⟨by unfold manyB; exact decide_eq_true ⟨h1, h2⟩⟩
      have b1 : (40 < (n : Int)) = True := eq_true (by omega)
      have b2 : ((n : Int) ≤ 200) = True := eq_true (by omega)
      go_enter Try.func16, Try.ntmps16
      go_wp2_with fail
      go_ret
      exact ⟨by rw [R.out]; first | rfl | simp, by repeat (first | exact Drawn.refl _ | apply Drawn.step)⟩
    · have R : As (manyB n = false) := ⟨by unfold manyB; exact decide_eq_false (fun h => h2 h.2)⟩
      have b1 : (40 < (n : Int)) = True := eq_true (by omega)
      have b2 : ((n : Int) ≤ 200) = False := eq_false (by omega)
      go_enter Try.func16, Try.ntmps16
      go_wp2_with fail
      go_ret
      exact ⟨by rw [R.out]; first | rfl | simp, by repeat (first | exact Drawn.refl _ | apply Drawn.step)⟩
  · have R : As (manyB n = false) := ⟨by unfold manyB; exact decide_eq_false (fun h => h1 h.1)⟩
    have b1 : (40 < (n : Int)) = False := eq_false (by omega)
    go_enter Try.func16, Try.ntmps16
    go_wp2_with fail
    go_ret
    exact ⟨by rw [R.out]; first | rfl | simp, by repeat (first | exact Drawn.refl _ | apply Drawn.step)⟩
end Go.Proofs.Ytdbpjnjgjmfomaa

/- The law of classical.Groups and the reference's: they agree. -/
namespace Go.Proofs.Ytdbpjnjgjmfomaa
open Go.RowKit

theorem grp_zero {os ts : List Int} {n m : Int} (h : grpE os ts n m = 0) (h1 : manyB ts.length = false) : ∃ n' m' : Nat, n = n' ∧ m = m' ∧ 1 ≤ n' ∧ n' ≤ 5 ∧ 1 ≤ m' ∧ m' ≤ 10 ∧ os.length = ts.length ∧ 0 < ts.length ∧ ts.length ≤ 40 ∧ okScores ts = true := by
  unfold grpE at h
  have hm : ¬ (40 < ts.length ∧ ts.length ≤ 200) := of_decide_eq_false h1
  split at h
  · omega
  · split at h
    · omega
    · split at h
      · omega
      · split at h
        · omega
        · split at h
          · omega
          · rename_i c1 c2 c3 c4 c5
            refine ⟨n.toNat, m.toNat, by omega, by omega, by omega, by omega, by omega, by omega, by omega, by omega, by omega, by simpa using c3⟩

set_option maxHeartbeats 16000000 in
set_option maxRecDepth 100000 in
theorem law_Groups {S T : Nat → Prop} {u v : Value} {os ts : List Int} (w : World) (n m : Int) (hu : IntsV S w u os) (hv : IntsV T w v ts) (ho : os.length ≤ 140737488351232) (ht : ts.length ≤ 140737488351232) :
    Calls Try.prog 5 #[u, v, .int .i64 n, .int .i64 m] w fun e w' => e = .returned (.bool true) ∧ Below w.heap.size w w' := by
  obtain ⟨A, c, rfl⟩ := hu.slice
  obtain ⟨B, d, rfl⟩ := hv.slice
  have M1 : As (∀ W, Calls Try.prog 16 #[.slice A os.length c] W fun e w' => e = .returned (.bool (manyB os.length)) ∧ Drawn W w') := ⟨fun W => law_many W A c _ ho⟩
  have M2 : As (∀ W, Calls Try.prog 16 #[.slice B ts.length d] W fun e w' => e = .returned (.bool (manyB ts.length)) ∧ Drawn W w') := ⟨fun W => law_many W B d _ ht⟩
  cases h1 : manyB os.length with
  | true =>
    rw [h1] at M1
    clear hu hv h1 M2
    generalize os.length = L1 at *
    generalize ts.length = L2 at *
    go_enter Try.func5, Try.ntmps5
    go_wp2_with fail
    refine (M1.out _).mono ?_
    rintro e w1 ⟨rfl, hD⟩
    clear M1
    go_wp2_with fail
    go_ret
    exact ⟨rfl, hD.below⟩
  | false =>
    rw [h1] at M1
    cases h2 : manyB ts.length with
    | true =>
      rw [h2] at M2
      clear hu hv h1 h2
      generalize os.length = L1 at *
      generalize ts.length = L2 at *
      go_enter Try.func5, Try.ntmps5
      go_wp2_with fail
      refine (M1.out _).mono ?_
      rintro e w1 ⟨rfl, hD⟩
      clear M1
      go_wp2_with fail
      refine (M2.out _).mono ?_
      rintro e w2 ⟨rfl, hD2⟩
      clear M2
      go_wp2_with fail
      go_ret
      exact ⟨rfl, hD.below.after hD.below.size hD2.below⟩
    | false =>
      rw [h2] at M2
      by_cases hE : grpE os ts n m = 0
      · obtain ⟨n, m, rfl, rfl, hn1, hn5, hm1, hm10, hL, hl0, h40, hok⟩ := grp_zero hE h2
        have C1 : As (∀ W, Below w.heap.size w W → Calls Try.prog 17 #[.slice A os.length c, .slice B ts.length d, .int .i64 n, .int .i64 m] W fun e w' => ∃ gt, W.heap.size < gt ∧ e = .returned (.tuple #[.slice (some ⟨gt, 0, none⟩) n n, .int .i64 0]) ∧ Below W.heap.size W w' ∧ TabI w' gt n m (fun r => gt + 1 + r) (runT m (pstP os ts n m) ts.length)) :=
          ⟨fun W hb => cls_Groups_ok W n m (hu.below hb) (hv.below hb) hL hl0 h40 hok hn1 hn5 hm1 hm10⟩
        have C2 : As (∀ W, Below w.heap.size w W → Calls Try.prog 18 #[.slice A os.length c, .slice B ts.length d, .int .i64 n, .int .i64 m] W fun e w' => ∃ g cap R, e = .returned (.tuple #[.slice (some ⟨g, 0, none⟩) n cap, .int .i64 0]) ∧ Below W.heap.size W w' ∧ TabI w' g n m R (runT m (pstP os ts n m) ts.length)) :=
          ⟨fun W hb => ref_Groups_ok W n m (hu.below hb) (hv.below hb) hL hl0 h40 hok hn1 hn5 hm1 hm10⟩
        generalize runT m (pstP os ts n m) ts.length = X at *
        clear hu hv h1 h2 hE hL hl0 h40 hok
        generalize os.length = L1 at *
        generalize ts.length = L2 at *
        go_enter Try.func5, Try.ntmps5
        go_wp2_with fail
        refine (M1.out _).mono ?_
        rintro e w1 ⟨rfl, hD⟩
        clear M1
        go_wp2_with fail
        refine (M2.out _).mono ?_
        rintro e w2 ⟨rfl, hD2⟩
        clear M2
        have hb2 := hD.below.after hD.below.size hD2.below
        clear hD hD2
        have K1 := As.mk (C1.out _ hb2)
        clear C1
        go_wp2_with fail
        refine K1.out.mono ?_
        rintro e w3 ⟨gt, _, rfl, hb3, hT1⟩
        replace hb3 := hb2.after hb2.size hb3
        have K2 := As.mk (C2.out _ hb3)
        clear C2 K1 hb2
        go_wp2_with fail
        refine K2.out.mono ?_
        rintro e w4 ⟨g, cap, R, rfl, hb4, hT2⟩
        replace hT1 := hT1.below hb4
        replace hb4 := hb3.after hb3.size hb4
        clear K2 hb3
        go_wp2_with fail
        have HC : As (∀ W, Below w4.heap.size w4 W → ∀ i : Nat, i < n → (∃ b1 b2 : Nat, W.cell? ⟨gt, i, none⟩ = some (.slice (some ⟨b1, 0, none⟩) m m) ∧ W.cell? ⟨g, i, none⟩ = some (.slice (some ⟨b2, 0, none⟩) m m) ∧ ∀ j : Nat, j < m → ∃ x, W.cell? ⟨b1, j, none⟩ = some (.int .i64 x) ∧ W.cell? ⟨b2, j, none⟩ = some (.int .i64 x))) := ⟨fun W hb i hi =>
          ⟨_, _, (hT1.below hb).top i hi, (hT2.below hb).top i hi, fun j hj => ⟨_, ((hT1.below hb).get i j hi hj).1, ((hT2.below hb).get i j hi hj).1⟩⟩⟩
        clear hT1 hT2
        have hbz := As.mk hb4
        clear hb4
        go_loopw [13, 14] (fun v13 _ wr => ∃ i : Nat, i ≤ n ∧ v13 = .int .i64 i ∧ Below w4.heap.size w4 wr) (fun v13 _ _ => (n - intOf v13).toNat)
        case atStart => exact ⟨0, by omega, rfl, Below.refl _ _⟩
        case round =>
          obtain ⟨i, hi, rfl, hB⟩ := hrel
          by_cases hlt : i < n
          · have bi : ((i : Int) < (n : Int)) = True := eq_true (by omega)
            have bi0 : (0 ≤ (i : Int)) = True := eq_true (by omega)
            obtain ⟨b1, b2, hc1, hc2, _⟩ := HC.out wr hB i hlt
            go_wp2_with fail
            go_quiet (fail)
            go_wp2_with fail
            clear hc1 hc2
            go_loopw [14] (fun v14 wr => ∃ j : Nat, j ≤ m ∧ v14 = .int .i64 j ∧ Below w4.heap.size w4 wr) (fun v14 _ => (m - intOf v14).toNat)
            case atStart => exact ⟨0, by omega, rfl, by repeat (first | exact hB | apply Below.drewsN)⟩
            case round =>
              clear hB
              rename World => wq
              obtain ⟨j, hj, rfl, hB⟩ := hrel
              by_cases hltj : j < m
              · have bj : ((j : Int) < (m : Int)) = True := eq_true (by omega)
                have bj0 : (0 ≤ (j : Int)) = True := eq_true (by omega)
                obtain ⟨b1, b2, hc1, hc2, hcc⟩ := HC.out wq hB i hlt
                obtain ⟨x, hx1, hx2⟩ := hcc j hltj
                clear hcc
                go_wp2_with fail
                go_quiet (fail)
                go_wp2_with fail
                go_roundw
                case rel => exact ⟨j + 1, by omega, by go_num, by repeat (first | exact hB | apply Below.drewsN)⟩
                case measure => simp [intOf]; omega
              · obtain rfl : m = j := by omega
                have bj : ((m : Int) < (m : Int)) = False := eq_false (by omega)
                obtain ⟨b1, b2, hc1, hc2, _⟩ := HC.out wq hB i hlt
                go_wp2_with fail
                go_roundw
                case rel => exact ⟨i + 1, by omega, by go_num, by repeat (first | exact hB | apply Below.drewsN)⟩
                case measure => simp [intOf]; omega
          · obtain rfl : n = i := by omega
            go_wp2_with fail
            go_ret
            exact ⟨rfl, hbz.out.after hbz.out.size hB⟩
      · have C1 : As (∀ W, Below w.heap.size w W → Calls Try.prog 17 #[.slice A os.length c, .slice B ts.length d, .int .i64 n, .int .i64 m] W fun e w' => e = .returned (.tuple #[.slice none 0 0, .int .i64 (grpE os ts n m)]) ∧ Below W.heap.size W w') :=
          ⟨fun W hb => cls_Groups_no W n m (hu.below hb) (hv.below hb) ho ht hE⟩
        have C2 : As (∀ W, Below w.heap.size w W → Calls Try.prog 18 #[.slice A os.length c, .slice B ts.length d, .int .i64 n, .int .i64 m] W fun e w' => e = .returned (.tuple #[.slice none 0 0, .int .i64 (grpE os ts n m)]) ∧ Below W.heap.size W w') :=
          ⟨fun W hb => ref_Groups_no W n m (hu.below hb) (hv.below hb) ho ht hE⟩
        generalize grpE os ts n m = E at *
        clear hu hv h1 h2 hE
        generalize os.length = L1 at *
        generalize ts.length = L2 at *
        go_enter Try.func5, Try.ntmps5
        go_wp2_with fail
        refine (M1.out _).mono ?_
        rintro e w1 ⟨rfl, hD⟩
        clear M1
        go_wp2_with fail
        refine (M2.out _).mono ?_
        rintro e w2 ⟨rfl, hD2⟩
        clear M2
        have hb2 := hD.below.after hD.below.size hD2.below
        clear hD hD2
        have K1 := As.mk (C1.out _ hb2)
        clear C1
        go_wp2_with fail
        refine K1.out.mono ?_
        rintro e w3 ⟨rfl, hb3⟩
        replace hb3 := hb2.after hb2.size hb3
        have K2 := As.mk (C2.out _ hb3)
        clear C2 K1 hb2
        go_wp2_with fail
        refine K2.out.mono ?_
        rintro e w4 ⟨rfl, hb4⟩
        replace hb4 := hb3.after hb3.size hb4
        clear K2 hb3
        go_wp2_with fail
        go_loopw [13, 14] (fun v13 _ wr => v13 = .int .i64 0 ∧ Below w.heap.size w wr) (fun _ _ _ => 0)
        case atStart => exact ⟨rfl, hb4⟩
        case round =>
          obtain ⟨rfl, hB⟩ := hrel
          go_wp2_with fail
          go_ret
          exact ⟨rfl, hB⟩
end Go.Proofs.Ytdbpjnjgjmfomaa

/- A list of ints, opened. -/
namespace Go.Proofs.Ytdbpjnjgjmfomaa
open Go.RowKit Go.Deep Go.ChangeShapes

section
variable {H : Type} {enc : TypeId × Value → H} {W : World} {held : Bool} {fuel : Nat}
theorem open_intsV {cs : List Value} {x : DataW H × List MemPlace} (h : DataW.trod enc Try.prog W 0 (fun _ => true) held fuel 28 cs = some x) :
    ∃ A zs c, cs = [.slice A zs.length c] ∧ IntsV (fun _ => True) W (.slice A zs.length c) zs ∧ (zs = [] ∨ ∃ ds ss, x.1 = .slice ds ss ∧ ds.length = zs.length) := by
  rcases open_ints Try.underlying28 Try.underlying3 (by kernel_rfl) h with ⟨hcs, _⟩ | ⟨a, len, cap, zs, hcs, _, hl, hm, hz, hx, hcell, hwf⟩
  · exact ⟨none, [], 0, by simpa using hcs, ⟨none, 0, rfl, Nat.le_refl _, Rd.nil _ _ _⟩, .inl rfl⟩
  · simp only [if_true] at hz
    have hlen : (zs.take len).length = len := by rw [List.length_take]; omega
    refine ⟨some a, zs.take len, cap, by rw [hlen]; simpa using hcs, ⟨some a, cap, rfl, by omega, fun _ => ⟨a, rfl, trivial, fun j v hj => ?_⟩⟩, .inr ⟨_, _, by rw [hx], by simp [lits]⟩⟩
    have hjl : j < len := by
      have := (List.getElem?_eq_some_iff.1 hj).1
      rw [i64s_length, hlen] at this
      exact this
    rw [i64s_get _ j (by omega)] at hj
    injection hj with hj
    rw [hcell j (by omega), ← hj]
    congr 2
    rw [List.getD_eq_getElem?_getD, List.getD_eq_getElem?_getD, List.getElem?_take, if_pos hjl]
end
end Go.Proofs.Ytdbpjnjgjmfomaa
