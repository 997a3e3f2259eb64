/- The reliability coefficient in plain Lean: columns, totals, and that the covariances of all columns add up to the variance of the totals. -/
import Derived.Test.YtdbpjnjgjmfomaaOwnI
namespace Go.Proofs.Ytdbpjnjgjmfomaa
open Go.RowKit

def col (rows : List (List Int)) (i : Nat) : List Int := rows.map (fun r => r.getD i 0)
/-- The sum of the first k numbers of a row, of each row. -/
def totp (rows : List (List Int)) (k : Nat) : List Int := rows.map (fun r => sm r k)
theorem col_length (rows : List (List Int)) (i : Nat) : (col rows i).length = rows.length := by simp [col]
theorem totp_length (rows : List (List Int)) (k : Nat) : (totp rows k).length = rows.length := by simp [totp]
theorem col_get (rows : List (List Int)) (i p : Nat) : (col rows i).getD p 0 = (rows.getD p []).getD i 0 := by
  unfold col
  rcases Nat.lt_or_ge p rows.length with h | h
  · simp [List.getD_eq_getElem?_getD, List.getElem?_eq_getElem h]
  · simp [List.getD_eq_getElem?_getD, List.getElem?_eq_none h]
theorem sm_nil (k : Nat) : sm [] k = 0 := by
  induction k with
  | zero => rfl
  | succ k ih => rw [sm, ih]; simp
theorem totp_get (rows : List (List Int)) (k p : Nat) : (totp rows k).getD p 0 = sm (rows.getD p []) k := by
  unfold totp
  rcases Nat.lt_or_ge p rows.length with h | h
  · simp [List.getD_eq_getElem?_getD, List.getElem?_eq_getElem h]
  · simp [List.getD_eq_getElem?_getD, List.getElem?_eq_none h, sm_nil]
theorem totp_succ (rows : List (List Int)) (k p : Nat) : (totp rows (k + 1)).getD p 0 = (totp rows k).getD p 0 + (col rows k).getD p 0 := by
  rw [totp_get, totp_get, col_get, sm]

/-- The sum of the columns' variances, of the first k. -/
def partR (rows : List (List Int)) : Nat → Rat
  | 0 => 0
  | k + 1 => partR rows k + covR (col rows k) (col rows k)
def allR (rows : List (List Int)) (k : Nat) : Rat := covR (totp rows k) (totp rows k)

structure InOrder (rows : List (List Int)) (k : Nat) : Prop where
  few : rows.length ≤ 200
  some : 0 < rows.length
  len : ∀ p, p < rows.length → (rows.getD p []).length = k
  two : 2 ≤ k
  sixty : k ≤ 60
  ok : ∀ p, p < rows.length → okScores (rows.getD p []) = true
theorem any_false {α : Type} {l : List α} {p : α → Bool} (h : l.any p = false) (d : α) (i : Nat) (hi : i < l.length) : p (l.getD i d) = false := by
  have := List.any_eq_false.1 h (l.getD i d) (by rw [List.getD_eq_getElem?_getD, List.getElem?_eq_getElem hi]; exact List.getElem_mem hi)
  simpa using this
theorem table_zero {rows : List (List Int)} (h : tableE rows = 0) : InOrder rows (rows.getD 0 []).length := by
  unfold tableE at h
  by_cases h1 : 200 < rows.length
  · rw [if_pos h1] at h; omega
  rw [if_neg h1] at h
  cases h2 : rows.any long
  · rw [h2] at h
    rw [if_neg (by simp)] at h
    cases h3 : rows.any wild
    · rw [h3] at h
      rw [if_neg (by simp)] at h
      cases h4 : rows.any (odd (rows.getD 0 []).length)
      · rw [h4] at h
        rw [if_neg (by simp)] at h
        by_cases h5 : rows.length = 0
        · rw [if_pos h5] at h; omega
        · have hp : 0 < rows.length := by omega
          have e0 := any_false h4 [] 0 hp
          have e1 := any_false h2 [] 0 hp
          simp [odd] at e0
          simp [long] at e1
          refine ⟨by omega, hp, fun p hp => ?_, by simpa using e0, by simpa using e1, fun p hp => ?_⟩
          · have := any_false h4 [] p hp
            simp [odd] at this
            simpa using this.2
          · have := any_false h3 [] p hp
            simpa [wild] using this
      · rw [h4] at h; simp at h
    · rw [h3] at h; simp at h
  · rw [h2] at h; simp at h
theorem InOrder.score {rows : List (List Int)} {k : Nat} (h : InOrder rows k) (p i : Nat) : -1000000 ≤ (rows.getD p []).getD i 0 ∧ (rows.getD p []).getD i 0 ≤ 1000000 := by
  rcases Nat.lt_or_ge p rows.length with hp | hp
  · rcases Nat.lt_or_ge i (rows.getD p []).length with hi | hi
    · exact okScores_at (h.ok p hp) i hi
    · rw [List.getD_eq_getElem?_getD (l := rows.getD p []), List.getElem?_eq_none hi]; simp
  · rw [List.getD_eq_getElem?_getD (l := rows), List.getElem?_eq_none hp]; simp
theorem sm_small {x : List Int} (h : ∀ i, -1000000 ≤ x.getD i 0 ∧ x.getD i 0 ≤ 1000000) (k : Nat) : -(1000000 * (k : Int)) ≤ sm x k ∧ sm x k ≤ 1000000 * (k : Int) := by
  induction k with
  | zero => simp [sm]
  | succ k ih => rw [sm]; have := h k; omega
theorem InOrder.colmod {rows : List (List Int)} {k : Nat} (h : InOrder rows k) (i : Nat) : Mod (col rows i) := fun p => by
  rw [col_get]; have := h.score p i; omega
theorem InOrder.totmod {rows : List (List Int)} {k : Nat} (h : InOrder rows k) (j : Nat) (hj : j ≤ 60) : Mod (totp rows j) := fun p => by
  rw [totp_get]; have := sm_small (fun i => h.score p i) j; omega
theorem rz_part {rows : List (List Int)} {k : Nat} (h : InOrder rows k) (j : Nat) : rz (partR rows j) ≤ 8 * j + 1 := by
  induction j with
  | zero =>
    have := rz_small 0 1 (by decide) (by decide)
    have e : ((0 : Int) : Rat) / ((1 : Int) : Rat) = 0 := by simp [Rat.div_def]
    rw [partR]
    have h1 := rz_int 0 1
    rw [e] at h1
    have h2 : sz (0 : Int) = 0 := (dig_nil_iff 0).2 rfl
    have h3 : sz (1 : Int) ≤ 1 := dig_one_len
    omega
  | succ j ih =>
    rw [partR]
    have h1 := rz_add (partR rows j) (covR (col rows j) (col rows j))
    have h2 := rz_covR _ _ (h.colmod j) (h.colmod j) (by rw [col_length]; exact h.few)
    omega
end Go.Proofs.Ytdbpjnjgjmfomaa
