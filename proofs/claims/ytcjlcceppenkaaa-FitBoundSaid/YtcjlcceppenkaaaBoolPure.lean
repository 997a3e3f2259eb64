/- Counts over lists of answers: Guttman errors and runs, in plain Lean. -/
import Derived.Test.YtcjlcceppenkaaaBase
namespace Go.Proofs.Ytcjlcceppenkaaa
open Go.RowKit

def cnt : List Bool → Nat
  | [] => 0
  | b :: t => (if b = true then 1 else 0) + cnt t
def gutR : List Bool → Nat
  | [] => 0
  | b :: t => (if b = true then 0 else cnt t) + gutR t
def gw (x : List Bool) : Nat → Nat
  | 0 => 0
  | i + 1 => if x.getD i false = true then gw x i else gw x i + 1
def gn (x : List Bool) : Nat → Nat
  | 0 => 0
  | i + 1 => if x.getD i false = true then gn x i + gw x i else gn x i
def ru (x : List Bool) : Nat → Nat
  | 0 => 0
  | i + 1 => if 0 < i ∧ (x.getD i false != x.getD (i - 1) false) = true then 1 else ru x i + 1
def lo (x : List Bool) : Nat → Nat
  | 0 => 0
  | i + 1 => max (lo x i) (ru x (i + 1))

theorem drop_at (x : List Bool) (i : Nat) (h : i < x.length) : x.drop i = x.getD i false :: x.drop (i + 1) := by
  rw [List.drop_eq_getElem_cons h]
  simp [List.getElem?_eq_getElem h]
theorem cnt_drop (x : List Bool) (i : Nat) (h : i < x.length) : cnt (x.drop i) = (if x.getD i false = true then 1 else 0) + cnt (x.drop (i + 1)) := by
  rw [drop_at x i h, cnt]
theorem gutR_drop (x : List Bool) (i : Nat) (h : i < x.length) : gutR (x.drop i) = (if x.getD i false = true then 0 else cnt (x.drop (i + 1))) + gutR (x.drop (i + 1)) := by
  rw [drop_at x i h, gutR]
theorem cnt_end (x : List Bool) : cnt (x.drop x.length) = 0 := by simp [cnt]
theorem gutR_end (x : List Bool) : gutR (x.drop x.length) = 0 := by simp [gutR]
theorem cnt_le (x : List Bool) : cnt x ≤ x.length := by
  induction x with
  | nil => simp [cnt]
  | cons b t ih => simp only [cnt, List.length_cons]; split <;> omega
theorem gut_inv (x : List Bool) (i : Nat) (h : i ≤ x.length) : gn x i + gw x i * cnt (x.drop i) + gutR (x.drop i) = gutR x := by
  induction i with
  | zero => simp [gn, gw]
  | succ i ih =>
    have := ih (by omega)
    rw [cnt_drop x i (by omega), gutR_drop x i (by omega)] at this
    rw [gn, gw]
    cases hb : x.getD i false
    · rw [hb] at this
      simp only [Bool.false_eq_true, if_false, Nat.zero_add] at this ⊢
      rw [← this, Nat.add_mul]; omega
    · rw [hb] at this
      simp only [if_true] at this ⊢
      rw [← this, Nat.mul_add]; omega
theorem gut_eq (x : List Bool) : gn x x.length = gutR x := by
  have := gut_inv x x.length (Nat.le_refl _)
  rw [cnt_end, gutR_end] at this
  omega
theorem gw_le (x : List Bool) (i : Nat) : gw x i ≤ i := by
  induction i with
  | zero => simp [gw]
  | succ i ih => rw [gw]; split <;> omega
theorem gn_le (x : List Bool) (i : Nat) : gn x i ≤ (i - gw x i) * gw x i := by
  induction i with
  | zero => simp [gn]
  | succ i ih =>
    have := gw_le x i
    rw [gn, gw]
    split
    · rw [show i + 1 - gw x i = (i - gw x i) + 1 by omega, Nat.add_mul]; omega
    · refine Nat.le_trans ih ?_
      rw [show i + 1 - (gw x i + 1) = i - gw x i by omega]
      exact Nat.mul_le_mul (Nat.le_refl _) (by omega)
theorem gn_small (x : List Bool) (i : Nat) (h : i ≤ 20) : gn x i ≤ 400 := by
  have := gn_le x i
  have h2 := gw_le x i
  have : (i - gw x i) * gw x i ≤ 20 * 20 := Nat.mul_le_mul (by omega) (by omega)
  omega
theorem gutR_small (x : List Bool) (h : x.length ≤ 20) : gutR x ≤ 400 := by rw [← gut_eq]; exact gn_small x _ h
theorem gn_pos (x : List Bool) (i : Nat) : decide (0 < gn x (i + 1)) = if x.getD i false = true then (decide (0 < gn x i) || decide (0 < gw x i)) else decide (0 < gn x i) := by
  rw [gn]
  split
  · rw [← Bool.decide_or]; congr 1; simp only [eq_iff_iff]; omega
  · rfl
theorem four_le (r w : Nat) : 4 * (r * w) ≤ (r + w) * (r + w) := by
  rcases Nat.le_total r w with h | h
  · obtain ⟨d, rfl⟩ := Nat.exists_eq_add_of_le h
    have : (r + (r + d)) * (r + (r + d)) = 4 * (r * (r + d)) + d * d := by grind
    omega
  · obtain ⟨d, rfl⟩ := Nat.exists_eq_add_of_le h
    have : (w + d + w) * (w + d + w) = 4 * ((w + d) * w) + d * d := by grind
    omega
theorem gn_bound (x : List Bool) (i : Nat) : gn x i ≤ i * i / 4 := by
  have h1 := gn_le x i
  have h2 := gw_le x i
  have h3 := four_le (i - gw x i) (gw x i)
  rw [show i - gw x i + gw x i = i by omega] at h3
  omega
theorem ru_le (x : List Bool) (i : Nat) : ru x i ≤ i := by
  induction i with
  | zero => simp [ru]
  | succ i ih => rw [ru]; split <;> omega
theorem lo_le (x : List Bool) (i : Nat) : lo x i ≤ i := by
  induction i with
  | zero => simp [lo]
  | succ i ih => rw [lo]; have := ru_le x (i + 1); omega

/-- A slice of answers: the cells that it reads as. -/
def Bs (w : World) (A : Option Addr) (x : List Bool) : Prop := x ≠ [] → ∃ ad, A = some ad ∧ ∀ i, i < x.length → w.cell? (ad.add i) = some (.bool (x.getD i false))
theorem Bs.below {w w1 : World} {A : Option Addr} {x : List Bool} (h : Bs w A x) (hb : Below w.heap.size w w1) : Bs w1 A x := fun hn => by
  obtain ⟨ad, e, hc⟩ := h hn
  refine ⟨ad, e, fun i hi => ?_⟩
  have := hc i hi
  exact (hb.cell (World.block_lt_of_cell? w _ this)).trans this
theorem Bs.drewN {w : World} {A : Option Addr} {x : List Bool} (h : Bs w A x) (n : Nat) : Bs (w.drewN n) A x := h.below ((Below.refl _ _).drewsN n)
theorem Bs.at {w : World} {A : Option Addr} {x : List Bool} (h : Bs w A x) (i : Nat) (hi : i < x.length) : ∃ ad, A = some ad ∧ ∀ i, i < x.length → w.cell? (ad.add i) = some (.bool (x.getD i false)) :=
  h (fun e => by simp [e] at hi)
end Go.Proofs.Ytcjlcceppenkaaa
