/- The covariances of all columns add up to the variance of the totals. -/
import Derived.Test.YtdbpjnjgjmfomaaAlphaPure
namespace Go.Proofs.Ytdbpjnjgjmfomaa
open Go.RowKit

theorem sm_sum {x y z : List Int} (h : ∀ p, x.getD p 0 = y.getD p 0 + z.getD p 0) (m : Nat) : sm x m = sm y m + sm z m := by
  induction m with
  | zero => rfl
  | succ m ih => rw [sm, sm, sm, ih, h]; omega
theorem dt_suml {x y z : List Int} (u : List Int) (h : ∀ p, x.getD p 0 = y.getD p 0 + z.getD p 0) (m : Nat) : dt x u m = dt y u m + dt z u m := by
  induction m with
  | zero => rfl
  | succ m ih => rw [dt, dt, dt, ih, h, Int.add_mul]; omega
theorem dt_comm (x y : List Int) (m : Nat) : dt x y m = dt y x m := by
  induction m with
  | zero => rfl
  | succ m ih => rw [dt, dt, ih, Int.mul_comm]
theorem cov_suml {x y z : List Int} (u : List Int) (h : ∀ p, x.getD p 0 = y.getD p 0 + z.getD p 0) (hy : y.length = x.length) (hz : z.length = x.length) : covR x u = covR y u + covR z u := by
  unfold covR
  rw [hy, hz, dt_suml u h, sm_sum h, Rat.intCast_add, Rat.intCast_add]
  grind
theorem cov_comm {x y : List Int} (h : y.length = x.length) : covR x y = covR y x := by
  unfold covR
  rw [h, dt_comm]
  grind
/-- The sum of the first m covariances with column i; of the first m of these sums. -/
def crossR (rows : List (List Int)) (i : Nat) : Nat → Rat
  | 0 => 0
  | j + 1 => crossR rows i j + covR (col rows i) (col rows j)
theorem sm_zero {x : List Int} (h : ∀ p, x.getD p 0 = 0) (m : Nat) : sm x m = 0 := by
  induction m with
  | zero => rfl
  | succ m ih => rw [sm, ih, h]; rfl
theorem dt_zerol {x : List Int} (u : List Int) (h : ∀ p, x.getD p 0 = 0) (m : Nat) : dt x u m = 0 := by
  induction m with
  | zero => rfl
  | succ m ih => rw [dt, ih, h]; simp
theorem cov_zerol {x : List Int} (u : List Int) (h : ∀ p, x.getD p 0 = 0) : covR x u = 0 := by
  unfold covR
  rw [sm_zero h, dt_zerol u h]
  grind
theorem totp_zero (rows : List (List Int)) (p : Nat) : (totp rows 0).getD p 0 = 0 := by rw [totp_get]; rfl
theorem cross_eq (rows : List (List Int)) (i j : Nat) : crossR rows i j = covR (totp rows j) (col rows i) := by
  induction j with
  | zero => rw [crossR, cov_zerol _ (totp_zero rows)]
  | succ j ih =>
    rw [crossR, ih, cov_suml (x := totp rows (j + 1)) (col rows i) (fun p => totp_succ rows j p) (by simp [totp_length]) (by simp [totp_length, col_length])]
    rw [cov_comm (x := col rows i) (y := col rows j) (by simp [col_length])]
def sumR (rows : List (List Int)) (k : Nat) : Nat → Rat
  | 0 => 0
  | i + 1 => sumR rows k i + crossR rows i k
theorem sum_eq (rows : List (List Int)) (k m : Nat) : sumR rows k m = covR (totp rows m) (totp rows k) := by
  induction m with
  | zero => rw [sumR, cov_zerol _ (totp_zero rows)]
  | succ m ih =>
    rw [sumR, ih, cross_eq, cov_suml (x := totp rows (m + 1)) (totp rows k) (fun p => totp_succ rows m p) (by simp [totp_length]) (by simp [totp_length, col_length])]
    rw [cov_comm (x := totp rows k) (y := col rows m) (by simp [totp_length, col_length])]
theorem all_eq (rows : List (List Int)) (k : Nat) : sumR rows k k = allR rows k := sum_eq rows k k
end Go.Proofs.Ytdbpjnjgjmfomaa
