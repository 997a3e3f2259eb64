/- A list whose first p numbers are of one list, the others of another. -/
import Derived.Test.YtdbpjnjgjmfomaaAlpha1
namespace Go.Proofs.Ytdbpjnjgjmfomaa
open Go.RowKit

def mix (a b : List Int) (p : Nat) : List Int := a.take p ++ b.drop p
theorem mix_length {a b : List Int} (h : a.length = b.length) (p : Nat) : (mix a b p).length = b.length := by
  unfold mix; rw [List.length_append, List.length_take, List.length_drop]; omega
theorem mix_zero (a b : List Int) : mix a b 0 = b := by simp [mix]
theorem mix_full {a b : List Int} (h : a.length = b.length) : mix a b b.length = a := by simp [mix, ← h]
theorem mix_get {a b : List Int} (h : a.length = b.length) (p : Nat) (hp : p < b.length) : (mix a b p).getD p 0 = b.getD p 0 := by
  unfold mix
  rw [List.getD_eq_getElem?_getD, List.getElem?_append_right (by rw [List.length_take]; omega), List.length_take, List.getElem?_drop, List.getD_eq_getElem?_getD]
  rw [show p + (p - min p a.length) = p by omega]
theorem mix_set {a b : List Int} (h : a.length = b.length) (p : Nat) (hp : p < b.length) : (mix a b p).set p (a.getD p 0) = mix a b (p + 1) := by
  unfold mix
  apply List.ext_getElem?
  intro i
  rw [List.getElem?_set]
  by_cases hi : p = i
  · subst hi
    rw [if_pos rfl, if_pos (by rw [List.length_append, List.length_take, List.length_drop]; omega)]
    rw [List.getElem?_append_left (by rw [List.length_take]; omega), List.getElem?_take, if_pos (by omega)]
    rw [List.getD_eq_getElem?_getD, List.getElem?_eq_getElem (by omega)]; rfl
  · rw [if_neg hi]
    rcases Nat.lt_or_ge i p with h1 | h1
    · rw [List.getElem?_append_left (by rw [List.length_take]; omega), List.getElem?_append_left (by rw [List.length_take]; omega), List.getElem?_take, List.getElem?_take, if_pos h1, if_pos (by omega)]
    · rw [List.getElem?_append_right (by rw [List.length_take]; omega), List.getElem?_append_right (by rw [List.length_take]; omega), List.length_take, List.length_take, List.getElem?_drop, List.getElem?_drop]
      congr 1; omega
end Go.Proofs.Ytdbpjnjgjmfomaa
