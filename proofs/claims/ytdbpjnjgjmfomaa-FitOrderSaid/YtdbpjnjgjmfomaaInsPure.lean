/- Insertion by neighbours: what it leaves in a list of indexes that are to be ordered by a key, the greatest first, equal ones as they came. -/
import Derived.Test.YtdbpjnjgjmfomaaRatSz
namespace Go.Proofs.Ytdbpjnjgjmfomaa
open Go.RowKit

/-- x comes ahead of y: the greater key first; at equal keys the smaller index. -/
def Rl (q : Int → Rat) (x y : Int) : Prop := q y < q x ∨ (q x = q y ∧ x < y)
theorem Rl.ne {q : Int → Rat} {x y : Int} (h : Rl q x y) : x ≠ y := fun e => by
  subst e
  rcases h with h | ⟨_, h⟩
  · exact absurd h (Rat.lt_irrefl)
  · omega
theorem Rl.le {q : Int → Rat} {x y : Int} (h : Rl q x y) : q y ≤ q x := by
  rcases h with h | ⟨h, _⟩
  · exact Rat.le_of_lt h
  · rw [h]; exact Rat.le_refl
/-- The first i places are ordered and hold what came first; the others are as they were. -/
structure InsP (q : Int → Rat) (n : Nat) (l : List Int) (i : Nat) : Prop where
  len : l.length = n
  rest : ∀ t : Nat, i ≤ t → t < n → l.getD t 0 = (t : Int)
  lo : ∀ t, t < i → t < n → 0 ≤ l.getD t 0 ∧ l.getD t 0 < (i : Int)
  ord : ∀ s t, s < t → t < i → t < n → Rl q (l.getD s 0) (l.getD t 0)
/-- Within a round: the new one stands at j. -/
structure InsJ (q : Int → Rat) (n : Nat) (l : List Int) (i j : Nat) : Prop where
  len : l.length = n
  ji : j ≤ i
  inn : i < n
  at_ : l.getD j 0 = (i : Int)
  rest : ∀ t : Nat, i < t → t < n → l.getD t 0 = (t : Int)
  lo : ∀ t, t ≤ i → t ≠ j → 0 ≤ l.getD t 0 ∧ l.getD t 0 < (i : Int)
  ord : ∀ s t, s < t → t ≤ i → s ≠ j → t ≠ j → Rl q (l.getD s 0) (l.getD t 0)
  up : ∀ t, j < t → t ≤ i → q (l.getD t 0) < q (i : Int)
theorem InsP.first {q : Int → Rat} {n : Nat} {l : List Int} (hl : l.length = n) (h : ∀ t : Nat, t < n → l.getD t 0 = (t : Int)) : InsP q n l 1 :=
  ⟨hl, fun t _ h2 => h t h2, fun t h1 h2 => by rw [h t h2]; omega, fun s t h1 h2 _ => by omega⟩
theorem InsP.start {q : Int → Rat} {n : Nat} {l : List Int} {i : Nat} (h : InsP q n l i) (hi : i < n) : InsJ q n l i i :=
  ⟨h.len, Nat.le_refl _, hi, h.rest i (Nat.le_refl _) hi, fun t h1 h2 => h.rest t (by omega) h2, fun t h1 h2 => h.lo t (by omega) (by omega), fun s t h1 h2 h3 h4 => h.ord s t h1 (by omega) (by omega), fun t h1 h2 => by omega⟩
theorem InsJ.stop {q : Int → Rat} {n : Nat} {l : List Int} {i j : Nat} (h : InsJ q n l i j) (hs : j = 0 ∨ ¬ q (l.getD (j - 1) 0) < q (i : Int)) : InsP q n l (i + 1) := by
  refine ⟨h.len, fun t h1 h2 => h.rest t (by omega) h2, fun t h1 h2 => ?_, fun s t h1 h2 h3 => ?_⟩
  · by_cases e : t = j
    · subst e; rw [h.at_]; omega
    · have := h.lo t (by omega) e; omega
  · by_cases e : t = j
    · subst e
      rw [h.at_]
      rcases hs with hs | hs
      · omega
      · have h5 : q (i : Int) ≤ q (l.getD (t - 1) 0) := Rat.not_lt.1 hs
        have h6 := h.lo s (by omega) (by omega)
        have h7 : q (i : Int) ≤ q (l.getD s 0) := by
          rcases Nat.lt_or_ge s (t - 1) with h8 | h8
          · exact Rat.le_trans h5 (h.ord s (t - 1) h8 (by omega) (by omega) (by omega)).le
          · rw [show s = t - 1 by omega]; exact h5
        rcases Rat.le_iff_lt_or_eq.1 h7 with h8 | h8
        · exact .inl h8
        · exact .inr ⟨h8.symm, h6.2⟩
    · by_cases e2 : s = j
      · subst e2
        rw [h.at_]
        exact .inl (h.up t h1 (by omega))
      · exact h.ord s t h1 (by omega) e2 e
theorem getD_set2 (l : List Int) (j : Nat) (x y : Int) (h1 : 0 < j) (h2 : j < l.length) (t : Nat) : ((l.set j x).set (j - 1) y).getD t 0 = if t = j - 1 then y else if t = j then x else l.getD t 0 := by
  simp only [List.getD_eq_getElem?_getD, List.getElem?_set]
  by_cases a : t = j - 1
  · subst a
    rw [if_pos rfl, if_pos rfl, if_pos (by simp; omega)]; rfl
  · rw [if_neg (by omega), if_neg a]
    by_cases b : t = j
    · subst b
      rw [if_pos rfl, if_pos rfl, if_pos h2]; rfl
    · rw [if_neg (by omega), if_neg b]
theorem InsJ.step {q : Int → Rat} {n : Nat} {l : List Int} {i j : Nat} (h : InsJ q n l i j) (hj : 0 < j) (hs : q (l.getD (j - 1) 0) < q (i : Int)) : InsJ q n ((l.set j (l.getD (j - 1) 0)).set (j - 1) (l.getD j 0)) i (j - 1) := by
  have hji := h.ji
  have hin := h.inn
  have hlen := h.len
  have hg := getD_set2 l j (l.getD (j - 1) 0) (l.getD j 0) hj (by omega)
  refine ⟨by simpa using hlen, by omega, hin, by rw [hg, if_pos rfl, h.at_], fun t h1 h2 => ?_, fun t h1 h2 => ?_, fun s t h1 h2 h3 h4 => ?_, fun t h1 h2 => ?_⟩
  · rw [hg, if_neg (by omega), if_neg (by omega)]; exact h.rest t h1 h2
  · rw [hg, if_neg h2]
    split
    · exact h.lo (j - 1) (by omega) (by omega)
    · next e => exact h.lo t h1 e
  · rw [hg, hg, if_neg h3, if_neg h4]
    by_cases a : s = j
    · subst a
      rw [if_pos rfl, if_neg (by omega)]
      exact h.ord (s - 1) t (by omega) h2 (by omega) (by omega)
    · rw [if_neg a]
      by_cases b : t = j
      · subst b
        rw [if_pos rfl]
        exact h.ord s (t - 1) (by omega) (by omega) a (by omega)
      · rw [if_neg b]
        exact h.ord s t h1 h2 a b
  · rw [hg, if_neg (by omega)]
    by_cases b : t = j
    · rw [if_pos b]; exact hs
    · rw [if_neg b]; exact h.up t (by omega) h2
end Go.Proofs.Ytdbpjnjgjmfomaa
