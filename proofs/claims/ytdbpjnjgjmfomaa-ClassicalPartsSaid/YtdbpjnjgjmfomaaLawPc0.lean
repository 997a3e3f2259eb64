/- ClassicalParts says yes at every table of rows. -/
import Derived.Test.YtdbpjnjgjmfomaaError1
import Derived.Test.YtdbpjnjgjmfomaaLawPa
import Derived.Test.YtdbpjnjgjmfomaaLawPb
import Derived.Test.YtdbpjnjgjmfomaaAppI
namespace Go.Proofs.Ytdbpjnjgjmfomaa
open Go.RowKit

theorem errR_zero {rows : List (List Int)} (h : errR rows = 0) : tableE rows = 0 ∧ allR rows (kR rows) ≠ 0 := by
  unfold errR at h
  by_cases h1 : tableE rows = 0
  · rw [if_pos h1] at h
    refine ⟨h1, fun h2 => ?_⟩
    rw [if_pos h2] at h
    omega
  · rw [if_neg h1] at h
    exact absurd h h1
theorem okScores_of {l : List Int} (h : ∀ i, -1000000 ≤ l.getD i 0 ∧ l.getD i 0 ≤ 1000000) : okScores l = true := by
  unfold okScores
  rw [List.all_eq_true]
  intro x hx
  obtain ⟨i, hi, rfl⟩ := List.mem_iff_getElem.1 hx
  have := h i
  rw [List.getD_eq_getElem?_getD, List.getElem?_eq_getElem hi] at this
  simpa using this
theorem InOrder.okcol {rows : List (List Int)} {k : Nat} (h : InOrder rows k) (i : Nat) : okScores (col rows i) = true := okScores_of fun p => by
  rw [col_get]; exact h.score p i

/-- A box b (writable) holds a ratio that reads as q in at most m limbs a part, whose parts lie in S. -/
def BoxQ (S : Nat → Prop) (w : World) (b : Nat) (q : Rat) (m : Nat) : Prop :=
  ∃ N A n c B k d, BoxR w b (.bool N) (.slice A n c) (.slice B k d) ∧ RatI S w (.agg #[.bool N, .slice A n c, .slice B k d]) q m ∧ rz q ≤ m
theorem BoxQ.below {S : Nat → Prop} {w w1 : World} {b : Nat} {q : Rat} {m : Nat} (h : BoxQ S w b q m) (hb : Below w.heap.size w w1) : BoxQ S w1 b q m := by
  obtain ⟨N, A, n, c, B, k, d, h1, h2, h3⟩ := h
  exact ⟨N, A, n, c, B, k, d, h1.below hb, h2.below hb, h3⟩
theorem BoxQ.set3 {S : Nat → Prop} {w : World} {b b' : Nat} {q : Rat} {m : Nat} {x y z : Value} (h : BoxQ S w b q m) (hb : b ≠ b') (hS : ¬ S b') : BoxQ S (((w.setCell ⟨b', 0, none⟩ x).setCell ⟨b', 1, none⟩ y).setCell ⟨b', 2, none⟩ z) b q m := by
  obtain ⟨N, A, n, c, B, k, d, h1, h2, h3⟩ := h
  refine ⟨N, A, n, c, B, k, d, h1.step (by simp [World.setCell]) ?_, h2.step (fun j hj _ => ?_), h3⟩
  · rw [Below.heap_setCell _ _ _ b hb, Below.heap_setCell _ _ _ b hb, Below.heap_setCell _ _ _ b hb]
  · have : j ≠ b' := fun e => hS (e ▸ hj)
    rw [Below.heap_setCell _ _ _ j this, Below.heap_setCell _ _ _ j this, Below.heap_setCell _ _ _ j this]
theorem BoxQ.le {S : Nat → Prop} {w : World} {b : Nat} {q : Rat} {m n : Nat} (h : BoxQ S w b q m) (hmn : m ≤ n) : BoxQ S w b q n := by
  obtain ⟨N, A, n', c, B, k, d, h1, h2, h3⟩ := h
  exact ⟨N, A, n', c, B, k, d, h1, h2.le hmn, by omega⟩
/-- The box behind a store of a result. -/
theorem BoxQ.put {S T : Nat → Prop} {w : World} {b : Nat} {q : Rat} {m : Nat} {N : Bool} {A B : Option Addr} {n c k d : Nat} (hR : Res w b 3) (hV : RatV T w (.agg #[.bool N, .slice A n c, .slice B k d]) q) (hT : ∀ j, T j → j < w.heap.size → S j) (hS : ¬ S b) (hm : rz q ≤ m) :
    BoxQ S (((w.setCell ⟨b, 0, none⟩ (.bool N)).setCell ⟨b, 1, none⟩ (.slice A n c)).setCell ⟨b, 2, none⟩ (.slice B k d)) b q m := by
  obtain ⟨⟨⟨x0, g0⟩, _⟩, ⟨⟨x1, g1⟩, _⟩, ⟨x2, g2⟩, _⟩ := And.intro (hR.2 0 (by omega)) (And.intro (hR.2 1 (by omega)) (hR.2 2 (by omega)))
  have hV' := ((hV.mono hT).set3 (x := .bool N) (y := .slice A n c) (z := .slice B k d) hS).i.le hm
  exact ⟨N, A, n, c, B, k, d, ⟨by simp [go_sem, g0, g1, g2], by simp [go_sem, g0, g1, g2], by simp [go_sem, g0, g1, g2], ((hR.set _ _).set _ _).set _ _⟩, hV', hm⟩
theorem ratI_nil (S : Nat → Prop) (w : World) : RatI S w (.agg #[.bool false, .slice none 0 0, .slice none 0 0]) 0 1 :=
  ⟨false, _, _, [], [], rfl, ⟨fun x hx => by simp at hx, none, 0, rfl, Nat.le_refl _, Rd.nil _ _ _⟩, ⟨fun x hx => by simp at hx, none, 0, rfl, Nat.le_refl _, Rd.nil _ _ _⟩, low_zero _ _ (.inr rfl), by simp, by simp⟩
end Go.Proofs.Ytdbpjnjgjmfomaa
