/- The program's integers, second part: what is held through a region that draws its order; Mul. -/
import Derived.Test.YtdbpjnjgjmfomaaInt1
namespace Go.Proofs.Ytdbpjnjgjmfomaa
open Go.RowKit

theorem dig_len_mul (a b : Nat) : (dig (a * b)).length ≤ (dig a).length + (dig b).length := by
  apply dig_length_le
  have h1 := dig_lt a
  have h2 := dig_lt b
  rw [Nat.pow_add]
  exact Nat.mul_lt_mul'' h1 h2
/-- What lay in an elder world lies in a younger one. -/
theorem keep_cell {W W' : World} {a : Addr} {v : Value} (h : W.cell? a = some v) (hb : Below W.heap.size W W') : W'.cell? a = some v := (hb.cell (World.block_lt_of_cell? W a h)).trans h
theorem keep_end {w W W' : World} (h : Below w.heap.size w W) (hb : Below W.heap.size W W') : Below w.heap.size w W' := h.after h.size hb
theorem keep_and {W W' : World} {a : Addr} {v : Value} {p q : Prop} (hpq : p → Below W.heap.size W W' → q) (h : W.cell? a = some v ∧ p) (hb : Below W.heap.size W W') : W'.cell? a = some v ∧ q := ⟨keep_cell h.1 hb, hpq h.2 hb⟩
theorem below_drew (W : World) : Below W.heap.size W W.drew := (Below.refl _ _).drew
theorem set_cell {W : World} {a p : Addr} {v u : Value} (h : W.cell? a = some v) (hp : a.block ≠ p.block) : (W.setCell p u).cell? a = some v :=
  (World.cell?_of_block (Below.heap_setCell W p u _ hp)).trans h
theorem set_and {W : World} {a p : Addr} {v u : Value} {r q : Prop} (hpq : r → q) (h : W.cell? a = some v ∧ r) (hp : a.block ≠ p.block) : (W.setCell p u).cell? a = some v ∧ q := ⟨set_cell h.1 hp, hpq h.2⟩
theorem set_end {w W : World} {p : Addr} {u : Value} (h : Below w.heap.size w W) (hp : w.heap.size ≤ p.block) : Below w.heap.size w (W.setCell p u) := h.setCell hp u

theorem NumV.slice {S : Nat → Prop} {w : World} {v : Value} {l : List Int} (h : NumV S w v l) : ∃ A c, v = .slice A l.length c := by
  obtain ⟨_, A, c, e, _⟩ := h
  exact ⟨A, c, e⟩
/-- A result's cells: k of them in block b, writable. -/
def Res (w : World) (b k : Nat) : Prop := b < w.heap.size ∧ ∀ i, i < k → (∃ v, w.cell? ⟨b, i, none⟩ = some v) ∧ w.frozen? ⟨b, i, none⟩ = false
theorem Res.below {W W' : World} {b k : Nat} (h : Res W b k) (hb : Below W.heap.size W W') : Res W' b k :=
  ⟨Nat.lt_of_lt_of_le h.1 hb.size, fun i hi => by
    obtain ⟨⟨v, hv⟩, hf⟩ := h.2 i hi
    exact ⟨⟨v, (hb.cell (p := ⟨b, i, none⟩) h.1).trans hv⟩, (hb.frozen (p := ⟨b, i, none⟩) h.1).trans hf⟩⟩
theorem Res.set {W : World} {b k : Nat} (h : Res W b k) (p : Addr) (u : Value) : Res (W.setCell p u) b k :=
  ⟨by have := h.1; simpa [World.setCell] using this, fun i hi => by
    obtain ⟨⟨v, hv⟩, hf⟩ := h.2 i hi
    exact ⟨cell?_setCell_some hv, (World.frozen?_setCell _ _ _ _).trans hf⟩⟩
theorem keep_last {w W W' : World} {b k : Nat} (h : Below w.heap.size w W ∧ Res W b k) (hb : Below W.heap.size W W') : Below w.heap.size w W' ∧ Res W' b k := ⟨h.1.after h.1.size hb, h.2.below hb⟩
theorem set_last {w W : World} {b k : Nat} {p : Addr} {u : Value} (hp : w.heap.size ≤ p.block) (h : Below w.heap.size w W ∧ Res W b k) : Below w.heap.size w (W.setCell p u) ∧ Res (W.setCell p u) b k := ⟨h.1.setCell hp u, h.2.set p u⟩
/-- One limb of what is held, behind a store. -/
theorem set_held {W : World} {a p : Addr} {v u : Value} {r q : Prop} (hp : a.block ≠ p.block) (hpq : r → q) (h : W.cell? a = some v ∧ r) : (W.setCell p u).cell? a = some v ∧ q := ⟨set_cell h.1 hp, hpq h.2⟩

theorem IntV.stored {w w1 w2 : World} {b : Nat} {z : Int} {u x y : Value} (hb : w.heap.size ≤ b) (hR : Res w1 b 2) (h : NumV (New w1) w2 u (dig z.natAbs)) (_hb2 : Below w1.heap.size w1 w2) :
    IntV (New w) ((w2.setCell ⟨b, 0, none⟩ x).setCell ⟨b, 1, none⟩ y) (.agg #[.bool (decide (z < 0)), u]) z := by
  have := hR.1
  refine ⟨u, rfl, ((h.set (by intro k hk _; simp at hk; simp; omega) _).set (by intro k hk _; simp at hk; simp; omega) _).mono ?_⟩
  intro k hk _; simp at hk; show w.heap.size ≤ k; omega
theorem iv_mul (na nb : Bool) (a b : List Int) : iv na a * iv nb b = iv (!na == nb) (dig (nv a * nv b)) := by
  unfold iv
  rw [nv_dig]
  cases na <;> cases nb <;> simp [Int.mul_neg, Int.neg_mul]

set_option maxHeartbeats 1000000 in
theorem int_Mul {S T : Nat → Prop} {na nb : Bool} {u v : Value} {a b : List Int} (w : World) (hu : NumV S w u a) (hv : NumV T w v b) (hm : a.length + b.length ≤ 35184372088830) :
    Calls Try.prog 56 #[.agg #[.bool na, u], .agg #[.bool nb, v]] w fun e w' => ∃ r, e = .returned r ∧ IntV (New w) w' r (iv na a * iv nb b) ∧ Below w.heap.size w w' := by
  have hL : (dig (nv a * nv b)).length ≤ 35184372088830 := by
    have := dig_len_mul (nv a) (nv b); have := dig_len_le hu.1; have := dig_len_le hv.1; omega
  go_enter Try.func56, Try.ntmps56
  go_wp2_with fail
  obtain ⟨W, hW⟩ : ∃ W, (((w.alloc (Obj.cells #[Value.bool na, u] 38)).alloc (Obj.cells #[Value.bool nb, v] 38)).alloc (Obj.cells #[Value.bool false, Value.slice none 0 0] 38)) = W := ⟨_, rfl⟩
  have hs : W.heap.size = w.heap.size + 3 := by rw [← hW]; simp
  have hB : Below w.heap.size w W := by rw [← hW]; exact (((Below.refl _ _).alloc (Nat.le_refl _) _).alloc (by simp) _).alloc (by simp; omega) _
  have c0 : W.cell? ⟨w.heap.size, 0, none⟩ = some (.bool na) := by subst hW; simp [go_sem]
  have c1 : W.cell? ⟨w.heap.size, 1, none⟩ = some u := by subst hW; simp [go_sem]
  have c2 : W.cell? ⟨w.heap.size + 1, 0, none⟩ = some (.bool nb) := by subst hW; simp [go_sem]
  have c3 : W.cell? ⟨w.heap.size + 1, 1, none⟩ = some v := by subst hW; simp [go_sem]
  have c4 : W.cell? ⟨w.heap.size + 2, 0, none⟩ = some (.bool false) := by subst hW; simp [go_sem]
  have c5 : W.cell? ⟨w.heap.size + 2, 1, none⟩ = some (.slice none 0 0) := by subst hW; simp [go_sem]
  have f4 : W.frozen? ⟨w.heap.size + 2, 0, none⟩ = false := by subst hW; simp [go_sem]
  have f5 : W.frozen? ⟨w.heap.size + 2, 1, none⟩ = false := by subst hW; simp [go_sem]
  have hR : Res W (w.heap.size + 2) 2 := ⟨by omega, fun i hi => by
    rcases (by omega : i = 0 ∨ i = 1) with rfl | rfl
    · exact ⟨⟨_, c4⟩, f4⟩
    · exact ⟨⟨_, c5⟩, f5⟩⟩
  rw [hW]
  clear hW
  clear c4 c5 f4 f5
  go_region_held3 (fun w' => w'.cell? ⟨w.heap.size, 0, none⟩ = some (.bool na) ∧ w'.cell? ⟨w.heap.size, 1, none⟩ = some u ∧ w'.cell? ⟨w.heap.size + 1, 0, none⟩ = some (.bool nb) ∧ w'.cell? ⟨w.heap.size + 1, 1, none⟩ = some v ∧ Below w.heap.size w w' ∧ Res w' (w.heap.size + 2) 2)
    ((first
      | exact (keep_and (keep_and (keep_and (keep_and keep_last)))) ⟨c0, c1, c2, c3, hB, hR⟩ (below_drew _)
      | exact (keep_and (keep_and (keep_and (keep_and keep_last)))) (by assumption) (below_drew _)
      | exact (keep_and (keep_and (keep_and (keep_and keep_last)))) (by assumption) (by assumption)
      | exact (set_held (by simp <;> omega) (set_held (by simp <;> omega) (set_held (by simp <;> omega) (set_held (by simp <;> omega) (set_last (by simp <;> omega)))))) ((set_held (by simp <;> omega) (set_held (by simp <;> omega) (set_held (by simp <;> omega) (set_held (by simp <;> omega) (set_last (by simp <;> omega)))))) (by assumption))))
    (first
      | (go_at_call 57; obtain ⟨_, _, _, _, hB1, _⟩ := ‹_ ∧ _ ∧ _ ∧ _ ∧ Below _ _ _ ∧ _›; refine (nat_Mul _ (hu.below hB1) (hv.below hB1) (by omega)).mono ?_; rintro e w1 ⟨r, rfl, hr, hb⟩)
      | (go_at_call 90; obtain ⟨_, _, _, _, hB1, hR1⟩ := ‹_ ∧ _ ∧ _ ∧ _ ∧ Below _ _ _ ∧ _›; refine (int_Make _ hr hL).mono ?_; rintro e w2 ⟨r2, rfl, ⟨u2, rfl, hr2⟩, hb2⟩; obtain ⟨A2, C2, rfl⟩ := hr2.slice; obtain ⟨⟨⟨x4, h4⟩, f4⟩, ⟨x5, h5⟩, f5⟩ := And.intro ((hR1.below hb2).2 0 (by omega)) ((hR1.below hb2).2 1 (by omega))))
  go_wp2_with fail
  refine bodyPost_ret (v := .agg #[.bool (decide (iv (!na == nb) (dig (nv a * nv b)) < 0)), .slice A2 (dig (iv (!na == nb) (dig (nv a * nv b))).natAbs).length C2]) (by simp [results, Try.results56, go_sem, h4, h5]) rfl ?_
  rw [iv_mul]
  exact ⟨_, rfl, IntV.stored (by omega) hR1 hr2 hb2, hB1.after (by have := hR1.1; omega) hb2 |>.setCell (by simp; omega) _ |>.setCell (by simp; omega) _⟩
end Go.Proofs.Ytdbpjnjgjmfomaa
