/- classical.alpha where the table is not in order. -/
import Derived.Test.YtdbpjnjgjmfomaaAlphaSum
namespace Go.Proofs.Ytdbpjnjgjmfomaa
open Go.RowKit

/-- A ratio behind three stores into another block. -/
theorem RatV.set3 {S : Nat → Prop} {w : World} {v x y z : Value} {q : Rat} {b : Nat} (h : RatV S w v q) (hb : ¬ S b) : RatV S (((w.setCell ⟨b, 0, none⟩ x).setCell ⟨b, 1, none⟩ y).setCell ⟨b, 2, none⟩ z) v q := by
  obtain ⟨u, d, e, hu, hd⟩ := h
  exact ⟨u, d, e, ((hu.stored hb _).stored hb _).stored hb _, ((hd.stored hb _).stored hb _).stored hb _⟩
theorem Below.set3 {w W : World} {b : Nat} {x y z : Value} (h : Below w.heap.size w W) (hb : w.heap.size ≤ b) : Below w.heap.size w (((W.setCell ⟨b, 0, none⟩ x).setCell ⟨b, 1, none⟩ y).setCell ⟨b, 2, none⟩ z) :=
  ((h.setCell hb _).setCell hb _).setCell hb _
theorem Res.cells3 {w : World} {b : Nat} (h : Res w b 3) : (∃ x, w.cell? ⟨b, 0, none⟩ = some x) ∧ (∃ x, w.cell? ⟨b, 1, none⟩ = some x) ∧ (∃ x, w.cell? ⟨b, 2, none⟩ = some x) ∧ w.frozen? ⟨b, 0, none⟩ = false ∧ w.frozen? ⟨b, 1, none⟩ = false ∧ w.frozen? ⟨b, 2, none⟩ = false :=
  ⟨(h.2 0 (by omega)).1, (h.2 1 (by omega)).1, (h.2 2 (by omega)).1, (h.2 0 (by omega)).2, (h.2 1 (by omega)).2, (h.2 2 (by omega)).2⟩

set_option maxHeartbeats 8000000 in
set_option maxRecDepth 100000 in
theorem cls_alpha_no {S : Nat → Prop} {v : Value} {rows : List (List Int)} (w : World) (hv : RowsV S w v rows) (hm : rows.length ≤ 140737488351232) (hr : ∀ i, (rows.getD i []).length ≤ 140737488351232) (hE : tableE rows ≠ 0) :
    Calls Try.prog 48 #[v] w fun e w' => ∃ r s, e = .returned (.tuple #[r, s, .int .i64 (tableE rows)]) ∧ RatV (New w) w' r 0 ∧ RatV (New w) w' s 0 ∧ Below w.heap.size w w' := by
  obtain ⟨A, c, rfl⟩ := hv.slice
  obtain ⟨E, hEE⟩ : ∃ E, tableE rows = E := ⟨_, rfl⟩
  have HT : As (∀ W, Below w.heap.size w W → Calls Try.prog 83 #[.slice A rows.length c] W fun e w' => e = .returned (.int .i64 E) ∧ Drawn W w') := ⟨fun W hb => by
    rw [← hEE]
    exact cls_table W (hv.below hb) hm hr⟩
  rw [hEE] at hE ⊢
  have hEb : (E == 0) = false := beq_eq_false_iff_ne.2 hE
  clear hv hm hr hEE
  generalize rows.length = n at *
  go_enter Try.func48, Try.ntmps48
  go_wp2_with fail
  obtain ⟨W, hW⟩ : ∃ W, ((w.alloc (Obj.cells #[Value.bool false, Value.slice none 0 0, Value.slice none 0 0] 40)).alloc (Obj.cells #[Value.bool false, Value.slice none 0 0, Value.slice none 0 0] 40)) = W := ⟨_, rfl⟩
  have hs : W.heap.size = w.heap.size + 2 := by rw [← hW]; simp
  have hB : Below w.heap.size w W := by rw [← hW]; exact (((Below.refl _ _).alloc (by simp <;> omega) _).alloc (by simp <;> omega) _)
  have hR0 : Res W (w.heap.size) 3 := ⟨by omega, fun i hi => by
    subst hW
    rcases (by omega : i = 0 ∨ i = 1 ∨ i = 2) with rfl | rfl | rfl
    · exact ⟨⟨.bool false, by simp [go_sem]⟩, by simp [go_sem]⟩
    · exact ⟨⟨.slice none 0 0, by simp [go_sem]⟩, by simp [go_sem]⟩
    · exact ⟨⟨.slice none 0 0, by simp [go_sem]⟩, by simp [go_sem]⟩⟩
  have hR1 : Res W (w.heap.size + 1) 3 := ⟨by omega, fun i hi => by
    subst hW
    rcases (by omega : i = 0 ∨ i = 1 ∨ i = 2) with rfl | rfl | rfl
    · exact ⟨⟨.bool false, by simp [go_sem]⟩, by simp [go_sem]⟩
    · exact ⟨⟨.slice none 0 0, by simp [go_sem]⟩, by simp [go_sem]⟩
    · exact ⟨⟨.slice none 0 0, by simp [go_sem]⟩, by simp [go_sem]⟩⟩
  rw [hW]
  clear hW
  have hS : Below w.heap.size w W ∧ Res W w.heap.size 3 ∧ Res W (w.heap.size + 1) 3 := ⟨hB, hR0, hR1⟩
  clear hR0 hR1
  refine (HT.out _ hB).mono ?_
  rintro e w1 ⟨rfl, ⟨m1, rfl⟩⟩
  replace hS := (keep_B (keep_R (Res.below))) hS ((Below.refl _ _).drewsN m1)
  have hlW : w.heap.size + 2 ≤ W.heap.size := by omega
  clear hB HT
  generalize hW1 : W.drewN m1 = W1 at *
  have hlW1 : w.heap.size + 2 ≤ W1.heap.size := by rw [← hW1]; exact hlW
  clear hW1 hs hlW
  go_wp2_with fail
  refine (cls_zero _).mono ?_
  rintro e w2 ⟨r1, rfl, hr1, hb2⟩
  have hR9 := hS.2
  replace hS := (keep_B (keep_R (Res.below))) hS hb2
  have hlw2 := hb2.size
  go_wp2_with fail
  refine (cls_zero _).mono ?_
  rintro e w3 ⟨r2, rfl, hr2, hb3⟩
  replace hS := (keep_B (keep_R (Res.below))) hS hb3
  replace hr1 := hr1.below hb3
  obtain ⟨A1, c1, B1, d1, rfl⟩ := hr1.slice
  obtain ⟨A2, c2, B2, d2, rfl⟩ := hr2.slice
  obtain ⟨⟨x0, g0⟩, ⟨x1, g1⟩, ⟨x2, g2⟩, f0, f1, f2⟩ := hS.2.1.cells3
  obtain ⟨⟨y0, k0⟩, ⟨y1, k1⟩, ⟨y2, k2⟩, l0, l1, l2⟩ := hS.2.2.cells3
  have hst1 : As (∀ x y z x' y' z', RatV (New w) ((((((w3.setCell ⟨w.heap.size, 0, none⟩ x).setCell ⟨w.heap.size, 1, none⟩ y).setCell ⟨w.heap.size, 2, none⟩ z).setCell ⟨w.heap.size + 1, 0, none⟩ x').setCell ⟨w.heap.size + 1, 1, none⟩ y').setCell ⟨w.heap.size + 1, 2, none⟩ z') (.agg #[.bool (decide ((0 : Rat).num < 0)), .slice A1 (sz (0 : Rat).num) c1, .slice B1 (dig (0 : Rat).den).length d1]) 0) := ⟨fun x y z x' y' z' =>
    ((hr1.set3 (by show ¬ W1.heap.size ≤ _; omega)).set3 (by show ¬ W1.heap.size ≤ _; omega)).mono (fun k hk _ => by have : W1.heap.size ≤ k := hk; show w.heap.size ≤ k; omega)⟩
  have hst2 : As (∀ x y z x' y' z', RatV (New w) ((((((w3.setCell ⟨w.heap.size, 0, none⟩ x).setCell ⟨w.heap.size, 1, none⟩ y).setCell ⟨w.heap.size, 2, none⟩ z).setCell ⟨w.heap.size + 1, 0, none⟩ x').setCell ⟨w.heap.size + 1, 1, none⟩ y').setCell ⟨w.heap.size + 1, 2, none⟩ z') (.agg #[.bool (decide ((0 : Rat).num < 0)), .slice A2 (sz (0 : Rat).num) c2, .slice B2 (dig (0 : Rat).den).length d2]) 0) := ⟨fun x y z x' y' z' =>
    ((hr2.set3 (by show ¬ w2.heap.size ≤ _; omega)).set3 (by show ¬ w2.heap.size ≤ _; omega)).mono (fun k hk _ => by have : w2.heap.size ≤ k := hk; show w.heap.size ≤ k; omega)⟩
  have hB9 := As.mk hS.1
  clear hS hR9 hr1 hr2 hb2 hb3
  go_wp2_with fail
  refine bodyPost_ret (v := .tuple #[.agg #[.bool (decide ((0 : Rat).num < 0)), .slice A1 (sz (0 : Rat).num) c1, .slice B1 (dig (0 : Rat).den).length d1], .agg #[.bool (decide ((0 : Rat).num < 0)), .slice A2 (sz (0 : Rat).num) c2, .slice B2 (dig (0 : Rat).den).length d2], .int .i64 E]) (by simp [results, Try.results48, go_sem, g0, g1, g2, k0, k1, k2]) rfl ?_
  exact ⟨_, _, rfl, hst1.out _ _ _ _ _ _, hst2.out _ _ _ _ _ _, Below.set3 (Below.set3 hB9.out (Nat.le_refl _)) (by omega)⟩
end Go.Proofs.Ytdbpjnjgjmfomaa
