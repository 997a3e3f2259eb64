/- classical: fraction, zero, scores. -/
import Derived.Test.YtdbpjnjgjmfomaaRat8
namespace Go.Proofs.Ytdbpjnjgjmfomaa
open Go.RowKit

def i64s (l : List Int) : List Value := l.map (Value.int .i64)
theorem i64s_length (l : List Int) : (i64s l).length = l.length := by simp [i64s]
theorem i64s_get (l : List Int) (j : Nat) (h : j < l.length) : (i64s l)[j]? = some (.int .i64 (l.getD j 0)) := by
  simp [i64s, List.getElem?_eq_getElem h, List.getD_eq_getElem?_getD]
/-- A value of type []int reads as l. -/
def IntsV (S : Nat → Prop) (w : World) (v : Value) (l : List Int) : Prop := ∃ A c, v = .slice A l.length c ∧ l.length ≤ c ∧ Rd S w A (i64s l)
theorem IntsV.step {S : Nat → Prop} {w w1 : World} {v : Value} {l : List Int} (h : IntsV S w v l) (hm : ∀ k, S k → k < w.heap.size → w1.heap[k]? = w.heap[k]?) : IntsV S w1 v l := by
  obtain ⟨A, c, rfl, hc, hr⟩ := h
  exact ⟨A, c, rfl, hc, hr.step hm⟩
theorem IntsV.below {S : Nat → Prop} {w w1 : World} {v : Value} {l : List Int} (h : IntsV S w v l) (hb : Below w.heap.size w w1) : IntsV S w1 v l := h.step (fun k _ hk => hb.block k hk)
theorem IntsV.mono {S T : Nat → Prop} {w : World} {v : Value} {l : List Int} (h : IntsV S w v l) (hm : ∀ k, S k → k < w.heap.size → T k) : IntsV T w v l := by
  obtain ⟨A, c, rfl, hc, hr⟩ := h
  exact ⟨A, c, rfl, hc, hr.mono hm⟩
theorem IntsV.slice {S : Nat → Prop} {w : World} {v : Value} {l : List Int} (h : IntsV S w v l) : ∃ A c, v = .slice A l.length c := by
  obtain ⟨A, c, e, _⟩ := h
  exact ⟨A, c, e⟩
theorem IntsV.cells {S : Nat → Prop} {w : World} {A : Option Addr} {n c : Nat} {l : List Int} (h : IntsV S w (.slice A n c) l) (hl : 0 < l.length) : ∃ ad, A = some ad ∧ ∀ i, i < l.length → w.cell? (ad.add i) = some (.int .i64 (l.getD i 0)) := by
  obtain ⟨A', c', e, hc, hr⟩ := h
  injection e with e1 e2 e3
  subst e1
  obtain ⟨ad, e, _, hc⟩ := hr (fun e => by rw [← List.length_eq_zero_iff, i64s_length] at e; omega)
  exact ⟨ad, e, fun i hi => hc i _ (i64s_get l i hi)⟩

set_option maxHeartbeats 8000000 in
set_option maxRecDepth 100000 in
theorem cls_fraction (w : World) (x y : Int) (hx0 : -9223372036854775808 ≤ x) (hx1 : x ≤ 9223372036854775807) (hy0 : -9223372036854775808 ≤ y) (hy1 : y ≤ 9223372036854775807) :
    Calls Try.prog 50 #[.int .i64 x, .int .i64 y] w fun e w' => ∃ r, e = .returned r ∧ RatV (New w) w' r ((x : Rat) / (y : Rat)) ∧ Below w.heap.size w w' := by
  obtain ⟨q, hq⟩ : ∃ q, ((x : Rat) / (y : Rat)) = q := ⟨_, rfl⟩
  replace hq := As.mk hq
  rw [hq.out]
  go_enter Try.func50, Try.ntmps50
  go_wp2_with fail
  obtain ⟨W, hW⟩ : ∃ W, (w.alloc (Obj.cells #[Value.bool false, Value.slice none 0 0, Value.slice none 0 0] 40)) = W := ⟨_, rfl⟩
  have hB : Below w.heap.size w W := by rw [← hW]; exact (Below.refl _ _).alloc (by simp) _
  have hs : W.heap.size = w.heap.size + 1 := by rw [← hW]; simp
  have hR : Res W w.heap.size 3 := ⟨by omega, fun i hi => by
    subst hW
    rcases (by omega : i = 0 ∨ i = 1 ∨ i = 2) with rfl | rfl | rfl
    · exact ⟨⟨.bool false, by simp [go_sem]⟩, by simp [go_sem]⟩
    · exact ⟨⟨.slice none 0 0, by simp [go_sem]⟩, by simp [go_sem]⟩
    · exact ⟨⟨.slice none 0 0, by simp [go_sem]⟩, by simp [go_sem]⟩⟩
  rw [hW]
  clear hW
  have hS := And.intro hB hR
  clear hB hR
  refine (rat_Of _ x y hx0 hx1 hy0 hy1).mono ?_
  rintro e w3 ⟨r, rfl, hL, hb⟩
  rw [hq.out] at hL
  obtain ⟨A7, c7, B7, d7, rfl⟩ := hL.slice
  have hst := As.mk (fun o x y z => RatV.stored (x := x) (y := y) (z := z) (show w.heap.size ≤ w.heap.size by omega) hS.2 hL |>.below ((Below.refl _ _).alloc (Nat.le_refl _) o))
  have hl0 : w.heap.size < w3.heap.size := by have := hb.size; omega
  replace hS := keep_last hS hb
  have hB9 : As (∀ o x y z, Below w.heap.size w ((((w3.setCell ⟨w.heap.size, 0, none⟩ x).setCell ⟨w.heap.size, 1, none⟩ y).setCell ⟨w.heap.size, 2, none⟩ z).alloc o)) := ⟨fun o x y z => (((hS.1.setCell (Nat.le_refl _) _).setCell (Nat.le_refl _) _).setCell (Nat.le_refl _) _).alloc (by simp [World.setCell]; omega) o⟩
  have hne : w.heap.size ≠ w3.heap.size := by omega
  obtain ⟨⟨⟨x4, h4⟩, f4⟩, ⟨⟨x5, h5⟩, f5⟩, ⟨x6, h6⟩, f6⟩ := And.intro (hS.2.2 0 (by omega)) (And.intro (hS.2.2 1 (by omega)) (hS.2.2 2 (by omega)))
  clear hS hL hb hs
  go_wp2_with fail
  refine bodyPost_ret (v := .agg #[.bool (decide (q.num < 0)), .slice A7 (sz q.num) c7, .slice B7 (dig q.den).length d7]) (by simp [results, Try.results50, go_sem, h4, h5, h6, hl0]) rfl ?_
  exact ⟨_, rfl, hst.out _ _ _ _, hB9.out _ _ _ _⟩

set_option maxHeartbeats 8000000 in
set_option maxRecDepth 100000 in
theorem cls_zero (w : World) :
    Calls Try.prog 49 #[] w fun e w' => ∃ r, e = .returned r ∧ RatV (New w) w' r 0 ∧ Below w.heap.size w w' := by
  have h0 : ((0 : Int) : Rat) / ((1 : Int) : Rat) = 0 := by simp [Rat.div_def]
  replace h0 := As.mk h0
  go_enter Try.func49, Try.ntmps49
  go_wp2_with fail
  obtain ⟨W, hW⟩ : ∃ W, (w.alloc (Obj.cells #[Value.bool false, Value.slice none 0 0, Value.slice none 0 0] 40)) = W := ⟨_, rfl⟩
  have hB : Below w.heap.size w W := by rw [← hW]; exact (Below.refl _ _).alloc (by simp) _
  have hs : W.heap.size = w.heap.size + 1 := by rw [← hW]; simp
  have hR : Res W w.heap.size 3 := ⟨by omega, fun i hi => by
    subst hW
    rcases (by omega : i = 0 ∨ i = 1 ∨ i = 2) with rfl | rfl | rfl
    · exact ⟨⟨.bool false, by simp [go_sem]⟩, by simp [go_sem]⟩
    · exact ⟨⟨.slice none 0 0, by simp [go_sem]⟩, by simp [go_sem]⟩
    · exact ⟨⟨.slice none 0 0, by simp [go_sem]⟩, by simp [go_sem]⟩⟩
  rw [hW]
  clear hW
  have hS := And.intro hB hR
  clear hB hR
  refine (cls_fraction _ 0 1 (by omega) (by omega) (by omega) (by omega)).mono ?_
  rintro e w3 ⟨r, rfl, hL, hb⟩
  rw [h0.out] at hL
  obtain ⟨A7, c7, B7, d7, rfl⟩ := hL.slice
  have hst := As.mk (fun x y z => RatV.stored (x := x) (y := y) (z := z) (show w.heap.size ≤ w.heap.size by omega) hS.2 hL)
  replace hS := keep_last hS hb
  obtain ⟨⟨⟨x4, h4⟩, f4⟩, ⟨⟨x5, h5⟩, f5⟩, ⟨x6, h6⟩, f6⟩ := And.intro (hS.2.2 0 (by omega)) (And.intro (hS.2.2 1 (by omega)) (hS.2.2 2 (by omega)))
  have hB9 := As.mk hS.1
  clear hS hL hb hs
  go_wp2_with fail
  refine bodyPost_ret (v := .agg #[.bool (decide ((0 : Rat).num < 0)), .slice A7 (sz (0 : Rat).num) c7, .slice B7 (dig (0 : Rat).den).length d7]) (by simp [results, Try.results49, go_sem, h4, h5, h6]) rfl ?_
  exact ⟨_, rfl, hst.out _ _ _, ((hB9.out.setCell (by simp <;> omega) _).setCell (by simp <;> omega) _).setCell (by simp <;> omega) _⟩

end Go.Proofs.Ytdbpjnjgjmfomaa
