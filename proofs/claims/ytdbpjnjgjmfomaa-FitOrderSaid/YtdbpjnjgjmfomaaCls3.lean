/- classical: lists and Covariance, where the lists are in order. -/
import Derived.Test.YtdbpjnjgjmfomaaCov
namespace Go.Proofs.Ytdbpjnjgjmfomaa
open Go.RowKit

theorem okScores_mod {l : List Int} (h : okScores l = true) : Mod l := fun i => by
  rcases Nat.lt_or_ge i l.length with hi | hi
  · have := okScores_at h i hi; omega
  · rw [List.getD_eq_getElem?_getD, List.getElem?_eq_none hi]; simp

set_option maxHeartbeats 4000000 in
set_option maxRecDepth 100000 in
theorem cls_lists {S T : Nat → Prop} {v u : Value} {x y : List Int} (w : World) (hv : IntsV S w v x) (hu : IntsV T w u y) (hx : okScores x = true) (hy : okScores y = true) (hn : x.length ≤ 200) (h0 : 0 < x.length) (hxy : y.length = x.length) :
    Calls Try.prog 51 #[v, u] w fun e w' => e = .returned (.int .i64 0) ∧ Drawn w w' := by
  obtain ⟨A, c, rfl⟩ := hv.slice
  obtain ⟨B, d, rfl⟩ := hu.slice
  have s1 := fun m => cls_scores (w.drewN m) (hv.below ((Below.refl _ _).drewsN m)) (by omega)
  have s2 := fun m => cls_scores (w.drewN m) (hu.below ((Below.refl _ _).drewsN m)) (by omega)
  have s0 := cls_scores w hv (by omega)
  rw [hx] at s1 s0
  rw [hy] at s2
  rw [hxy] at s2 ⊢
  clear hv hu hx hy
  replace hxy := As.mk hxy
  obtain ⟨n, hnn⟩ : ∃ n, x.length = n := ⟨_, rfl⟩
  rw [hnn] at s0 s1 s2 hn h0 ⊢
  replace hnn := As.mk hnn
  replace s0 := As.mk s0
  replace s1 := As.mk s1
  replace s2 := As.mk s2
  have l2 : ((n : Int) == 0) = false := beq_eq_false_iff_ne.2 (by omega)
  go_enter Try.func51, Try.ntmps51
  go_wp2_with fail
  refine s0.out.mono ?_
  rintro e w' ⟨rfl, ⟨m1, rfl⟩⟩
  go_wp2_with fail
  refine (s2.out _).mono ?_
  rintro e w' ⟨rfl, ⟨m2, rfl⟩⟩
  go_wp2_with fail
  go_ret
  exact ⟨rfl, by repeat (first | exact Drawn.refl _ | apply Drawn.step)⟩

set_option maxHeartbeats 4000000 in
set_option maxRecDepth 100000 in
theorem cls_Covariance {S T : Nat → Prop} {v u : Value} {x y : List Int} (w : World) (hv : IntsV S w v x) (hu : IntsV T w u y) (hx : okScores x = true) (hy : okScores y = true) (hn : x.length ≤ 200) (h0 : 0 < x.length) (hxy : y.length = x.length) :
    Calls Try.prog 23 #[v, u] w fun e w' => ∃ r, e = .returned (.tuple #[r, .int .i64 0]) ∧ RatV (New w) w' r (covR x y) ∧ Below w.heap.size w w' := by
  obtain ⟨A, c, rfl⟩ := hv.slice
  obtain ⟨B, d, rfl⟩ := hu.slice
  obtain ⟨Q, hQ⟩ : ∃ Q, covR x y = Q := ⟨_, rfl⟩
  rw [hQ]
  replace hQ := As.mk hQ
  have H1 : As (∀ W, Below w.heap.size w W → Calls Try.prog 51 #[.slice A x.length c, .slice B y.length d] W fun e w' => e = .returned (.int .i64 0) ∧ Drawn W w') := ⟨fun W hb => cls_lists W (hv.below hb) (hu.below hb) hx hy hn h0 hxy⟩
  have H2 : As (∀ W, Below w.heap.size w W → Calls Try.prog 52 #[.slice A x.length c, .slice B y.length d] W fun e w' => ∃ r, e = .returned r ∧ RatV (New W) w' r Q ∧ Below W.heap.size W w') := ⟨fun W hb => by
    rw [← hQ.out]
    exact cls_cov W (hv.below hb) (hu.below hb) (okScores_mod hx) (okScores_mod hy) hn hxy⟩
  clear hv hu hx hy hn h0 hxy hQ
  go_enter Try.func23, Try.ntmps23
  go_wp2_with fail
  obtain ⟨W, hW⟩ : ∃ W, (w.alloc (Obj.cells #[Value.bool false, Value.slice none 0 0, Value.slice none 0 0] 40)) = W := ⟨_, rfl⟩
  have hB : Below w.heap.size w W := by rw [← hW]; exact (Below.refl _ _).alloc (by simp) _
  have hs : W.heap.size = w.heap.size + 1 := by rw [← hW]; simp
  have hR : Res W w.heap.size 3 := ⟨by omega, fun i hi => by
    subst hW
    rcases (by omega : i = 0 ∨ i = 1 ∨ i = 2) with rfl | rfl | rfl
    · exact ⟨⟨.bool false, by simp [go_sem]⟩, by simp [go_sem]⟩
    · exact ⟨⟨.slice none 0 0, by simp [go_sem]⟩, by simp [go_sem]⟩
    · exact ⟨⟨.slice none 0 0, by simp [go_sem]⟩, by simp [go_sem]⟩⟩
  rw [hW]
  clear hW
  have hS := And.intro hB hR
  clear hB hR
  refine (H1.out _ hS.1).mono ?_
  rintro e w1 ⟨rfl, hd⟩
  replace hS := keep_last hS hd.below
  clear hd
  go_wp2_with fail
  refine (H2.out _ hS.1).mono ?_
  rintro e w5 ⟨r5, rfl, hL, hb5⟩
  obtain ⟨A7, c7, B7, d7, rfl⟩ := hL.slice
  have hst := As.mk (fun x y z => RatV.stored (x := x) (y := y) (z := z) (show w.heap.size ≤ w.heap.size by omega) hS.2 hL)
  replace hS := keep_last hS hb5
  obtain ⟨⟨⟨x4, h4⟩, f4⟩, ⟨⟨x5, h5⟩, f5⟩, ⟨x6, h6⟩, f6⟩ := And.intro (hS.2.2 0 (by omega)) (And.intro (hS.2.2 1 (by omega)) (hS.2.2 2 (by omega)))
  have hB9 := As.mk hS.1
  clear hS hL hb5 hs
  go_wp2_with fail
  refine bodyPost_ret (v := .tuple #[.agg #[.bool (decide (Q.num < 0)), .slice A7 (sz Q.num) c7, .slice B7 (dig Q.den).length d7], .int .i64 0]) (by simp [results, Try.results23, go_sem, h4, h5, h6]) rfl ?_
  exact ⟨_, rfl, hst.out _ _ _, ((hB9.out.setCell (by simp <;> omega) _).setCell (by simp <;> omega) _).setCell (by simp <;> omega) _⟩
end Go.Proofs.Ytdbpjnjgjmfomaa
