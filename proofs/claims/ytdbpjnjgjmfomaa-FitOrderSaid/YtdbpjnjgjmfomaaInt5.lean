/- The program's integers, fifth part: Sub, Of. -/
import Derived.Test.YtdbpjnjgjmfomaaInt4
namespace Go.Proofs.Ytdbpjnjgjmfomaa
open Go.RowKit

theorem sz_neg (z : Int) : sz (-z) = sz z := by unfold sz; rw [Int.natAbs_neg]

set_option maxHeartbeats 2000000 in
theorem int_Sub {S T : Nat → Prop} {v u : Value} {x y : Int} {m n : Nat} (w : World) (hu : IntI S w v x m) (hv : IntI T w u y n) (hm : m ≤ 35184372088829) (hm' : n ≤ 35184372088829) :
    Calls Try.prog 61 #[v, u] w fun e w' => ∃ r, e = .returned r ∧ IntV (New w) w' r (x - y) ∧ Below w.heap.size w w' := by
  have hl := hv.sz
  have hn := As.mk (sz_neg y)
  have hl2 : sz (-y) ≤ 35184372088829 := by rw [hn.out]; omega
  rw [Int.sub_eq_add_neg]
  obtain ⟨na, u, a, rfl, hu0, _⟩ := id hu
  obtain ⟨nb, v, b, rfl, hv0, _⟩ := id hv
  obtain ⟨A, c, rfl⟩ := hu0.slice
  obtain ⟨A2, c2, rfl⟩ := hv0.slice
  go_enter Try.func61, Try.ntmps61
  go_wp2_with fail
  obtain ⟨W, hW⟩ : ∃ W, (((w.alloc (Obj.cells #[Value.bool na, Value.slice A a.length c] 38)).alloc (Obj.cells #[Value.bool nb, Value.slice A2 b.length c2] 38)).alloc (Obj.cells #[Value.bool false, Value.slice none 0 0] 38)) = W := ⟨_, rfl⟩
  have hs : W.heap.size = w.heap.size + 3 := by rw [← hW]; simp
  have hB : Below w.heap.size w W := by rw [← hW]; exact ((((Below.refl _ _).alloc (by simp <;> omega) _).alloc (by simp <;> omega) _).alloc (by simp <;> omega) _)
  have cc0 : W.cell? ⟨w.heap.size, 0, none⟩ = some (.bool na) := by subst hW; simp [go_sem]
  have cc1 : W.cell? ⟨w.heap.size, 1, none⟩ = some (.slice A a.length c) := by subst hW; simp [go_sem]
  have cc2 : W.cell? ⟨w.heap.size + 1, 0, none⟩ = some (.bool nb) := by subst hW; simp [go_sem]
  have cc3 : W.cell? ⟨w.heap.size + 1, 1, none⟩ = some (.slice A2 b.length c2) := by subst hW; simp [go_sem]
  have d0 : W.cell? ⟨w.heap.size + 2, 0, none⟩ = some (.bool false) := by subst hW; simp [go_sem]
  have f0 : W.frozen? ⟨w.heap.size + 2, 0, none⟩ = false := by subst hW; simp [go_sem]
  have d1 : W.cell? ⟨w.heap.size + 2, 1, none⟩ = some (.slice none 0 0) := by subst hW; simp [go_sem]
  have f1 : W.frozen? ⟨w.heap.size + 2, 1, none⟩ = false := by subst hW; simp [go_sem]
  have hR : Res W (w.heap.size + 2) 2 := ⟨by omega, fun i hi => by
    rcases (by omega : i = 0 ∨ i = 1) with rfl | rfl
    · exact ⟨⟨_, d0⟩, f0⟩
    · exact ⟨⟨_, d1⟩, f1⟩⟩
  rw [hW]
  clear hW
  clear d0 d1 f0 f1
  go_region_held3 (fun w' => w'.cell? ⟨w.heap.size, 0, none⟩ = some (.bool na) ∧ w'.cell? ⟨w.heap.size, 1, none⟩ = some (.slice A a.length c) ∧ w'.cell? ⟨w.heap.size + 1, 0, none⟩ = some (.bool nb) ∧ w'.cell? ⟨w.heap.size + 1, 1, none⟩ = some (.slice A2 b.length c2) ∧ Below w.heap.size w w' ∧ Res w' (w.heap.size + 2) 2)
    ((first
      | exact (keep_and (keep_and (keep_and (keep_and keep_last)))) ⟨cc0, cc1, cc2, cc3, hB, hR⟩ (below_drew _)
      | exact (keep_and (keep_and (keep_and (keep_and keep_last)))) (by assumption) (below_drew _)
      | exact (keep_and (keep_and (keep_and (keep_and keep_last)))) (by assumption) (by assumption)
      | exact (set_held (by simp <;> omega) (set_held (by simp <;> omega) (set_held (by simp <;> omega) (set_held (by simp <;> omega) (set_last (by simp <;> omega)))))) ((set_held (by simp <;> omega) (set_held (by simp <;> omega) (set_held (by simp <;> omega) (set_held (by simp <;> omega) (set_last (by simp <;> omega)))))) (by assumption))))
    (first
      | (go_at_call 94; obtain ⟨_, _, _, _, hB1, hR1⟩ := ‹_ ∧ _ ∧ _ ∧ _ ∧ Below _ _ _ ∧ _›; refine (int_Neg _ (hv.below hB1) (by omega)).mono ?_; rintro e w1 ⟨r, rfl, hr0, hb⟩; have hr := hr0.i)
      | (go_at_call 55; obtain ⟨_, _, _, _, hB1, hR1⟩ := ‹_ ∧ _ ∧ _ ∧ _ ∧ Below _ _ _ ∧ _›; refine (int_Add _ (hu.below hB1) hr (by omega) (by omega)).mono ?_; rintro e w2 ⟨r2, rfl, ⟨u2, rfl, hr2⟩, hb2⟩; obtain ⟨A3, C3, rfl⟩ := hr2.slice; obtain ⟨⟨⟨x4, h4⟩, f4⟩, ⟨x5, h5⟩, f5⟩ := And.intro ((hR1.below hb2).2 0 (by omega)) ((hR1.below hb2).2 1 (by omega))))
  go_wp2_with fail
  refine bodyPost_ret (v := .agg #[.bool (decide (x + -y < 0)), .slice A3 (dig (x + -y).natAbs).length C3]) (by simp [results, Try.results61, go_sem, h4, h5]) rfl ?_
  exact ⟨_, rfl, IntV.stored (by omega) hR1 hr2 hb2, hB1.after (by have := hR1.1; omega) hb2 |>.setCell (by simp; omega) _ |>.setCell (by simp; omega) _⟩

set_option maxHeartbeats 2000000 in
theorem int_Of (n : Int) (w : World) (h0 : -9223372036854775808 ≤ n) (h1 : n ≤ 9223372036854775807) :
    Calls Try.prog 59 #[.int .i64 n] w fun e w' => ∃ r, e = .returned r ∧ IntV (New w) w' r n ∧ Below w.heap.size w w' := by
  obtain ⟨k, hk⟩ : ∃ k : Nat, n.natAbs = k := ⟨_, rfl⟩
  have hfin : ∀ (w1 : World) (b : Bool) (u : Value), b = decide (n < 0) → NumV (New (w.alloc (Obj.cells #[Value.bool false, Value.slice none 0 0] 38))) w1 u (dig k) → 
      IntV (New w) ((w1.setCell ⟨w.heap.size, 0, none⟩ (.bool b)).setCell ⟨w.heap.size, 1, none⟩ u) (.agg #[.bool b, u]) n := fun w1 b u hb hu => by
    subst hb
    refine ⟨u, rfl, ?_⟩
    rw [hk]
    refine ((hu.set (by intro k hk _; simp at hk; simp; omega) _).set (by intro k hk _; simp at hk; simp; omega) _).mono ?_
    intro k hk _; simp at hk; show w.heap.size ≤ k; omega
  have hbel : ∀ (w1 : World) (b : Bool) v, Below (w.alloc (Obj.cells #[Value.bool false, Value.slice none 0 0] 38)).heap.size (w.alloc (Obj.cells #[Value.bool false, Value.slice none 0 0] 38)) w1 → Below w.heap.size w ((w1.setCell ⟨w.heap.size, 0, none⟩ (.bool b)).setCell ⟨w.heap.size, 1, none⟩ v) := fun w1 b v hb1 =>
    ((((Below.refl w.heap.size w).alloc (Nat.le_refl _) _).after (by simp) hb1).setCell (by simp) _).setCell (by simp) _
  replace hfin := As.mk hfin
  replace hbel := As.mk hbel
  by_cases hn : n < 0
  · have e1 : IntKind.i64.wrap (n + 1) = n + 1 := IntWalk.i64_in _ (by omega)
    have e2 : IntKind.i64.wrap (-(n + 1)) = -(n + 1) := IntWalk.i64_in _ (by omega)
    have e3 : IntKind.u64.wrap (-(n + 1)) = -(n + 1) := by first | (exact IntWalk.u64_in _ (by omega)) | (rw [IntWalk.u64_in _ (by omega)])
    have e4 : IntKind.u64.wrap (-(n + 1) + 1) = (k : Int) := by rw [show -(n + 1) + 1 = (k : Int) by omega]; exact IntWalk.u64_in _ (by omega)
    have hd := As.mk (decide_eq_true hn)
    have hk1 : k < 18446744073709551616 := by omega
    replace hk := As.mk hk
    go_enter Try.func59, Try.ntmps59
    go_wp2_with fail
    refine (nat_Of k _ hk1).mono ?_
    rintro e w1 ⟨u, rfl, hu, hb1⟩
    obtain ⟨A1, c1, rfl⟩ := hu.slice
    obtain ⟨hc, hf⟩ := bcell (n := w.heap.size + 1) hb1 (by simp)
    go_wp2_with fail
    refine bodyPost_ret (v := .agg #[.bool true, .slice A1 (dig k).length c1]) (by simp [results, Try.results59, go_sem, hc]) rfl ?_
    exact ⟨_, rfl, hfin.out _ _ _ hd.out.symm hu, hbel.out _ _ _ hb1⟩
  · have e3 : IntKind.u64.wrap n = (k : Int) := by rw [show n = (k : Int) by omega]; exact IntWalk.u64_in _ (by omega)
    have hd := As.mk (decide_eq_false hn)
    have hk1 : k < 18446744073709551616 := by omega
    replace hk := As.mk hk
    go_enter Try.func59, Try.ntmps59
    go_wp2_with fail
    refine (nat_Of k _ hk1).mono ?_
    rintro e w1 ⟨u, rfl, hu, hb1⟩
    obtain ⟨A1, c1, rfl⟩ := hu.slice
    obtain ⟨hc, hf⟩ := bcell (n := w.heap.size + 1) hb1 (by simp)
    go_wp2_with fail
    refine bodyPost_ret (v := .agg #[.bool false, .slice A1 (dig k).length c1]) (by simp [results, Try.results59, go_sem, hc]) rfl ?_
    exact ⟨_, rfl, hfin.out _ _ _ hd.out.symm hu, hbel.out _ _ _ hb1⟩
end Go.Proofs.Ytdbpjnjgjmfomaa
