/- The program's integers, sixth part: Cmp. -/
import Derived.Test.YtdbpjnjgjmfomaaInt5
namespace Go.Proofs.Ytdbpjnjgjmfomaa
open Go.RowKit

def cmpZ (x y : Int) : Int := if x < y then -1 else if x = y then 0 else 1
theorem sign_cases (x : Int) : (x < 0 ∧ x.sign = -1) ∨ (x = 0 ∧ x.sign = 0) ∨ (0 < x ∧ x.sign = 1) := by
  rcases Int.lt_trichotomy x 0 with h | h | h
  · exact .inl ⟨h, Int.sign_eq_neg_one_of_neg h⟩
  · exact .inr (.inl ⟨h, by rw [h]; rfl⟩)
  · exact .inr (.inr ⟨h, Int.sign_eq_one_of_pos h⟩)
theorem cmpZ_lt {x y : Int} (h : x.sign < y.sign) : cmpZ x y = -1 := by
  unfold cmpZ
  rcases sign_cases x with ⟨hx, ex⟩ | ⟨hx, ex⟩ | ⟨hx, ex⟩ <;> rcases sign_cases y with ⟨hy, ey⟩ | ⟨hy, ey⟩ | ⟨hy, ey⟩ <;> rw [ex, ey] at h <;> first | omega | rw [if_pos (by omega)]
theorem cmpZ_gt {x y : Int} (h : y.sign < x.sign) : cmpZ x y = 1 := by
  unfold cmpZ
  rcases sign_cases x with ⟨hx, ex⟩ | ⟨hx, ex⟩ | ⟨hx, ex⟩ <;> rcases sign_cases y with ⟨hy, ey⟩ | ⟨hy, ey⟩ | ⟨hy, ey⟩ <;> rw [ex, ey] at h <;> first | omega | rw [if_neg (by omega), if_neg (by omega)]
theorem cmpZ_neg {x y : Int} (h : x.sign = y.sign) (hn : x.sign < 0) : cmpZ x y = cmpI y.natAbs x.natAbs := by
  unfold cmpZ cmpI
  rcases sign_cases x with ⟨hx, ex⟩ | ⟨hx, ex⟩ | ⟨hx, ex⟩ <;> rcases sign_cases y with ⟨hy, ey⟩ | ⟨hy, ey⟩ | ⟨hy, ey⟩ <;> rw [ex] at hn h <;> rw [ey] at h <;> first | omega | ((repeat' split) <;> omega)
theorem cmpZ_pos {x y : Int} (h : x.sign = y.sign) (hn : ¬ x.sign < 0) : cmpZ x y = cmpI x.natAbs y.natAbs := by
  unfold cmpZ cmpI
  rcases sign_cases x with ⟨hx, ex⟩ | ⟨hx, ex⟩ | ⟨hx, ex⟩ <;> rcases sign_cases y with ⟨hy, ey⟩ | ⟨hy, ey⟩ | ⟨hy, ey⟩ <;> rw [ex] at hn h <;> rw [ey] at h <;> first | omega | ((repeat' split) <;> omega)

set_option maxHeartbeats 4000000 in
set_option maxRecDepth 100000 in
theorem int_Cmp {S T : Nat → Prop} {v u : Value} {x y : Int} {m n : Nat} (w : World) (hu : IntI S w v x m) (hv : IntI T w u y n) (hm : m ≤ 35184372088829) (hm' : n ≤ 35184372088829) :
    Calls Try.prog 65 #[v, u] w fun e w' => e = .returned (.int .i64 (cmpZ x y)) ∧ Below w.heap.size w w' := by
  obtain ⟨na, u, a, rfl, hu0, hxa, _⟩ := id hu
  obtain ⟨nb, v, b, rfl, hv0, hyb, _⟩ := id hv
  obtain ⟨A, c, rfl⟩ := hu0.slice
  obtain ⟨A2, c2, rfl⟩ := hv0.slice
  have hm0 : m ≤ 35184372088830 := by omega
  have hm1 : n ≤ 35184372088830 := by omega
  have hxn : x.natAbs = nv a := by rw [← hxa, iv_natAbs]
  have hyn : y.natAbs = nv b := by rw [← hyb, iv_natAbs]
  have H1 := As.mk (@cmpZ_lt x y)
  have H2 := As.mk (@cmpZ_gt x y)
  have H3 := @cmpZ_neg x y
  have H4 := @cmpZ_pos x y
  rw [hxn, hyn] at H3 H4
  replace H3 := As.mk H3
  replace H4 := As.mk H4
  clear hxa hyb hxn hyn
  go_enter Try.func65, Try.ntmps65
  go_wp2_with fail
  obtain ⟨W, hW⟩ : ∃ W, ((w.alloc (Obj.cells #[Value.bool na, Value.slice A a.length c] 38)).alloc (Obj.cells #[Value.bool nb, Value.slice A2 b.length c2] 38)) = W := ⟨_, rfl⟩
  have hs : W.heap.size = w.heap.size + 2 := by rw [← hW]; simp
  have hB : Below w.heap.size w W := by rw [← hW]; exact (((Below.refl _ _).alloc (by simp <;> omega) _).alloc (by simp <;> omega) _)
  have cc0 : W.cell? ⟨w.heap.size, 0, none⟩ = some (.bool na) := by subst hW; simp [go_sem]
  have cc1 : W.cell? ⟨w.heap.size, 1, none⟩ = some (.slice A a.length c) := by subst hW; simp [go_sem]
  have cc2 : W.cell? ⟨w.heap.size + 1, 0, none⟩ = some (.bool nb) := by subst hW; simp [go_sem]
  have cc3 : W.cell? ⟨w.heap.size + 1, 1, none⟩ = some (.slice A2 b.length c2) := by subst hW; simp [go_sem]
  rw [hW]
  clear hW
  go_region_held3 (fun w' => w'.cell? ⟨w.heap.size, 0, none⟩ = some (.bool na) ∧ w'.cell? ⟨w.heap.size, 1, none⟩ = some (.slice A a.length c) ∧ w'.cell? ⟨w.heap.size + 1, 0, none⟩ = some (.bool nb) ∧ w'.cell? ⟨w.heap.size + 1, 1, none⟩ = some (.slice A2 b.length c2) ∧ Below w.heap.size w w')
    ((first
      | exact (keep_and (keep_and (keep_and (keep_and keep_end)))) ⟨cc0, cc1, cc2, cc3, hB⟩ (below_drew _)
      | exact (keep_and (keep_and (keep_and (keep_and keep_end)))) (by assumption) (below_drew _)
      | exact (keep_and (keep_and (keep_and (keep_and keep_end)))) (by assumption) (by assumption)))
    (first
      | (go_at_call 64; obtain ⟨_, _, _, _, hB1⟩ := ‹_ ∧ _ ∧ _ ∧ _ ∧ Below _ _ _›; first | (with_reducible refine (int_Sign _ (hu.below hB1) hm0).mono ?_; rintro e w1 ⟨rfl, hb⟩) | (with_reducible refine (int_Sign _ (hv.below hB1) hm1).mono ?_; rintro e w2 ⟨rfl, hb⟩)))
  all_goals
    obtain ⟨g0, g1, g2, g3, hB9⟩ := ‹_ ∧ _ ∧ _ ∧ _ ∧ Below _ _ _›
    replace hB9 := As.mk hB9
    rcases Int.lt_trichotomy x.sign y.sign with hlt | heq | hgt
    · have R := As.mk (H1.out hlt)
      go_wp2_with fail
      go_ret
      exact ⟨ret_int R.out.symm, hB9.out⟩
    · rcases Int.lt_or_le x.sign 0 with hs | hs
      · have R := As.mk (H3.out heq hs)
        rw [← heq]
        have l1 : ¬ x.sign < x.sign := by omega
        replace heq := As.mk heq
        go_wp2_with fail
        refine (nat_Cmp _ (hv0.below hB9.out) (hu0.below hB9.out) (by omega) (by omega)).mono ?_
        rintro e w5 ⟨rfl, ⟨m5, rfl⟩⟩
        go_wp2_with fail
        go_ret
        exact ⟨ret_int R.out.symm, hB9.out.drewsN _⟩
      · have R := As.mk (H4.out heq (by omega))
        rw [← heq]
        have l1 : ¬ x.sign < x.sign := by omega
        have l2 : ¬ x.sign < 0 := by omega
        replace heq := As.mk heq
        go_wp2_with fail
        refine (nat_Cmp _ (hu0.below hB9.out) (hv0.below hB9.out) (by omega) (by omega)).mono ?_
        rintro e w5 ⟨rfl, ⟨m5, rfl⟩⟩
        go_wp2_with fail
        go_ret
        exact ⟨ret_int R.out.symm, hB9.out.drewsN _⟩
    · have R := As.mk (H2.out hgt)
      have l1 : ¬ x.sign < y.sign := by omega
      go_wp2_with fail
      go_ret
      exact ⟨ret_int R.out.symm, hB9.out⟩
end Go.Proofs.Ytdbpjnjgjmfomaa
