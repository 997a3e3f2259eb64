/- The program's integers, fourth part: Add, Sub, Of, Cmp. -/
import Derived.Test.YtdbpjnjgjmfomaaInt3
namespace Go.Proofs.Ytdbpjnjgjmfomaa
open Go.RowKit

theorem iv_add_same (n : Bool) (a b : List Int) : iv n a + iv n b = iv n (dig (nv a + nv b)) := by
  unfold iv; rw [nv_dig]; cases n
  · simp
  · simp only [if_true, Int.natCast_add]; omega
theorem iv_add_ge {m n : Bool} {a b : List Int} (hmn : (m == n) = false) (h : nv b ≤ nv a) : iv m a + iv n b = iv m (dig (nv a - nv b)) := by
  unfold iv; rw [nv_dig]
  cases m <;> cases n <;> simp at hmn ⊢ <;> omega
theorem iv_add_lt {m n : Bool} {a b : List Int} (hmn : (m == n) = false) (h : nv a ≤ nv b) : iv m a + iv n b = iv n (dig (nv b - nv a)) := by
  rw [Int.add_comm]; exact iv_add_ge (by cases m <;> cases n <;> simp_all) h
theorem dig_len_add (a b : Nat) : (dig (a + b)).length ≤ max (dig a).length (dig b).length + 1 := by
  apply dig_length_le
  have h1 := dig_lt a
  have h2 := dig_lt b
  have h3 : 4294967296 ^ (dig a).length ≤ 4294967296 ^ max (dig a).length (dig b).length := Nat.pow_le_pow_right (by omega) (Nat.le_max_left _ _)
  have h4 : 4294967296 ^ (dig b).length ≤ 4294967296 ^ max (dig a).length (dig b).length := Nat.pow_le_pow_right (by omega) (Nat.le_max_right _ _)
  rw [Nat.pow_succ]
  omega

theorem bcell_le {W w1 : World} {n : Nat} (hb : Below W.heap.size W w1) (hn : n ≤ W.heap.size) : (∀ b o, b < n → w1.cell? ⟨b, o, none⟩ = W.cell? ⟨b, o, none⟩) ∧ (∀ b o, b < n → w1.frozen? ⟨b, o, none⟩ = W.frozen? ⟨b, o, none⟩) :=
  ⟨fun b o h => hb.cell (p := ⟨b, o, none⟩) (Nat.lt_of_lt_of_le h hn), fun b o h => hb.frozen (p := ⟨b, o, none⟩) (Nat.lt_of_lt_of_le h hn)⟩

set_option maxHeartbeats 2000000 in
theorem int_Add {S T : Nat → Prop} {v u : Value} {x y : Int} {m n : Nat} (w : World) (hu : IntI S w v x m) (hv : IntI T w u y n) (hm : m ≤ 35184372088829) (hm' : n ≤ 35184372088829) :
    Calls Try.prog 55 #[v, u] w fun e w' => ∃ r, e = .returned r ∧ IntV (New w) w' r (x + y) ∧ Below w.heap.size w w' := by
  obtain ⟨na, u, a, rfl, hu, rfl, hla⟩ := hu
  obtain ⟨nb, v, b, rfl, hv, rfl, hlb⟩ := hv
  obtain ⟨A, c, rfl⟩ := hu.slice
  obtain ⟨A2, c2, rfl⟩ := hv.slice
  have hL : (dig (nv a + nv b)).length ≤ 35184372088830 := by
    have := dig_len_add (nv a) (nv b); have := dig_len_le hu.1; have := dig_len_le hv.1; omega
  have hL1 : ∀ k, (dig (nv a - k)).length ≤ 35184372088830 := fun k => by
    have := dig_len_mono (show nv a - k ≤ nv a by omega); have := dig_len_le hu.1; omega
  have hL2 : ∀ k, (dig (nv b - k)).length ≤ 35184372088830 := fun k => by
    have := dig_len_mono (show nv b - k ≤ nv b by omega); have := dig_len_le hv.1; omega
  replace hL1 := As.mk hL1
  replace hL2 := As.mk hL2
  cases hmn : (na == nb)
  · rcases Nat.lt_or_ge (nv a) (nv b) with hlt | hge
    · have hsum := As.mk (iv_add_lt hmn (Nat.le_of_lt hlt))
      go_enter Try.func55, Try.ntmps55
      go_wp2_with fail
      refine (nat_Sub_no _ (((hu.alloc _).alloc _).alloc _) (((hv.alloc _).alloc _).alloc _) (by omega) (by omega) hlt).mono ?_
      rintro e w1 ⟨rfl, ⟨k, rfl⟩⟩
      go_wp2_with fail
      refine (nat_Sub _ ((((hv.alloc _).alloc _).alloc _).drewN _) ((((hu.alloc _).alloc _).alloc _).drewN _) (by omega) (by omega) (Nat.le_of_lt hlt)).mono ?_
      rintro e w1 ⟨r, rfl, hr, hb1⟩
      obtain ⟨hc, hf⟩ := bcell_le (n := w.heap.size + 3) hb1 (by simp)
      have hz1 : w.heap.size + 3 ≤ w1.heap.size := Nat.le_trans (by simp) hb1.size
      go_wp2_with fail
      refine (int_Make _ hr (hL2.out _)).mono ?_
      rintro e w2 ⟨v1, rfl, ⟨u1, rfl, hn1⟩, hb2⟩
      obtain ⟨A1, c1, rfl⟩ := hn1.slice
      obtain ⟨hc2, hf2⟩ := bcell_le (n := w.heap.size + 3) hb2 (by omega)
      have hz := hb2.size
      have hR : Res w1 (w.heap.size + 2) 2 := ⟨by omega, fun i hi => by
        rcases (by omega : i = 0 ∨ i = 1) with rfl | rfl
        · exact ⟨⟨.bool false, by simp [go_sem, hc]⟩, by simp [go_sem, hf]⟩
        · exact ⟨⟨.slice none 0 0, by simp [go_sem, hc]⟩, by simp [go_sem, hf]⟩⟩
      have hres := As.mk (fun x y => IntV.stored (w := w) (x := x) (y := y) (by omega) hR hn1 hb2)
      have hbel : As (∀ x y, Below w.heap.size w ((w2.setCell ⟨w.heap.size + 2, 0, none⟩ x).setCell ⟨w.heap.size + 2, 1, none⟩ y)) := ⟨fun x y =>
        (((Below.after (by repeat (first | exact Below.refl _ _ | apply Below.drewsN | (refine Below.alloc ?_ (by simp <;> omega) _))) (by simp; omega) hb1).after (by omega) hb2).setCell (by simp) _).setCell (by simp) _⟩
      clear hR hn1 hb2 hb1 hr
      go_wp2_with fail
      refine bodyPost_ret (v := .agg #[.bool _, .slice A1 _ c1]) (by simp [results, Try.results55, go_sem, hc2, hc]; try exact ⟨rfl, rfl⟩) rfl ?_
      rw [hsum.out]
      exact ⟨_, rfl, hres.out _ _, hbel.out _ _⟩
    · have hsum := As.mk (iv_add_ge hmn hge)
      go_enter Try.func55, Try.ntmps55
      go_wp2_with fail
      refine (nat_Sub _ (((hu.alloc _).alloc _).alloc _) (((hv.alloc _).alloc _).alloc _) (by omega) (by omega) hge).mono ?_
      rintro e w1 ⟨r, rfl, hr, hb1⟩
      obtain ⟨hc, hf⟩ := bcell_le (n := w.heap.size + 3) hb1 (by simp)
      have hz1 : w.heap.size + 3 ≤ w1.heap.size := Nat.le_trans (by simp) hb1.size
      go_wp2_with fail
      refine (int_Make _ hr (hL1.out _)).mono ?_
      rintro e w2 ⟨v1, rfl, ⟨u1, rfl, hn1⟩, hb2⟩
      obtain ⟨A1, c1, rfl⟩ := hn1.slice
      obtain ⟨hc2, hf2⟩ := bcell_le (n := w.heap.size + 3) hb2 (by omega)
      have hz := hb2.size
      have hR : Res w1 (w.heap.size + 2) 2 := ⟨by omega, fun i hi => by
        rcases (by omega : i = 0 ∨ i = 1) with rfl | rfl
        · exact ⟨⟨.bool false, by simp [go_sem, hc]⟩, by simp [go_sem, hf]⟩
        · exact ⟨⟨.slice none 0 0, by simp [go_sem, hc]⟩, by simp [go_sem, hf]⟩⟩
      have hres := As.mk (fun x y => IntV.stored (w := w) (x := x) (y := y) (by omega) hR hn1 hb2)
      have hbel : As (∀ x y, Below w.heap.size w ((w2.setCell ⟨w.heap.size + 2, 0, none⟩ x).setCell ⟨w.heap.size + 2, 1, none⟩ y)) := ⟨fun x y =>
        (((Below.after (by repeat (first | exact Below.refl _ _ | apply Below.drewsN | (refine Below.alloc ?_ (by simp <;> omega) _))) (by simp; omega) hb1).after (by omega) hb2).setCell (by simp) _).setCell (by simp) _⟩
      clear hR hn1 hb2 hb1 hr
      go_wp2_with fail
      refine bodyPost_ret (v := .agg #[.bool _, .slice A1 _ c1]) (by simp [results, Try.results55, go_sem, hc2, hc]; try exact ⟨rfl, rfl⟩) rfl ?_
      rw [hsum.out]
      exact ⟨_, rfl, hres.out _ _, hbel.out _ _⟩
  · obtain rfl : na = nb := by simpa using hmn
    have hsum := As.mk (iv_add_same na a b)
    clear hmn hL1 hL2
    go_enter Try.func55, Try.ntmps55
    go_wp2_with fail
    obtain ⟨W, hW⟩ : ∃ W, (((w.alloc (Obj.cells #[Value.bool na, Value.slice A a.length c] 38)).alloc (Obj.cells #[Value.bool na, Value.slice A2 b.length c2] 38)).alloc (Obj.cells #[Value.bool false, Value.slice none 0 0] 38)) = W := ⟨_, rfl⟩
    have hs : W.heap.size = w.heap.size + 3 := by rw [← hW]; simp
    have hB : Below w.heap.size w W := by rw [← hW]; exact ((((Below.refl _ _).alloc (by simp <;> omega) _).alloc (by simp <;> omega) _).alloc (by simp <;> omega) _)
    have cc0 : W.cell? ⟨w.heap.size, 0, none⟩ = some (.bool na) := by subst hW; simp [go_sem]
    have cc1 : W.cell? ⟨w.heap.size, 1, none⟩ = some (.slice A a.length c) := by subst hW; simp [go_sem]
    have cc2 : W.cell? ⟨w.heap.size + 1, 0, none⟩ = some (.bool na) := by subst hW; simp [go_sem]
    have cc3 : W.cell? ⟨w.heap.size + 1, 1, none⟩ = some (.slice A2 b.length c2) := by subst hW; simp [go_sem]
    have d0 : W.cell? ⟨w.heap.size + 2, 0, none⟩ = some (.bool false) := by subst hW; simp [go_sem]
    have f0 : W.frozen? ⟨w.heap.size + 2, 0, none⟩ = false := by subst hW; simp [go_sem]
    have d1 : W.cell? ⟨w.heap.size + 2, 1, none⟩ = some (.slice none 0 0) := by subst hW; simp [go_sem]
    have f1 : W.frozen? ⟨w.heap.size + 2, 1, none⟩ = false := by subst hW; simp [go_sem]
    have hR : Res W (w.heap.size + 2) 2 := ⟨by omega, fun i hi => by
      rcases (by omega : i = 0 ∨ i = 1) with rfl | rfl
      · exact ⟨⟨_, d0⟩, f0⟩
      · exact ⟨⟨_, d1⟩, f1⟩⟩
    rw [hW]
    clear hW
    clear d0 d1 f0 f1
    try go_wp2_with fail
    go_region_held3 (fun w' => w'.cell? ⟨w.heap.size, 0, none⟩ = some (.bool na) ∧ w'.cell? ⟨w.heap.size, 1, none⟩ = some (.slice A a.length c) ∧ w'.cell? ⟨w.heap.size + 1, 0, none⟩ = some (.bool na) ∧ w'.cell? ⟨w.heap.size + 1, 1, none⟩ = some (.slice A2 b.length c2) ∧ Below w.heap.size w w' ∧ Res w' (w.heap.size + 2) 2)
      ((first
        | exact (keep_and (keep_and (keep_and (keep_and keep_last)))) ⟨cc0, cc1, cc2, cc3, hB, hR⟩ (below_drew _)
        | exact (keep_and (keep_and (keep_and (keep_and keep_last)))) (by assumption) (below_drew _)
        | exact (keep_and (keep_and (keep_and (keep_and keep_last)))) (by assumption) (by assumption)
        | exact (set_held (by simp <;> omega) (set_held (by simp <;> omega) (set_held (by simp <;> omega) (set_held (by simp <;> omega) (set_last (by simp <;> omega)))))) ((set_held (by simp <;> omega) (set_held (by simp <;> omega) (set_held (by simp <;> omega) (set_held (by simp <;> omega) (set_last (by simp <;> omega)))))) (by assumption))))
      (first
        | (go_at_call 91; obtain ⟨_, _, _, _, hB1, hR1⟩ := ‹_ ∧ _ ∧ _ ∧ _ ∧ Below _ _ _ ∧ _›; refine (nat_Add _ (hu.below hB1) (hv.below hB1) (by omega) (by omega)).mono ?_; rintro e w1 ⟨r, rfl, hr0, hb⟩; have hr := Own.new hr0 (Lim_dig _))
        | (go_at_call 90; obtain ⟨_, _, _, _, hB1, hR1⟩ := ‹_ ∧ _ ∧ _ ∧ _ ∧ Below _ _ _ ∧ _›; refine (int_Make _ hr hL).mono ?_; rintro e w2 ⟨r2, rfl, ⟨u2, rfl, hr2⟩, hb2⟩; obtain ⟨A3, C3, rfl⟩ := hr2.slice; obtain ⟨⟨⟨x4, h4⟩, f4⟩, ⟨x5, h5⟩, f5⟩ := And.intro ((hR1.below hb2).2 0 (by omega)) ((hR1.below hb2).2 1 (by omega))))
    go_wp2_with fail
    refine bodyPost_ret (v := .agg #[.bool (decide (iv na (dig (nv a + nv b)) < 0)), .slice A3 (dig (iv na (dig (nv a + nv b))).natAbs).length C3]) (by simp [results, Try.results55, go_sem, h4, h5]) rfl ?_
    rw [hsum.out]
    exact ⟨_, rfl, IntV.stored (by omega) hR1 hr2 hb2, hB1.after (by have := hR1.1; omega) hb2 |>.setCell (by simp; omega) _ |>.setCell (by simp; omega) _⟩
end Go.Proofs.Ytdbpjnjgjmfomaa
