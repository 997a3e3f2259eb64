/- The program's ratios, seventh part: Make, Of, Div, Sign. -/
import Derived.Test.YtdbpjnjgjmfomaaRat6
namespace Go.Proofs.Ytdbpjnjgjmfomaa
open Go.RowKit

theorem make_eq (na nb : Bool) (a b : List Int) : ((iv (!na == nb) a : Int) : Rat) / ((nv b : Nat) : Rat) = ((iv na a : Int) : Rat) / ((iv nb b : Int) : Rat) := by
  unfold iv
  cases na <;> cases nb <;> simp only [Bool.not_false, Bool.not_true, beq_self_eq_true, Bool.true_beq, Bool.false_beq, if_true, Bool.false_eq_true, if_false, Rat.intCast_neg, Rat.intCast_natCast] <;> grind
theorem iv_zero {neg : Bool} {l : List Int} : iv neg l = 0 ↔ nv l = 0 := by unfold iv; split <;> omega

set_option maxHeartbeats 8000000 in
set_option maxRecDepth 100000 in
theorem rat_Make {S T : Nat → Prop} {v u : Value} {x y : Int} {m n : Nat} (w : World) (hv : IntI S w v x m) (hu : IntI T w u y n) (hm : m ≤ 35184372088829) (hn : n ≤ 35184372088829) :
    Calls Try.prog 58 #[v, u] w fun e w' => ∃ r, e = .returned (.tuple #[r, .bool (decide (y ≠ 0))]) ∧ RatV (New w) w' r ((x : Rat) / (y : Rat)) ∧ Below w.heap.size w w' := by
  obtain ⟨na, u1, a, rfl, ha, rfl, hla⟩ := hv
  obtain ⟨nb, u2, b, rfl, hb, rfl, hlb⟩ := hu
  obtain ⟨A, c, rfl⟩ := ha.slice
  obtain ⟨B, d, rfl⟩ := hb.slice
  have hz := @iv_zero nb b
  have hme := make_eq na nb a b
  obtain ⟨q, hq⟩ : ∃ q, ((iv na a : Int) : Rat) / ((iv nb b : Int) : Rat) = q := ⟨_, rfl⟩
  rw [hq] at hme ⊢
  have hq0 : nv b = 0 → q = 0 := fun h => by rw [← hme]; exact low_zero _ _ (.inr h)
  generalize hy : decide (iv nb b ≠ 0) = Y
  replace hq := As.mk hq
  replace hme := As.mk hme
  replace hq0 := As.mk hq0
  have hY : As (Y = decide (nv b ≠ 0)) := ⟨by rw [← hy]; exact decide_eq_decide.2 (not_congr hz)⟩
  clear hy hz
  go_enter Try.func58, Try.ntmps58
  go_wp2_with fail
  obtain ⟨W, hW⟩ : ∃ W, (((w.alloc (Obj.cells #[Value.bool na, Value.slice A a.length c] 38)).alloc (Obj.cells #[Value.bool nb, Value.slice B b.length d] 38)).alloc (Obj.cells #[Value.bool false, Value.slice none 0 0, Value.slice none 0 0] 40)) = W := ⟨_, rfl⟩
  have hs : W.heap.size = w.heap.size + 3 := by rw [← hW]; simp
  have hB : Below w.heap.size w W := by rw [← hW]; exact ((((Below.refl _ _).alloc (by simp <;> omega) _).alloc (by simp <;> omega) _).alloc (by simp <;> omega) _)
  have cc0 : W.cell? ⟨w.heap.size, 0, none⟩ = some (.bool na) := by subst hW; simp [go_sem]
  have cc1 : W.cell? ⟨w.heap.size, 1, none⟩ = some (.slice A a.length c) := by subst hW; simp [go_sem]
  have cc2 : W.cell? ⟨w.heap.size + 1, 0, none⟩ = some (.bool nb) := by subst hW; simp [go_sem]
  have cc3 : W.cell? ⟨w.heap.size + 1, 1, none⟩ = some (.slice B b.length d) := by subst hW; simp [go_sem]
  have hR2 : Res W (w.heap.size + 2) 3 := ⟨by omega, fun i hi => by
    subst hW
    rcases (by omega : i = 0 ∨ i = 1 ∨ i = 2) with rfl | rfl | rfl
    · exact ⟨⟨.bool false, by simp [go_sem]⟩, by simp [go_sem]⟩
    · exact ⟨⟨.slice none 0 0, by simp [go_sem]⟩, by simp [go_sem]⟩
    · exact ⟨⟨.slice none 0 0, by simp [go_sem]⟩, by simp [go_sem]⟩⟩
  rw [hW]
  clear hW
  have hS : W.cell? ⟨w.heap.size, 0, none⟩ = some (.bool na) ∧ W.cell? ⟨w.heap.size, 1, none⟩ = some (.slice A a.length c) ∧ W.cell? ⟨w.heap.size + 1, 0, none⟩ = some (.bool nb) ∧ W.cell? ⟨w.heap.size + 1, 1, none⟩ = some (.slice B b.length d) ∧ Below w.heap.size w W ∧ Res W (w.heap.size + 2) 3 := ⟨cc0, cc1, cc2, cc3, hB, hR2⟩
  clear cc0 cc1 cc2 cc3 hR2
  refine (nat_Bits _ (hb.below hB) (by omega)).mono ?_
  rintro e w1 ⟨k, rfl, hk, ⟨m1, rfl⟩⟩
  replace hS := (keep_and (keep_and (keep_and (keep_and (keep_B (Res.below)))))) hS ((Below.refl _ _).drewsN m1)
  clear hB
  generalize W.drewN m1 = W1 at *
  obtain ⟨cc0, cc1, cc2, cc3, hB, hR2⟩ := id hS
  rcases Nat.eq_zero_or_pos k with rfl | hkp
  · have hb0 := As.mk (hk.1 rfl)
    clear hk
    go_wp2_with fail
    refine (rat_zero _).mono ?_
    rintro e w3 ⟨r, rfl, hL, hb⟩
    obtain ⟨A7, c7, B7, d7, rfl⟩ := hL.slice
    have hst := fun x y z => RatV.stored (x := x) (y := y) (z := z) (show w.heap.size ≤ w.heap.size + 2 by omega) hS.2.2.2.2.2 hL
    replace hS := (keep_and (keep_and (keep_and (keep_and (keep_B (Res.below)))))) hS hb
    obtain ⟨⟨⟨x4, h4⟩, f4⟩, ⟨⟨x5, h5⟩, f5⟩, ⟨x6, h6⟩, f6⟩ := And.intro (hS.2.2.2.2.2.2 0 (by omega)) (And.intro (hS.2.2.2.2.2.2 1 (by omega)) (hS.2.2.2.2.2.2 2 (by omega)))
    have hB9 := As.mk hS.2.2.2.2.1
    replace hst := As.mk hst
    clear hS hL hb
    go_wp2_with fail
    refine bodyPost_ret (v := .tuple #[.agg #[.bool (decide ((0 : Rat).num < 0)), .slice A7 (sz (0 : Rat).num) c7, .slice B7 (dig (0 : Rat).den).length d7], .bool false]) (by simp [results, Try.results58, go_sem, h4, h5, h6]) rfl ?_
    rw [show Y = false from hY.out.trans (decide_eq_false (fun h => h hb0.out)), show q = 0 from hq0.out hb0.out]
    exact ⟨_, rfl, hst.out _ _ _, ((hB9.out.setCell (by simp <;> omega) _).setCell (by simp <;> omega) _).setCell (by simp <;> omega) _⟩
  · have hk0 : ((k : Int) == 0) = false := beq_eq_false_iff_ne.2 (by omega)
    have hbp := As.mk (show nv b ≠ 0 from fun h => by have := hk.2 h; omega)
    replace hk := As.mk hk
    go_wp2_with fail
    have hx : IntI S W1 (.agg #[.bool (!na == nb), .slice A a.length c]) (iv (!na == nb) a) m := ⟨_, _, a, rfl, ha.below hB, rfl, hla⟩
    refine (rat_lowest _ hx (hb.below hB) hm (by omega)).mono ?_
    rintro e w3 ⟨r, rfl, hL, hb⟩
    obtain ⟨A7, c7, B7, d7, rfl⟩ := hL.slice
    have hst := fun x y z => RatV.stored (x := x) (y := y) (z := z) (show w.heap.size ≤ w.heap.size + 2 by omega) hS.2.2.2.2.2 hL
    replace hS := (keep_and (keep_and (keep_and (keep_and (keep_B (Res.below)))))) hS hb
    obtain ⟨⟨⟨x4, h4⟩, f4⟩, ⟨⟨x5, h5⟩, f5⟩, ⟨x6, h6⟩, f6⟩ := And.intro (hS.2.2.2.2.2.2 0 (by omega)) (And.intro (hS.2.2.2.2.2.2 1 (by omega)) (hS.2.2.2.2.2.2 2 (by omega)))
    have hB9 := As.mk hS.2.2.2.2.1
    replace hst := As.mk hst
    clear hS hL hb
    go_wp2_with fail
    refine bodyPost_ret (v := .tuple #[.agg #[.bool (decide ((((iv (!na == nb) a : Int) : Rat) / ((nv b : Nat) : Rat)).num < 0)), .slice A7 (sz (((iv (!na == nb) a : Int) : Rat) / ((nv b : Nat) : Rat)).num) c7, .slice B7 (dig (((iv (!na == nb) a : Int) : Rat) / ((nv b : Nat) : Rat)).den).length d7], .bool true]) (by simp [results, Try.results58, go_sem, h4, h5, h6]) rfl ?_
    rw [show Y = true from hY.out.trans (decide_eq_true hbp.out)]
    have hst2 := hst.out
    rw [hme.out] at hst2 ⊢
    exact ⟨_, rfl, hst2 _ _ _, ((hB9.out.setCell (by simp <;> omega) _).setCell (by simp <;> omega) _).setCell (by simp <;> omega) _⟩
end Go.Proofs.Ytdbpjnjgjmfomaa
