/- Joined texts: Rat5, Rat6, Rat7, Rat8, Cls1, Cls2, RatSz, Cov, Cls3, Tab, OwnI, Cel, Swap, Rotate, Sym1. -/
import Derived.Test.YtdbpjnjgjmfomaaJClassicalCounted2
import Derived.BigRegion
/- The program's ratios, fifth part: Add and Sub. -/
namespace Go.Proofs.Ytdbpjnjgjmfomaa
open Go.RowKit

theorem NumV.posI {S : Nat → Prop} {w : World} {v : Value} {D n : Nat} (h : NumV S w v (dig D)) (hl : (dig D).length ≤ n) : IntI S w (.agg #[.bool false, v]) ((D : Nat) : Int) n :=
  ⟨false, v, dig D, rfl, h, by show ((nv (dig D) : Nat) : Int) = _; rw [nv_dig], hl⟩
theorem sz_add (x y : Int) : sz (x + y) ≤ max (sz x) (sz y) + 1 := by
  unfold sz
  exact Nat.le_trans (dig_len_mono (Int.natAbs_add_le x y)) (dig_len_add _ _)
theorem sz_sub (x y : Int) : sz (x - y) ≤ max (sz x) (sz y) + 1 := by
  have := sz_add x (-y)
  rwa [sz_neg, ← Int.sub_eq_add_neg] at this
theorem rat_add_eq (z1 z2 : Int) (D1 D2 : Nat) (h1 : 0 < D1) (h2 : 0 < D2) : ((z1 * (D2 : Nat) + z2 * (D1 : Nat) : Int) : Rat) / ((D1 * D2 : Nat) : Rat) = ((z1 : Rat) / (D1 : Rat)) + ((z2 : Rat) / (D2 : Rat)) := by
  have e1 : (D1 : Rat) ≠ 0 := by simp; omega
  have e2 : (D2 : Rat) ≠ 0 := by simp; omega
  rw [Rat.intCast_add, Rat.intCast_mul, Rat.intCast_mul, Rat.natCast_mul, Rat.intCast_natCast, Rat.intCast_natCast]; grind
theorem rat_sub_eq (z1 z2 : Int) (D1 D2 : Nat) (h1 : 0 < D1) (h2 : 0 < D2) : ((z1 * (D2 : Nat) - z2 * (D1 : Nat) : Int) : Rat) / ((D1 * D2 : Nat) : Rat) = ((z1 : Rat) / (D1 : Rat)) - ((z2 : Rat) / (D2 : Rat)) := by
  have e1 : (D1 : Rat) ≠ 0 := by simp; omega
  have e2 : (D2 : Rat) ≠ 0 := by simp; omega
  rw [Rat.intCast_sub, Rat.intCast_mul, Rat.intCast_mul, Rat.natCast_mul, Rat.intCast_natCast, Rat.intCast_natCast]; grind

set_option maxHeartbeats 8000000 in
set_option maxRecDepth 100000 in
theorem rat_Add {S T : Nat → Prop} {v u : Value} {p q : Rat} {m n : Nat} (w : World) (hv : RatI S w v p m) (hu : RatI T w u q n) (h1 : 1 ≤ m) (h2 : 1 ≤ n) (hm : m + n ≤ 35184372088828) :
    Calls Try.prog 24 #[v, u] w fun e w' => ∃ r, e = .returned r ∧ RatV (New w) w' r (p + q) ∧ Below w.heap.size w w' := by
  obtain ⟨na, u1, e1, a1, t1, rfl, ha1, ht1, hq1, hla1, hlt1⟩ := id hv
  obtain ⟨nb, u2, e2, a2, t2, rfl, ha2, ht2, hq2, hla2, hlt2⟩ := id hu
  obtain ⟨A1, c1, rfl⟩ := ha1.slice
  obtain ⟨B1, d1, rfl⟩ := ht1.slice
  obtain ⟨A2, c2, rfl⟩ := ha2.slice
  obtain ⟨B2, d2, rfl⟩ := ht2.slice
  have hv0 := hv.mono (T := fun k => k < w.heap.size) (fun k _ h2 => h2)
  have hu0 := hu.mono (T := fun k => k < w.heap.size) (fun k _ h2 => h2)
  clear hv hu ha1 ht1 ha2 ht2 hq1 hq2
  go_enter Try.func24, Try.ntmps24
  go_wp2_with fail
  obtain ⟨W, hW⟩ : ∃ W, (((w.alloc (Obj.cells #[Value.bool na, Value.slice A1 a1.length c1, Value.slice B1 t1.length d1] 40)).alloc (Obj.cells #[Value.bool nb, Value.slice A2 a2.length c2, Value.slice B2 t2.length d2] 40)).alloc (Obj.cells #[Value.bool false, Value.slice none 0 0, Value.slice none 0 0] 40)) = W := ⟨_, rfl⟩
  have hs : W.heap.size = w.heap.size + 3 := by rw [← hW]; simp
  have hB : Below w.heap.size w W := by rw [← hW]; exact ((((Below.refl _ _).alloc (by simp <;> omega) _).alloc (by simp <;> omega) _).alloc (by simp <;> omega) _)
  have cc0 : W.cell? ⟨w.heap.size, 0, none⟩ = some (.bool na) := by subst hW; simp [go_sem]
  have cc1 : W.cell? ⟨w.heap.size, 1, none⟩ = some (.slice A1 a1.length c1) := by subst hW; simp [go_sem]
  have cc2 : W.cell? ⟨w.heap.size, 2, none⟩ = some (.slice B1 t1.length d1) := by subst hW; simp [go_sem]
  have cc3 : W.cell? ⟨w.heap.size + 1, 0, none⟩ = some (.bool nb) := by subst hW; simp [go_sem]
  have cc4 : W.cell? ⟨w.heap.size + 1, 1, none⟩ = some (.slice A2 a2.length c2) := by subst hW; simp [go_sem]
  have cc5 : W.cell? ⟨w.heap.size + 1, 2, none⟩ = some (.slice B2 t2.length d2) := by subst hW; simp [go_sem]
  have hR2 : Res W (w.heap.size + 2) 3 := ⟨by omega, fun i hi => by
    subst hW
    rcases (by omega : i = 0 ∨ i = 1 ∨ i = 2) with rfl | rfl | rfl
    · exact ⟨⟨.bool false, by simp [go_sem]⟩, by simp [go_sem]⟩
    · exact ⟨⟨.slice none 0 0, by simp [go_sem]⟩, by simp [go_sem]⟩
    · exact ⟨⟨.slice none 0 0, by simp [go_sem]⟩, by simp [go_sem]⟩⟩
  rw [hW]
  clear hW
  have hS : W.cell? ⟨w.heap.size, 0, none⟩ = some (.bool na) ∧ W.cell? ⟨w.heap.size, 1, none⟩ = some (.slice A1 a1.length c1) ∧ W.cell? ⟨w.heap.size, 2, none⟩ = some (.slice B1 t1.length d1) ∧ W.cell? ⟨w.heap.size + 1, 0, none⟩ = some (.bool nb) ∧ W.cell? ⟨w.heap.size + 1, 1, none⟩ = some (.slice A2 a2.length c2) ∧ W.cell? ⟨w.heap.size + 1, 2, none⟩ = some (.slice B2 t2.length d2) ∧ Below w.heap.size w W ∧ Res W (w.heap.size + 2) 3 := ⟨cc0, cc1, cc2, cc3, cc4, cc5, hB, hR2⟩
  refine (rat_parts _ (hv0.below hB) h1 (by omega)).mono ?_
  rintro e w1 ⟨r1, s1, z1, D1, rfl, hr1, hs1, hD1, hl1, hq1, hb1⟩
  replace hr1 := hr1.mono (T := fun k => k < w.heap.size) (fun k h _ => h)
  obtain ⟨As1, cs1, rfl, hns1⟩ := hs1.pos
  replace hns1 := hns1.mono (T := fun k => w.heap.size + 3 ≤ k ∧ k < w1.heap.size) (fun k h1 h2 => ⟨by have : W.heap.size ≤ k := h1; omega, h2⟩)
  replace hS := (keep_and (keep_and (keep_and (keep_and (keep_and (keep_and (keep_B (Res.below)))))))) hS hb1
  have hz1 : w.heap.size + 3 ≤ w1.heap.size := by have := hb1.size; omega
  clear cc0 cc1 cc2 cc3 cc4 cc5 hB hb1 hR2
  obtain ⟨cc0, cc1, cc2, cc3, cc4, cc5, hB, hR2⟩ := id hS
  obtain ⟨nr, ur, lr, rfl, hur, hzr, hlr⟩ := id hr1
  obtain ⟨Ar, cr, rfl⟩ := hur.slice
  clear hur hzr hs1
  have l0 : w.heap.size < w1.heap.size := by omega
  have l1 : w.heap.size + 1 < w1.heap.size := by omega
  have l2 : w.heap.size + 2 < w1.heap.size := by omega
  go_wp2_with fail
  obtain ⟨W2, hW2⟩ : ∃ W2, ((w1.alloc (Obj.cells #[Value.bool nr, Value.slice Ar lr.length cr] 38)).alloc (Obj.cells #[Value.bool false, Value.slice As1 (dig D1).length cs1] 38)) = W2 := ⟨_, rfl⟩
  have hs2 : W2.heap.size = w1.heap.size + 2 := by rw [← hW2]; simp
  have hb12 : Below w1.heap.size w1 W2 := by rw [← hW2]; exact ((Below.refl _ _).alloc (by simp) _).alloc (by simp) _
  have k0 : W2.cell? ⟨w1.heap.size, 0, none⟩ = some (.bool nr) := by subst hW2; simp [go_sem]
  have k1 : W2.cell? ⟨w1.heap.size, 1, none⟩ = some (.slice Ar lr.length cr) := by subst hW2; simp [go_sem]
  have k2 : W2.cell? ⟨w1.heap.size + 1, 0, none⟩ = some (.bool false) := by subst hW2; simp [go_sem]
  have k3 : W2.cell? ⟨w1.heap.size + 1, 1, none⟩ = some (.slice As1 (dig D1).length cs1) := by subst hW2; simp [go_sem]
  rw [hW2]
  clear hW2
  replace hr1 := hr1.below hb12
  replace hns1 := hns1.below hb12
  replace hS := (keep_and (keep_and (keep_and (keep_and (keep_and (keep_and (keep_B (Res.below)))))))) hS hb12
  clear cc0 cc1 cc2 cc3 cc4 cc5 hB hb12 hR2
  obtain ⟨cc0, cc1, cc2, cc3, cc4, cc5, hB, hR2⟩ := id hS
  refine (rat_parts _ (hu0.below hB) h2 (by omega)).mono ?_
  rintro e w3 ⟨r2, s2, z2, D2, rfl, hr2, hs2', hD2, hl2, hq2, hb3⟩
  replace hr2 := hr2.mono (T := fun k => k < w.heap.size) (fun k h _ => h)
  obtain ⟨As2, cs2, rfl, hns2⟩ := hs2'.pos
  replace hns2 := hns2.mono (T := fun k => w.heap.size + 3 ≤ k ∧ k < w3.heap.size) (fun k h1 h2 => ⟨by have : W2.heap.size ≤ k := h1; omega, h2⟩)
  replace hS := (keep_and (keep_and (keep_and (keep_and (keep_and (keep_and (keep_B (Res.below)))))))) hS hb3
  have hk := (keep_and (keep_and (keep_and keep_cell))) ⟨k0, k1, k2, k3⟩ hb3
  replace hr1 := hr1.below hb3
  replace hns1 := hns1.below hb3
  have l3 : w1.heap.size + 2 ≤ w3.heap.size := by have := hb3.size; omega
  clear cc0 cc1 cc2 cc3 cc4 cc5 hB hb3 k0 k1 k2 k3 hs2 hR2 hs2'
  obtain ⟨cc0, cc1, cc2, cc3, cc4, cc5, hB, hR2⟩ := id hS
  obtain ⟨k0, k1, k2, k3⟩ := id hk
  obtain ⟨nr2, ur2, lr2, rfl, hur2, hzr2, hlr2⟩ := id hr2
  obtain ⟨Ar2, cr2, rfl⟩ := hur2.slice
  clear hur2 hzr2
  go_wp2_with fail
  obtain ⟨W4, hW4⟩ : ∃ W4, ((w3.alloc (Obj.cells #[Value.bool nr2, Value.slice Ar2 lr2.length cr2] 38)).alloc (Obj.cells #[Value.bool false, Value.slice As2 (dig D2).length cs2] 38)) = W4 := ⟨_, rfl⟩
  have hb34 : Below w3.heap.size w3 W4 := by rw [← hW4]; exact ((Below.refl _ _).alloc (by simp) _).alloc (by simp) _
  have k4 : W4.cell? ⟨w3.heap.size, 0, none⟩ = some (.bool nr2) := by subst hW4; simp [go_sem]
  have k5 : W4.cell? ⟨w3.heap.size, 1, none⟩ = some (.slice Ar2 lr2.length cr2) := by subst hW4; simp [go_sem]
  have k6 : W4.cell? ⟨w3.heap.size + 1, 0, none⟩ = some (.bool false) := by subst hW4; simp [go_sem]
  have k7 : W4.cell? ⟨w3.heap.size + 1, 1, none⟩ = some (.slice As2 (dig D2).length cs2) := by subst hW4; simp [go_sem]
  rw [hW4]
  clear hW4
  replace hr1 := hr1.below hb34
  replace hns1 := hns1.below hb34
  replace hr2 := hr2.below hb34
  replace hns2 := hns2.below hb34
  replace hS := (keep_and (keep_and (keep_and (keep_and (keep_and (keep_and (keep_B (Res.below)))))))) hS hb34
  replace hk := (keep_and (keep_and (keep_and keep_cell))) hk hb34
  clear cc0 cc1 cc2 cc3 cc4 cc5 hB hb34 k0 k1 k2 k3 hR2
  obtain ⟨cc0, cc1, cc2, cc3, cc4, cc5, hB, hR2⟩ := id hS
  obtain ⟨k0, k1, k2, k3⟩ := id hk
  clear cc0 cc1 cc2 cc3 cc4 cc5 hS hk l0 l1
  generalize w1.heap.size = N1 at *
  generalize w3.heap.size = N2 at *
  have hmn : m + n ≤ 35184372088830 := by omega
  have hnm : n + m ≤ 35184372088830 := by omega
  have hs1 : sz (z1 * (D2 : Nat)) ≤ 35184372088829 := by have := sz_mul z1 (D2 : Nat); have := hr1.sz; have : sz ((D2 : Nat) : Int) = (dig D2).length := rfl; omega
  have hs2 : sz (z2 * (D1 : Nat)) ≤ 35184372088829 := by have := sz_mul z2 (D1 : Nat); have := hr2.sz; have : sz ((D1 : Nat) : Int) = (dig D1).length := rfl; omega
  have hlm : sz (z1 * (D2 : Nat) + z2 * (D1 : Nat)) ≤ 35184372088829 := by
    have := sz_mul z1 (D2 : Nat); have := hr1.sz; have : sz ((D2 : Nat) : Int) = (dig D2).length := rfl
    have := sz_mul z2 (D1 : Nat); have := hr2.sz; have : sz ((D1 : Nat) : Int) = (dig D1).length := rfl
    have := sz_add (z1 * (D2 : Nat)) (z2 * (D1 : Nat))
    omega
  have hQ : As ((((z1 * (D2 : Nat) + z2 * (D1 : Nat) : Int) : Rat) / ((nv (dig (D1 * D2)) : Nat) : Rat)) = p + q) := ⟨by rw [nv_dig, rat_add_eq _ _ _ _ hD1 hD2, hq1, hq2]⟩
  have hln : (dig (D1 * D2)).length ≤ 35184372088829 := by have := dig_len_mul D1 D2; omega
  go_region_held3 (fun w' => w'.cell? ⟨N1, 0, none⟩ = some (.bool nr) ∧ w'.cell? ⟨N1, 1, none⟩ = some (.slice Ar lr.length cr) ∧ w'.cell? ⟨N1 + 1, 0, none⟩ = some (.bool false) ∧ w'.cell? ⟨N1 + 1, 1, none⟩ = some (.slice As1 (dig D1).length cs1) ∧ w'.cell? ⟨N2, 0, none⟩ = some (.bool nr2) ∧ w'.cell? ⟨N2, 1, none⟩ = some (.slice Ar2 lr2.length cr2) ∧ w'.cell? ⟨N2 + 1, 0, none⟩ = some (.bool false) ∧ w'.cell? ⟨N2 + 1, 1, none⟩ = some (.slice As2 (dig D2).length cs2) ∧ IntI (fun k => k < w.heap.size) w' (Value.agg #[Value.bool nr, Value.slice Ar lr.length cr]) z1 m ∧ IntI (fun k => k < w.heap.size) w' (Value.agg #[Value.bool nr2, Value.slice Ar2 lr2.length cr2]) z2 n ∧ NumV (fun k => w.heap.size + 3 ≤ k ∧ k < N1) w' (Value.slice As1 (dig D1).length cs1) (dig D1) ∧ NumV (fun k => w.heap.size + 3 ≤ k ∧ k < N2) w' (Value.slice As2 (dig D2).length cs2) (dig D2) ∧ Below w.heap.size w w' ∧ Res w' (w.heap.size + 2) 3)
    ((first
      | exact (keep_and (keep_and (keep_and (keep_and (keep_and (keep_and (keep_and (keep_and (keep_p IntI.below (keep_p IntI.below (keep_p NumV.below (keep_p NumV.below (keep_B (Res.below)))))))))))))) ⟨k0, k1, k2, k3, k4, k5, k6, k7, hr1, hr2, hns1, hns2, hB, hR2⟩ (below_drew _)
      | exact (keep_and (keep_and (keep_and (keep_and (keep_and (keep_and (keep_and (keep_and (keep_p IntI.below (keep_p IntI.below (keep_p NumV.below (keep_p NumV.below (keep_B (Res.below)))))))))))))) (by assumption) (below_drew _)
      | exact (keep_and (keep_and (keep_and (keep_and (keep_and (keep_and (keep_and (keep_and (keep_p IntI.below (keep_p IntI.below (keep_p NumV.below (keep_p NumV.below (keep_B (Res.below)))))))))))))) (by assumption) (by assumption)
      | exact (set_held (by simp <;> omega) (set_held (by simp <;> omega) (set_held (by simp <;> omega) (set_held (by simp <;> omega) (set_held (by simp <;> omega) (set_held (by simp <;> omega) (set_held (by simp <;> omega) (set_held (by simp <;> omega) (set_p (set_I (by intro k hk; simp <;> omega)) (set_p (set_I (by intro k hk; simp <;> omega)) (set_p (set_N (by simp <;> omega)) (set_p (set_N (by simp <;> omega)) (set_B (by simp <;> omega) (set_R1)))))))))))))) ((set_held (by simp <;> omega) (set_held (by simp <;> omega) (set_held (by simp <;> omega) (set_held (by simp <;> omega) (set_held (by simp <;> omega) (set_held (by simp <;> omega) (set_held (by simp <;> omega) (set_held (by simp <;> omega) (set_p (set_I (by intro k hk; simp <;> omega)) (set_p (set_I (by intro k hk; simp <;> omega)) (set_p (set_N (by simp <;> omega)) (set_p (set_N (by simp <;> omega)) (set_B (by simp <;> omega) (set_R1)))))))))))))) ((set_held (by simp <;> omega) (set_held (by simp <;> omega) (set_held (by simp <;> omega) (set_held (by simp <;> omega) (set_held (by simp <;> omega) (set_held (by simp <;> omega) (set_held (by simp <;> omega) (set_held (by simp <;> omega) (set_p (set_I (by intro k hk; simp <;> omega)) (set_p (set_I (by intro k hk; simp <;> omega)) (set_p (set_N (by simp <;> omega)) (set_p (set_N (by simp <;> omega)) (set_B (by simp <;> omega) (set_R1)))))))))))))) (by assumption)))))
    (first
      | (go_at_call 56; obtain ⟨_, _, _, _, _, _, _, _, hI1, hI2, hN1, hN2, hB1, hRg13⟩ := ‹(_ = some _) ∧ (_ = some _) ∧ (_ = some _) ∧ (_ = some _) ∧ (_ = some _) ∧ (_ = some _) ∧ (_ = some _) ∧ (_ = some _) ∧ IntI _ _ _ _ _ ∧ IntI _ _ _ _ _ ∧ NumV _ _ _ _ ∧ NumV _ _ _ _ ∧ Below _ _ _ ∧ Res _ _ _›; first | (with_reducible refine (int_mul _ hI1 (hN2.posI hl2) hmn).mono ?_; rintro e w5 ⟨r5, rfl, hM1, hb⟩; (try replace hM2 := hM2.below hb); (try replace hN := hN.below hb)) | (with_reducible refine (int_mul _ hI2 (hN1.posI hl1) hnm).mono ?_; rintro e w5 ⟨r5, rfl, hM2, hb⟩; (try replace hM1 := hM1.below hb); (try replace hN := hN.below hb)))
      | (go_at_call 55; obtain ⟨_, _, _, _, _, _, _, _, hI1, hI2, hN1, hN2, hB1, hRg13⟩ := ‹(_ = some _) ∧ (_ = some _) ∧ (_ = some _) ∧ (_ = some _) ∧ (_ = some _) ∧ (_ = some _) ∧ (_ = some _) ∧ (_ = some _) ∧ IntI _ _ _ _ _ ∧ IntI _ _ _ _ _ ∧ NumV _ _ _ _ ∧ NumV _ _ _ _ ∧ Below _ _ _ ∧ Res _ _ _›; refine (int_Add _ hM1.i hM2.i hs1 hs2).mono ?_; rintro e w5 ⟨r6, rfl, hA, hb⟩; (try replace hN := hN.below hb))
      | (go_at_call 57; obtain ⟨_, _, _, _, _, _, _, _, hI1, hI2, hN1, hN2, hB1, hRg13⟩ := ‹(_ = some _) ∧ (_ = some _) ∧ (_ = some _) ∧ (_ = some _) ∧ (_ = some _) ∧ (_ = some _) ∧ (_ = some _) ∧ (_ = some _) ∧ IntI _ _ _ _ _ ∧ IntI _ _ _ _ _ ∧ NumV _ _ _ _ ∧ NumV _ _ _ _ ∧ Below _ _ _ ∧ Res _ _ _›; refine (nat_Mul _ hN1 hN2 (by omega)).mono ?_; rintro e w5 ⟨r8, rfl, hN, hb⟩; rw [nv_dig, nv_dig] at hN; (try replace hM1 := hM1.below hb); (try replace hM2 := hM2.below hb); (try replace hA := hA.below hb))
      | (go_at_call 54; obtain ⟨_, _, _, _, _, _, _, _, hI1, hI2, hN1, hN2, hB1, hRg13⟩ := ‹(_ = some _) ∧ (_ = some _) ∧ (_ = some _) ∧ (_ = some _) ∧ (_ = some _) ∧ (_ = some _) ∧ (_ = some _) ∧ (_ = some _) ∧ IntI _ _ _ _ _ ∧ IntI _ _ _ _ _ ∧ NumV _ _ _ _ ∧ NumV _ _ _ _ ∧ Below _ _ _ ∧ Res _ _ _›; refine (rat_lowest _ hA.i hN hlm hln).mono ?_; rintro e w7 ⟨r7, rfl, hL, hb⟩; obtain ⟨A7, c7, B7, d7, rfl⟩ := hL.slice; obtain ⟨⟨⟨x4, h4⟩, f4⟩, ⟨⟨x5, h5⟩, f5⟩, ⟨x6, h6⟩, f6⟩ := And.intro ((hRg13.below hb).2 0 (by omega)) (And.intro ((hRg13.below hb).2 1 (by omega)) ((hRg13.below hb).2 2 (by omega)))))
  all_goals
    go_wp2_with fail
    refine bodyPost_ret (v := .agg #[.bool (decide ((((z1 * (D2 : Nat) + z2 * (D1 : Nat) : Int) : Rat) / ((nv (dig (D1 * D2)) : Nat) : Rat)).num < 0)), .slice A7 (sz (((z1 * (D2 : Nat) + z2 * (D1 : Nat) : Int) : Rat) / ((nv (dig (D1 * D2)) : Nat) : Rat)).num) c7, .slice B7 (dig (((z1 * (D2 : Nat) + z2 * (D1 : Nat) : Int) : Rat) / ((nv (dig (D1 * D2)) : Nat) : Rat)).den).length d7]) (by simp [results, Try.results24, go_sem, h4, h5, h6]) rfl ?_
    have hst := fun x y z => RatV.stored (x := x) (y := y) (z := z) (show w.heap.size ≤ w.heap.size + 2 by omega) hRg13 hL
    rw [hQ.out] at hst ⊢
    exact ⟨_, rfl, hst _ _ _, (((hB1.after hB1.size hb).setCell (by simp <;> omega) _).setCell (by simp <;> omega) _).setCell (by simp <;> omega) _⟩

set_option maxHeartbeats 8000000 in
set_option maxRecDepth 100000 in
theorem rat_Sub {S T : Nat → Prop} {v u : Value} {p q : Rat} {m n : Nat} (w : World) (hv : RatI S w v p m) (hu : RatI T w u q n) (h1 : 1 ≤ m) (h2 : 1 ≤ n) (hm : m + n ≤ 35184372088828) :
    Calls Try.prog 29 #[v, u] w fun e w' => ∃ r, e = .returned r ∧ RatV (New w) w' r (p - q) ∧ Below w.heap.size w w' := by
  obtain ⟨na, u1, e1, a1, t1, rfl, ha1, ht1, hq1, hla1, hlt1⟩ := id hv
  obtain ⟨nb, u2, e2, a2, t2, rfl, ha2, ht2, hq2, hla2, hlt2⟩ := id hu
  obtain ⟨A1, c1, rfl⟩ := ha1.slice
  obtain ⟨B1, d1, rfl⟩ := ht1.slice
  obtain ⟨A2, c2, rfl⟩ := ha2.slice
  obtain ⟨B2, d2, rfl⟩ := ht2.slice
  have hv0 := hv.mono (T := fun k => k < w.heap.size) (fun k _ h2 => h2)
  have hu0 := hu.mono (T := fun k => k < w.heap.size) (fun k _ h2 => h2)
  clear hv hu ha1 ht1 ha2 ht2 hq1 hq2
  go_enter Try.func29, Try.ntmps29
  go_wp2_with fail
  obtain ⟨W, hW⟩ : ∃ W, (((w.alloc (Obj.cells #[Value.bool na, Value.slice A1 a1.length c1, Value.slice B1 t1.length d1] 40)).alloc (Obj.cells #[Value.bool nb, Value.slice A2 a2.length c2, Value.slice B2 t2.length d2] 40)).alloc (Obj.cells #[Value.bool false, Value.slice none 0 0, Value.slice none 0 0] 40)) = W := ⟨_, rfl⟩
  have hs : W.heap.size = w.heap.size + 3 := by rw [← hW]; simp
  have hB : Below w.heap.size w W := by rw [← hW]; exact ((((Below.refl _ _).alloc (by simp <;> omega) _).alloc (by simp <;> omega) _).alloc (by simp <;> omega) _)
  have cc0 : W.cell? ⟨w.heap.size, 0, none⟩ = some (.bool na) := by subst hW; simp [go_sem]
  have cc1 : W.cell? ⟨w.heap.size, 1, none⟩ = some (.slice A1 a1.length c1) := by subst hW; simp [go_sem]
  have cc2 : W.cell? ⟨w.heap.size, 2, none⟩ = some (.slice B1 t1.length d1) := by subst hW; simp [go_sem]
  have cc3 : W.cell? ⟨w.heap.size + 1, 0, none⟩ = some (.bool nb) := by subst hW; simp [go_sem]
  have cc4 : W.cell? ⟨w.heap.size + 1, 1, none⟩ = some (.slice A2 a2.length c2) := by subst hW; simp [go_sem]
  have cc5 : W.cell? ⟨w.heap.size + 1, 2, none⟩ = some (.slice B2 t2.length d2) := by subst hW; simp [go_sem]
  have hR2 : Res W (w.heap.size + 2) 3 := ⟨by omega, fun i hi => by
    subst hW
    rcases (by omega : i = 0 ∨ i = 1 ∨ i = 2) with rfl | rfl | rfl
    · exact ⟨⟨.bool false, by simp [go_sem]⟩, by simp [go_sem]⟩
    · exact ⟨⟨.slice none 0 0, by simp [go_sem]⟩, by simp [go_sem]⟩
    · exact ⟨⟨.slice none 0 0, by simp [go_sem]⟩, by simp [go_sem]⟩⟩
  rw [hW]
  clear hW
  have hS : W.cell? ⟨w.heap.size, 0, none⟩ = some (.bool na) ∧ W.cell? ⟨w.heap.size, 1, none⟩ = some (.slice A1 a1.length c1) ∧ W.cell? ⟨w.heap.size, 2, none⟩ = some (.slice B1 t1.length d1) ∧ W.cell? ⟨w.heap.size + 1, 0, none⟩ = some (.bool nb) ∧ W.cell? ⟨w.heap.size + 1, 1, none⟩ = some (.slice A2 a2.length c2) ∧ W.cell? ⟨w.heap.size + 1, 2, none⟩ = some (.slice B2 t2.length d2) ∧ Below w.heap.size w W ∧ Res W (w.heap.size + 2) 3 := ⟨cc0, cc1, cc2, cc3, cc4, cc5, hB, hR2⟩
  refine (rat_parts _ (hv0.below hB) h1 (by omega)).mono ?_
  rintro e w1 ⟨r1, s1, z1, D1, rfl, hr1, hs1, hD1, hl1, hq1, hb1⟩
  replace hr1 := hr1.mono (T := fun k => k < w.heap.size) (fun k h _ => h)
  obtain ⟨As1, cs1, rfl, hns1⟩ := hs1.pos
  replace hns1 := hns1.mono (T := fun k => w.heap.size + 3 ≤ k ∧ k < w1.heap.size) (fun k h1 h2 => ⟨by have : W.heap.size ≤ k := h1; omega, h2⟩)
  replace hS := (keep_and (keep_and (keep_and (keep_and (keep_and (keep_and (keep_B (Res.below)))))))) hS hb1
  have hz1 : w.heap.size + 3 ≤ w1.heap.size := by have := hb1.size; omega
  clear cc0 cc1 cc2 cc3 cc4 cc5 hB hb1 hR2
  obtain ⟨cc0, cc1, cc2, cc3, cc4, cc5, hB, hR2⟩ := id hS
  obtain ⟨nr, ur, lr, rfl, hur, hzr, hlr⟩ := id hr1
  obtain ⟨Ar, cr, rfl⟩ := hur.slice
  clear hur hzr hs1
  have l0 : w.heap.size < w1.heap.size := by omega
  have l1 : w.heap.size + 1 < w1.heap.size := by omega
  have l2 : w.heap.size + 2 < w1.heap.size := by omega
  go_wp2_with fail
  obtain ⟨W2, hW2⟩ : ∃ W2, ((w1.alloc (Obj.cells #[Value.bool nr, Value.slice Ar lr.length cr] 38)).alloc (Obj.cells #[Value.bool false, Value.slice As1 (dig D1).length cs1] 38)) = W2 := ⟨_, rfl⟩
  have hs2 : W2.heap.size = w1.heap.size + 2 := by rw [← hW2]; simp
  have hb12 : Below w1.heap.size w1 W2 := by rw [← hW2]; exact ((Below.refl _ _).alloc (by simp) _).alloc (by simp) _
  have k0 : W2.cell? ⟨w1.heap.size, 0, none⟩ = some (.bool nr) := by subst hW2; simp [go_sem]
  have k1 : W2.cell? ⟨w1.heap.size, 1, none⟩ = some (.slice Ar lr.length cr) := by subst hW2; simp [go_sem]
  have k2 : W2.cell? ⟨w1.heap.size + 1, 0, none⟩ = some (.bool false) := by subst hW2; simp [go_sem]
  have k3 : W2.cell? ⟨w1.heap.size + 1, 1, none⟩ = some (.slice As1 (dig D1).length cs1) := by subst hW2; simp [go_sem]
  rw [hW2]
  clear hW2
  replace hr1 := hr1.below hb12
  replace hns1 := hns1.below hb12
  replace hS := (keep_and (keep_and (keep_and (keep_and (keep_and (keep_and (keep_B (Res.below)))))))) hS hb12
  clear cc0 cc1 cc2 cc3 cc4 cc5 hB hb12 hR2
  obtain ⟨cc0, cc1, cc2, cc3, cc4, cc5, hB, hR2⟩ := id hS
  refine (rat_parts _ (hu0.below hB) h2 (by omega)).mono ?_
  rintro e w3 ⟨r2, s2, z2, D2, rfl, hr2, hs2', hD2, hl2, hq2, hb3⟩
  replace hr2 := hr2.mono (T := fun k => k < w.heap.size) (fun k h _ => h)
  obtain ⟨As2, cs2, rfl, hns2⟩ := hs2'.pos
  replace hns2 := hns2.mono (T := fun k => w.heap.size + 3 ≤ k ∧ k < w3.heap.size) (fun k h1 h2 => ⟨by have : W2.heap.size ≤ k := h1; omega, h2⟩)
  replace hS := (keep_and (keep_and (keep_and (keep_and (keep_and (keep_and (keep_B (Res.below)))))))) hS hb3
  have hk := (keep_and (keep_and (keep_and keep_cell))) ⟨k0, k1, k2, k3⟩ hb3
  replace hr1 := hr1.below hb3
  replace hns1 := hns1.below hb3
  have l3 : w1.heap.size + 2 ≤ w3.heap.size := by have := hb3.size; omega
  clear cc0 cc1 cc2 cc3 cc4 cc5 hB hb3 k0 k1 k2 k3 hs2 hR2 hs2'
  obtain ⟨cc0, cc1, cc2, cc3, cc4, cc5, hB, hR2⟩ := id hS
  obtain ⟨k0, k1, k2, k3⟩ := id hk
  obtain ⟨nr2, ur2, lr2, rfl, hur2, hzr2, hlr2⟩ := id hr2
  obtain ⟨Ar2, cr2, rfl⟩ := hur2.slice
  clear hur2 hzr2
  go_wp2_with fail
  obtain ⟨W4, hW4⟩ : ∃ W4, ((w3.alloc (Obj.cells #[Value.bool nr2, Value.slice Ar2 lr2.length cr2] 38)).alloc (Obj.cells #[Value.bool false, Value.slice As2 (dig D2).length cs2] 38)) = W4 := ⟨_, rfl⟩
  have hb34 : Below w3.heap.size w3 W4 := by rw [← hW4]; exact ((Below.refl _ _).alloc (by simp) _).alloc (by simp) _
  have k4 : W4.cell? ⟨w3.heap.size, 0, none⟩ = some (.bool nr2) := by subst hW4; simp [go_sem]
  have k5 : W4.cell? ⟨w3.heap.size, 1, none⟩ = some (.slice Ar2 lr2.length cr2) := by subst hW4; simp [go_sem]
  have k6 : W4.cell? ⟨w3.heap.size + 1, 0, none⟩ = some (.bool false) := by subst hW4; simp [go_sem]
  have k7 : W4.cell? ⟨w3.heap.size + 1, 1, none⟩ = some (.slice As2 (dig D2).length cs2) := by subst hW4; simp [go_sem]
  rw [hW4]
  clear hW4
  replace hr1 := hr1.below hb34
  replace hns1 := hns1.below hb34
  replace hr2 := hr2.below hb34
  replace hns2 := hns2.below hb34
  replace hS := (keep_and (keep_and (keep_and (keep_and (keep_and (keep_and (keep_B (Res.below)))))))) hS hb34
  replace hk := (keep_and (keep_and (keep_and keep_cell))) hk hb34
  clear cc0 cc1 cc2 cc3 cc4 cc5 hB hb34 k0 k1 k2 k3 hR2
  obtain ⟨cc0, cc1, cc2, cc3, cc4, cc5, hB, hR2⟩ := id hS
  obtain ⟨k0, k1, k2, k3⟩ := id hk
  clear cc0 cc1 cc2 cc3 cc4 cc5 hS hk l0 l1
  generalize w1.heap.size = N1 at *
  generalize w3.heap.size = N2 at *
  have hmn : m + n ≤ 35184372088830 := by omega
  have hnm : n + m ≤ 35184372088830 := by omega
  have hs1 : sz (z1 * (D2 : Nat)) ≤ 35184372088829 := by have := sz_mul z1 (D2 : Nat); have := hr1.sz; have : sz ((D2 : Nat) : Int) = (dig D2).length := rfl; omega
  have hs2 : sz (z2 * (D1 : Nat)) ≤ 35184372088829 := by have := sz_mul z2 (D1 : Nat); have := hr2.sz; have : sz ((D1 : Nat) : Int) = (dig D1).length := rfl; omega
  have hlm : sz (z1 * (D2 : Nat) - z2 * (D1 : Nat)) ≤ 35184372088829 := by
    have := sz_mul z1 (D2 : Nat); have := hr1.sz; have : sz ((D2 : Nat) : Int) = (dig D2).length := rfl
    have := sz_mul z2 (D1 : Nat); have := hr2.sz; have : sz ((D1 : Nat) : Int) = (dig D1).length := rfl
    have := sz_sub (z1 * (D2 : Nat)) (z2 * (D1 : Nat))
    omega
  have hQ : As ((((z1 * (D2 : Nat) - z2 * (D1 : Nat) : Int) : Rat) / ((nv (dig (D1 * D2)) : Nat) : Rat)) = p - q) := ⟨by rw [nv_dig, rat_sub_eq _ _ _ _ hD1 hD2, hq1, hq2]⟩
  have hln : (dig (D1 * D2)).length ≤ 35184372088829 := by have := dig_len_mul D1 D2; omega
  go_region_held3 (fun w' => w'.cell? ⟨N1, 0, none⟩ = some (.bool nr) ∧ w'.cell? ⟨N1, 1, none⟩ = some (.slice Ar lr.length cr) ∧ w'.cell? ⟨N1 + 1, 0, none⟩ = some (.bool false) ∧ w'.cell? ⟨N1 + 1, 1, none⟩ = some (.slice As1 (dig D1).length cs1) ∧ w'.cell? ⟨N2, 0, none⟩ = some (.bool nr2) ∧ w'.cell? ⟨N2, 1, none⟩ = some (.slice Ar2 lr2.length cr2) ∧ w'.cell? ⟨N2 + 1, 0, none⟩ = some (.bool false) ∧ w'.cell? ⟨N2 + 1, 1, none⟩ = some (.slice As2 (dig D2).length cs2) ∧ IntI (fun k => k < w.heap.size) w' (Value.agg #[Value.bool nr, Value.slice Ar lr.length cr]) z1 m ∧ IntI (fun k => k < w.heap.size) w' (Value.agg #[Value.bool nr2, Value.slice Ar2 lr2.length cr2]) z2 n ∧ NumV (fun k => w.heap.size + 3 ≤ k ∧ k < N1) w' (Value.slice As1 (dig D1).length cs1) (dig D1) ∧ NumV (fun k => w.heap.size + 3 ≤ k ∧ k < N2) w' (Value.slice As2 (dig D2).length cs2) (dig D2) ∧ Below w.heap.size w w' ∧ Res w' (w.heap.size + 2) 3)
    ((first
      | exact (keep_and (keep_and (keep_and (keep_and (keep_and (keep_and (keep_and (keep_and (keep_p IntI.below (keep_p IntI.below (keep_p NumV.below (keep_p NumV.below (keep_B (Res.below)))))))))))))) ⟨k0, k1, k2, k3, k4, k5, k6, k7, hr1, hr2, hns1, hns2, hB, hR2⟩ (below_drew _)
      | exact (keep_and (keep_and (keep_and (keep_and (keep_and (keep_and (keep_and (keep_and (keep_p IntI.below (keep_p IntI.below (keep_p NumV.below (keep_p NumV.below (keep_B (Res.below)))))))))))))) (by assumption) (below_drew _)
      | exact (keep_and (keep_and (keep_and (keep_and (keep_and (keep_and (keep_and (keep_and (keep_p IntI.below (keep_p IntI.below (keep_p NumV.below (keep_p NumV.below (keep_B (Res.below)))))))))))))) (by assumption) (by assumption)
      | exact (set_held (by simp <;> omega) (set_held (by simp <;> omega) (set_held (by simp <;> omega) (set_held (by simp <;> omega) (set_held (by simp <;> omega) (set_held (by simp <;> omega) (set_held (by simp <;> omega) (set_held (by simp <;> omega) (set_p (set_I (by intro k hk; simp <;> omega)) (set_p (set_I (by intro k hk; simp <;> omega)) (set_p (set_N (by simp <;> omega)) (set_p (set_N (by simp <;> omega)) (set_B (by simp <;> omega) (set_R1)))))))))))))) ((set_held (by simp <;> omega) (set_held (by simp <;> omega) (set_held (by simp <;> omega) (set_held (by simp <;> omega) (set_held (by simp <;> omega) (set_held (by simp <;> omega) (set_held (by simp <;> omega) (set_held (by simp <;> omega) (set_p (set_I (by intro k hk; simp <;> omega)) (set_p (set_I (by intro k hk; simp <;> omega)) (set_p (set_N (by simp <;> omega)) (set_p (set_N (by simp <;> omega)) (set_B (by simp <;> omega) (set_R1)))))))))))))) ((set_held (by simp <;> omega) (set_held (by simp <;> omega) (set_held (by simp <;> omega) (set_held (by simp <;> omega) (set_held (by simp <;> omega) (set_held (by simp <;> omega) (set_held (by simp <;> omega) (set_held (by simp <;> omega) (set_p (set_I (by intro k hk; simp <;> omega)) (set_p (set_I (by intro k hk; simp <;> omega)) (set_p (set_N (by simp <;> omega)) (set_p (set_N (by simp <;> omega)) (set_B (by simp <;> omega) (set_R1)))))))))))))) (by assumption)))))
    (first
      | (go_at_call 56; obtain ⟨_, _, _, _, _, _, _, _, hI1, hI2, hN1, hN2, hB1, hRg13⟩ := ‹(_ = some _) ∧ (_ = some _) ∧ (_ = some _) ∧ (_ = some _) ∧ (_ = some _) ∧ (_ = some _) ∧ (_ = some _) ∧ (_ = some _) ∧ IntI _ _ _ _ _ ∧ IntI _ _ _ _ _ ∧ NumV _ _ _ _ ∧ NumV _ _ _ _ ∧ Below _ _ _ ∧ Res _ _ _›; first | (with_reducible refine (int_mul _ hI1 (hN2.posI hl2) hmn).mono ?_; rintro e w5 ⟨r5, rfl, hM1, hb⟩; (try replace hM2 := hM2.below hb); (try replace hN := hN.below hb)) | (with_reducible refine (int_mul _ hI2 (hN1.posI hl1) hnm).mono ?_; rintro e w5 ⟨r5, rfl, hM2, hb⟩; (try replace hM1 := hM1.below hb); (try replace hN := hN.below hb)))
      | (go_at_call 61; obtain ⟨_, _, _, _, _, _, _, _, hI1, hI2, hN1, hN2, hB1, hRg13⟩ := ‹(_ = some _) ∧ (_ = some _) ∧ (_ = some _) ∧ (_ = some _) ∧ (_ = some _) ∧ (_ = some _) ∧ (_ = some _) ∧ (_ = some _) ∧ IntI _ _ _ _ _ ∧ IntI _ _ _ _ _ ∧ NumV _ _ _ _ ∧ NumV _ _ _ _ ∧ Below _ _ _ ∧ Res _ _ _›; refine (int_Sub _ hM1.i hM2.i hs1 hs2).mono ?_; rintro e w5 ⟨r6, rfl, hA, hb⟩; (try replace hN := hN.below hb))
      | (go_at_call 57; obtain ⟨_, _, _, _, _, _, _, _, hI1, hI2, hN1, hN2, hB1, hRg13⟩ := ‹(_ = some _) ∧ (_ = some _) ∧ (_ = some _) ∧ (_ = some _) ∧ (_ = some _) ∧ (_ = some _) ∧ (_ = some _) ∧ (_ = some _) ∧ IntI _ _ _ _ _ ∧ IntI _ _ _ _ _ ∧ NumV _ _ _ _ ∧ NumV _ _ _ _ ∧ Below _ _ _ ∧ Res _ _ _›; refine (nat_Mul _ hN1 hN2 (by omega)).mono ?_; rintro e w5 ⟨r8, rfl, hN, hb⟩; rw [nv_dig, nv_dig] at hN; (try replace hM1 := hM1.below hb); (try replace hM2 := hM2.below hb); (try replace hA := hA.below hb))
      | (go_at_call 54; obtain ⟨_, _, _, _, _, _, _, _, hI1, hI2, hN1, hN2, hB1, hRg13⟩ := ‹(_ = some _) ∧ (_ = some _) ∧ (_ = some _) ∧ (_ = some _) ∧ (_ = some _) ∧ (_ = some _) ∧ (_ = some _) ∧ (_ = some _) ∧ IntI _ _ _ _ _ ∧ IntI _ _ _ _ _ ∧ NumV _ _ _ _ ∧ NumV _ _ _ _ ∧ Below _ _ _ ∧ Res _ _ _›; refine (rat_lowest _ hA.i hN hlm hln).mono ?_; rintro e w7 ⟨r7, rfl, hL, hb⟩; obtain ⟨A7, c7, B7, d7, rfl⟩ := hL.slice; obtain ⟨⟨⟨x4, h4⟩, f4⟩, ⟨⟨x5, h5⟩, f5⟩, ⟨x6, h6⟩, f6⟩ := And.intro ((hRg13.below hb).2 0 (by omega)) (And.intro ((hRg13.below hb).2 1 (by omega)) ((hRg13.below hb).2 2 (by omega)))))
  all_goals
    go_wp2_with fail
    refine bodyPost_ret (v := .agg #[.bool (decide ((((z1 * (D2 : Nat) - z2 * (D1 : Nat) : Int) : Rat) / ((nv (dig (D1 * D2)) : Nat) : Rat)).num < 0)), .slice A7 (sz (((z1 * (D2 : Nat) - z2 * (D1 : Nat) : Int) : Rat) / ((nv (dig (D1 * D2)) : Nat) : Rat)).num) c7, .slice B7 (dig (((z1 * (D2 : Nat) - z2 * (D1 : Nat) : Int) : Rat) / ((nv (dig (D1 * D2)) : Nat) : Rat)).den).length d7]) (by simp [results, Try.results29, go_sem, h4, h5, h6]) rfl ?_
    have hst := fun x y z => RatV.stored (x := x) (y := y) (z := z) (show w.heap.size ≤ w.heap.size + 2 by omega) hRg13 hL
    rw [hQ.out] at hst ⊢
    exact ⟨_, rfl, hst _ _ _, (((hB1.after hB1.size hb).setCell (by simp <;> omega) _).setCell (by simp <;> omega) _).setCell (by simp <;> omega) _⟩
end Go.Proofs.Ytdbpjnjgjmfomaa

/- The program's ratios, sixth part: Cmp. -/
namespace Go.Proofs.Ytdbpjnjgjmfomaa
open Go.RowKit

def cmpR (p q : Rat) : Int := if p < q then -1 else if p = q then 0 else 1
theorem frac_lt (a b c d : Rat) (hc : 0 < c) (hd : 0 < d) : a / c < b / d ↔ a * d < b * c := by
  rw [Rat.div_lt_iff hc]
  rw [show b / d * c = (b * c) / d by grind, Rat.lt_div_iff hd]
theorem frac_eq (a b c d : Rat) (hc : 0 < c) (hd : 0 < d) : a / c = b / d ↔ a * d = b * c := by
  have h1 : c ≠ 0 := by grind
  have h2 : d ≠ 0 := by grind
  constructor <;> intro h <;> grind
theorem cmp_frac (z1 z2 : Int) (D1 D2 : Nat) (h1 : 0 < D1) (h2 : 0 < D2) : cmpZ (z1 * (D2 : Nat)) (z2 * (D1 : Nat)) = cmpR ((z1 : Rat) / (D1 : Rat)) ((z2 : Rat) / (D2 : Rat)) := by
  have e1 : (0 : Rat) < (D1 : Rat) := by first | exact Rat.natCast_pos.2 h1 | (rw [← Rat.intCast_natCast]; exact Rat.intCast_pos.2 (by omega))
  have e2 : (0 : Rat) < (D2 : Rat) := by first | exact Rat.natCast_pos.2 h2 | (rw [← Rat.intCast_natCast]; exact Rat.intCast_pos.2 (by omega))
  have a1 : ((z1 : Rat) / (D1 : Rat) < (z2 : Rat) / (D2 : Rat)) ↔ z1 * (D2 : Nat) < z2 * (D1 : Nat) := by
    rw [frac_lt _ _ _ _ e1 e2, ← Rat.intCast_natCast, ← Rat.intCast_natCast, ← Rat.intCast_mul, ← Rat.intCast_mul, Rat.intCast_lt_intCast]
  have a2 : ((z1 : Rat) / (D1 : Rat) = (z2 : Rat) / (D2 : Rat)) ↔ z1 * (D2 : Nat) = z2 * (D1 : Nat) := by
    rw [frac_eq _ _ _ _ e1 e2, ← Rat.intCast_natCast, ← Rat.intCast_natCast, ← Rat.intCast_mul, ← Rat.intCast_mul, Rat.intCast_inj]
  unfold cmpZ cmpR
  simp only [a1, a2]

set_option maxHeartbeats 8000000 in
set_option maxRecDepth 100000 in
theorem rat_Cmp {S T : Nat → Prop} {v u : Value} {p q : Rat} {m n : Nat} (w : World) (hv : RatI S w v p m) (hu : RatI T w u q n) (h1 : 1 ≤ m) (h2 : 1 ≤ n) (hm : m + n ≤ 35184372088828) :
    Calls Try.prog 33 #[v, u] w fun e w' => e = .returned (.int .i64 (cmpR p q)) ∧ Below w.heap.size w w' := by
  obtain ⟨na, u1, e1, a1, t1, rfl, ha1, ht1, hq1, hla1, hlt1⟩ := id hv
  obtain ⟨nb, u2, e2, a2, t2, rfl, ha2, ht2, hq2, hla2, hlt2⟩ := id hu
  obtain ⟨A1, c1, rfl⟩ := ha1.slice
  obtain ⟨B1, d1, rfl⟩ := ht1.slice
  obtain ⟨A2, c2, rfl⟩ := ha2.slice
  obtain ⟨B2, d2, rfl⟩ := ht2.slice
  have hv0 := hv.mono (T := fun k => k < w.heap.size) (fun k _ h2 => h2)
  have hu0 := hu.mono (T := fun k => k < w.heap.size) (fun k _ h2 => h2)
  clear hv hu ha1 ht1 ha2 ht2 hq1 hq2
  go_enter Try.func33, Try.ntmps33
  go_wp2_with fail
  obtain ⟨W, hW⟩ : ∃ W, ((w.alloc (Obj.cells #[Value.bool na, Value.slice A1 a1.length c1, Value.slice B1 t1.length d1] 40)).alloc (Obj.cells #[Value.bool nb, Value.slice A2 a2.length c2, Value.slice B2 t2.length d2] 40)) = W := ⟨_, rfl⟩
  have hs : W.heap.size = w.heap.size + 2 := by rw [← hW]; simp
  have hB : Below w.heap.size w W := by rw [← hW]; exact (((Below.refl _ _).alloc (by simp <;> omega) _).alloc (by simp <;> omega) _)
  have cc0 : W.cell? ⟨w.heap.size, 0, none⟩ = some (.bool na) := by subst hW; simp [go_sem]
  have cc1 : W.cell? ⟨w.heap.size, 1, none⟩ = some (.slice A1 a1.length c1) := by subst hW; simp [go_sem]
  have cc2 : W.cell? ⟨w.heap.size, 2, none⟩ = some (.slice B1 t1.length d1) := by subst hW; simp [go_sem]
  have cc3 : W.cell? ⟨w.heap.size + 1, 0, none⟩ = some (.bool nb) := by subst hW; simp [go_sem]
  have cc4 : W.cell? ⟨w.heap.size + 1, 1, none⟩ = some (.slice A2 a2.length c2) := by subst hW; simp [go_sem]
  have cc5 : W.cell? ⟨w.heap.size + 1, 2, none⟩ = some (.slice B2 t2.length d2) := by subst hW; simp [go_sem]
  rw [hW]
  clear hW
  have hS : W.cell? ⟨w.heap.size, 0, none⟩ = some (.bool na) ∧ W.cell? ⟨w.heap.size, 1, none⟩ = some (.slice A1 a1.length c1) ∧ W.cell? ⟨w.heap.size, 2, none⟩ = some (.slice B1 t1.length d1) ∧ W.cell? ⟨w.heap.size + 1, 0, none⟩ = some (.bool nb) ∧ W.cell? ⟨w.heap.size + 1, 1, none⟩ = some (.slice A2 a2.length c2) ∧ W.cell? ⟨w.heap.size + 1, 2, none⟩ = some (.slice B2 t2.length d2) ∧ Below w.heap.size w W := ⟨cc0, cc1, cc2, cc3, cc4, cc5, hB⟩
  refine (rat_parts _ (hv0.below hB) h1 (by omega)).mono ?_
  rintro e w1 ⟨r1, s1, z1, D1, rfl, hr1, hs1, hD1, hl1, hq1, hb1⟩
  replace hr1 := hr1.mono (T := fun k => k < w.heap.size) (fun k h _ => h)
  obtain ⟨As1, cs1, rfl, hns1⟩ := hs1.pos
  replace hns1 := hns1.mono (T := fun k => w.heap.size + 2 ≤ k ∧ k < w1.heap.size) (fun k h1 h2 => ⟨by have : W.heap.size ≤ k := h1; omega, h2⟩)
  replace hS := (keep_and (keep_and (keep_and (keep_and (keep_and (keep_and (keep_end))))))) hS hb1
  have hz1 : w.heap.size + 2 ≤ w1.heap.size := by have := hb1.size; omega
  clear cc0 cc1 cc2 cc3 cc4 cc5 hB hb1
  obtain ⟨cc0, cc1, cc2, cc3, cc4, cc5, hB⟩ := id hS
  obtain ⟨nr, ur, lr, rfl, hur, hzr, hlr⟩ := id hr1
  obtain ⟨Ar, cr, rfl⟩ := hur.slice
  clear hur hzr hs1
  have l0 : w.heap.size < w1.heap.size := by omega
  have l1 : w.heap.size + 1 < w1.heap.size := by omega
  go_wp2_with fail
  obtain ⟨W2, hW2⟩ : ∃ W2, ((w1.alloc (Obj.cells #[Value.bool nr, Value.slice Ar lr.length cr] 38)).alloc (Obj.cells #[Value.bool false, Value.slice As1 (dig D1).length cs1] 38)) = W2 := ⟨_, rfl⟩
  have hs2 : W2.heap.size = w1.heap.size + 2 := by rw [← hW2]; simp
  have hb12 : Below w1.heap.size w1 W2 := by rw [← hW2]; exact ((Below.refl _ _).alloc (by simp) _).alloc (by simp) _
  have k0 : W2.cell? ⟨w1.heap.size, 0, none⟩ = some (.bool nr) := by subst hW2; simp [go_sem]
  have k1 : W2.cell? ⟨w1.heap.size, 1, none⟩ = some (.slice Ar lr.length cr) := by subst hW2; simp [go_sem]
  have k2 : W2.cell? ⟨w1.heap.size + 1, 0, none⟩ = some (.bool false) := by subst hW2; simp [go_sem]
  have k3 : W2.cell? ⟨w1.heap.size + 1, 1, none⟩ = some (.slice As1 (dig D1).length cs1) := by subst hW2; simp [go_sem]
  rw [hW2]
  clear hW2
  replace hr1 := hr1.below hb12
  replace hns1 := hns1.below hb12
  replace hS := (keep_and (keep_and (keep_and (keep_and (keep_and (keep_and (keep_end))))))) hS hb12
  clear cc0 cc1 cc2 cc3 cc4 cc5 hB hb12
  obtain ⟨cc0, cc1, cc2, cc3, cc4, cc5, hB⟩ := id hS
  refine (rat_parts _ (hu0.below hB) h2 (by omega)).mono ?_
  rintro e w3 ⟨r2, s2, z2, D2, rfl, hr2, hs2', hD2, hl2, hq2, hb3⟩
  replace hr2 := hr2.mono (T := fun k => k < w.heap.size) (fun k h _ => h)
  obtain ⟨As2, cs2, rfl, hns2⟩ := hs2'.pos
  replace hns2 := hns2.mono (T := fun k => w.heap.size + 2 ≤ k ∧ k < w3.heap.size) (fun k h1 h2 => ⟨by have : W2.heap.size ≤ k := h1; omega, h2⟩)
  replace hS := (keep_and (keep_and (keep_and (keep_and (keep_and (keep_and (keep_end))))))) hS hb3
  have hk := (keep_and (keep_and (keep_and keep_cell))) ⟨k0, k1, k2, k3⟩ hb3
  replace hr1 := hr1.below hb3
  replace hns1 := hns1.below hb3
  have l3 : w1.heap.size + 2 ≤ w3.heap.size := by have := hb3.size; omega
  clear cc0 cc1 cc2 cc3 cc4 cc5 hB hb3 k0 k1 k2 k3 hs2 hs2'
  obtain ⟨cc0, cc1, cc2, cc3, cc4, cc5, hB⟩ := id hS
  obtain ⟨k0, k1, k2, k3⟩ := id hk
  obtain ⟨nr2, ur2, lr2, rfl, hur2, hzr2, hlr2⟩ := id hr2
  obtain ⟨Ar2, cr2, rfl⟩ := hur2.slice
  clear hur2 hzr2
  go_wp2_with fail
  obtain ⟨W4, hW4⟩ : ∃ W4, ((w3.alloc (Obj.cells #[Value.bool nr2, Value.slice Ar2 lr2.length cr2] 38)).alloc (Obj.cells #[Value.bool false, Value.slice As2 (dig D2).length cs2] 38)) = W4 := ⟨_, rfl⟩
  have hb34 : Below w3.heap.size w3 W4 := by rw [← hW4]; exact ((Below.refl _ _).alloc (by simp) _).alloc (by simp) _
  have k4 : W4.cell? ⟨w3.heap.size, 0, none⟩ = some (.bool nr2) := by subst hW4; simp [go_sem]
  have k5 : W4.cell? ⟨w3.heap.size, 1, none⟩ = some (.slice Ar2 lr2.length cr2) := by subst hW4; simp [go_sem]
  have k6 : W4.cell? ⟨w3.heap.size + 1, 0, none⟩ = some (.bool false) := by subst hW4; simp [go_sem]
  have k7 : W4.cell? ⟨w3.heap.size + 1, 1, none⟩ = some (.slice As2 (dig D2).length cs2) := by subst hW4; simp [go_sem]
  rw [hW4]
  clear hW4
  replace hr1 := hr1.below hb34
  replace hns1 := hns1.below hb34
  replace hr2 := hr2.below hb34
  replace hns2 := hns2.below hb34
  replace hS := (keep_and (keep_and (keep_and (keep_and (keep_and (keep_and (keep_end))))))) hS hb34
  replace hk := (keep_and (keep_and (keep_and keep_cell))) hk hb34
  clear cc0 cc1 cc2 cc3 cc4 cc5 hB hb34 k0 k1 k2 k3
  obtain ⟨cc0, cc1, cc2, cc3, cc4, cc5, hB⟩ := id hS
  obtain ⟨k0, k1, k2, k3⟩ := id hk
  clear cc0 cc1 cc2 cc3 cc4 cc5 hS hk l0 l1
  generalize w1.heap.size = N1 at *
  generalize w3.heap.size = N2 at *
  have hmn : m + n ≤ 35184372088830 := by omega
  have hnm : n + m ≤ 35184372088830 := by omega
  have hs1 : sz (z1 * (D2 : Nat)) ≤ 35184372088829 := by have := sz_mul z1 (D2 : Nat); have := hr1.sz; have : sz ((D2 : Nat) : Int) = (dig D2).length := rfl; omega
  have hs2 : sz (z2 * (D1 : Nat)) ≤ 35184372088829 := by have := sz_mul z2 (D1 : Nat); have := hr2.sz; have : sz ((D1 : Nat) : Int) = (dig D1).length := rfl; omega
  have hQ : As (cmpZ (z1 * (D2 : Nat)) (z2 * (D1 : Nat)) = cmpR p q) := ⟨by rw [cmp_frac _ _ _ _ hD1 hD2, hq1, hq2]⟩
  go_region_held3 (fun w' => w'.cell? ⟨N1, 0, none⟩ = some (.bool nr) ∧ w'.cell? ⟨N1, 1, none⟩ = some (.slice Ar lr.length cr) ∧ w'.cell? ⟨N1 + 1, 0, none⟩ = some (.bool false) ∧ w'.cell? ⟨N1 + 1, 1, none⟩ = some (.slice As1 (dig D1).length cs1) ∧ w'.cell? ⟨N2, 0, none⟩ = some (.bool nr2) ∧ w'.cell? ⟨N2, 1, none⟩ = some (.slice Ar2 lr2.length cr2) ∧ w'.cell? ⟨N2 + 1, 0, none⟩ = some (.bool false) ∧ w'.cell? ⟨N2 + 1, 1, none⟩ = some (.slice As2 (dig D2).length cs2) ∧ IntI (fun k => k < w.heap.size) w' (Value.agg #[Value.bool nr, Value.slice Ar lr.length cr]) z1 m ∧ IntI (fun k => k < w.heap.size) w' (Value.agg #[Value.bool nr2, Value.slice Ar2 lr2.length cr2]) z2 n ∧ NumV (fun k => w.heap.size + 2 ≤ k ∧ k < N1) w' (Value.slice As1 (dig D1).length cs1) (dig D1) ∧ NumV (fun k => w.heap.size + 2 ≤ k ∧ k < N2) w' (Value.slice As2 (dig D2).length cs2) (dig D2) ∧ Below w.heap.size w w')
    ((first
      | exact (keep_and (keep_and (keep_and (keep_and (keep_and (keep_and (keep_and (keep_and (keep_p IntI.below (keep_p IntI.below (keep_p NumV.below (keep_p NumV.below (keep_end))))))))))))) ⟨k0, k1, k2, k3, k4, k5, k6, k7, hr1, hr2, hns1, hns2, hB⟩ (below_drew _)
      | exact (keep_and (keep_and (keep_and (keep_and (keep_and (keep_and (keep_and (keep_and (keep_p IntI.below (keep_p IntI.below (keep_p NumV.below (keep_p NumV.below (keep_end))))))))))))) (by assumption) (below_drew _)
      | exact (keep_and (keep_and (keep_and (keep_and (keep_and (keep_and (keep_and (keep_and (keep_p IntI.below (keep_p IntI.below (keep_p NumV.below (keep_p NumV.below (keep_end))))))))))))) (by assumption) (by assumption)))
    (first
      | (go_at_call 56; obtain ⟨_, _, _, _, _, _, _, _, hI1, hI2, hN1, hN2, hB1⟩ := ‹(_ = some _) ∧ (_ = some _) ∧ (_ = some _) ∧ (_ = some _) ∧ (_ = some _) ∧ (_ = some _) ∧ (_ = some _) ∧ (_ = some _) ∧ IntI _ _ _ _ _ ∧ IntI _ _ _ _ _ ∧ NumV _ _ _ _ ∧ NumV _ _ _ _ ∧ Below _ _ _›; first | (with_reducible refine (int_mul _ hI1 (hN2.posI hl2) hmn).mono ?_; rintro e w5 ⟨r5, rfl, hM1, hb⟩; (try replace hM2 := hM2.below hb)) | (with_reducible refine (int_mul _ hI2 (hN1.posI hl1) hnm).mono ?_; rintro e w5 ⟨r5, rfl, hM2, hb⟩; (try replace hM1 := hM1.below hb)))
      | (go_at_call 65; obtain ⟨_, _, _, _, _, _, _, _, hI1, hI2, hN1, hN2, hB1⟩ := ‹(_ = some _) ∧ (_ = some _) ∧ (_ = some _) ∧ (_ = some _) ∧ (_ = some _) ∧ (_ = some _) ∧ (_ = some _) ∧ (_ = some _) ∧ IntI _ _ _ _ _ ∧ IntI _ _ _ _ _ ∧ NumV _ _ _ _ ∧ NumV _ _ _ _ ∧ Below _ _ _›; refine (int_Cmp _ hM1.i hM2.i hs1 hs2).mono ?_; rintro e w5 ⟨rfl, hb⟩))
  all_goals
    go_wp2_with fail
    go_ret
    exact ⟨ret_int hQ.out, hB1.after hB1.size hb⟩
end Go.Proofs.Ytdbpjnjgjmfomaa

/- The program's ratios, seventh part: Make, Of, Div, Sign. -/
namespace Go.Proofs.Ytdbpjnjgjmfomaa
open Go.RowKit

theorem make_eq (na nb : Bool) (a b : List Int) : ((iv (!na == nb) a : Int) : Rat) / ((nv b : Nat) : Rat) = ((iv na a : Int) : Rat) / ((iv nb b : Int) : Rat) := by
  unfold iv
  cases na <;> cases nb <;> simp only [Bool.not_false, Bool.not_true, beq_self_eq_true, Bool.true_beq, Bool.false_beq, if_true, Bool.false_eq_true, if_false, Rat.intCast_neg, Rat.intCast_natCast] <;> grind
theorem iv_zero {neg : Bool} {l : List Int} : iv neg l = 0 ↔ nv l = 0 := by unfold iv; split <;> omega

set_option maxHeartbeats 8000000 in
set_option maxRecDepth 100000 in
theorem rat_Make {S T : Nat → Prop} {v u : Value} {x y : Int} {m n : Nat} (w : World) (hv : IntI S w v x m) (hu : IntI T w u y n) (hm : m ≤ 35184372088829) (hn : n ≤ 35184372088829) :
    Calls Try.prog 58 #[v, u] w fun e w' => ∃ r, e = .returned (.tuple #[r, .bool (decide (y ≠ 0))]) ∧ RatV (New w) w' r ((x : Rat) / (y : Rat)) ∧ Below w.heap.size w w' := by
  obtain ⟨na, u1, a, rfl, ha, rfl, hla⟩ := hv
  obtain ⟨nb, u2, b, rfl, hb, rfl, hlb⟩ := hu
  obtain ⟨A, c, rfl⟩ := ha.slice
  obtain ⟨B, d, rfl⟩ := hb.slice
  have hz := @iv_zero nb b
  have hme := make_eq na nb a b
  obtain ⟨q, hq⟩ : ∃ q, ((iv na a : Int) : Rat) / ((iv nb b : Int) : Rat) = q := ⟨_, rfl⟩
  rw [hq] at hme ⊢
  have hq0 : nv b = 0 → q = 0 := fun h => by rw [← hme]; exact low_zero _ _ (.inr h)
  generalize hy : decide (iv nb b ≠ 0) = Y
  replace hq := As.mk hq
  replace hme := As.mk hme
  replace hq0 := As.mk hq0
  have hY : As (Y = decide (nv b ≠ 0)) := ⟨by rw [← hy]; exact decide_eq_decide.2 (not_congr hz)⟩
  clear hy hz
  go_enter Try.func58, Try.ntmps58
  go_wp2_with fail
  obtain ⟨W, hW⟩ : ∃ W, (((w.alloc (Obj.cells #[Value.bool na, Value.slice A a.length c] 38)).alloc (Obj.cells #[Value.bool nb, Value.slice B b.length d] 38)).alloc (Obj.cells #[Value.bool false, Value.slice none 0 0, Value.slice none 0 0] 40)) = W := ⟨_, rfl⟩
  have hs : W.heap.size = w.heap.size + 3 := by rw [← hW]; simp
  have hB : Below w.heap.size w W := by rw [← hW]; exact ((((Below.refl _ _).alloc (by simp <;> omega) _).alloc (by simp <;> omega) _).alloc (by simp <;> omega) _)
  have cc0 : W.cell? ⟨w.heap.size, 0, none⟩ = some (.bool na) := by subst hW; simp [go_sem]
  have cc1 : W.cell? ⟨w.heap.size, 1, none⟩ = some (.slice A a.length c) := by subst hW; simp [go_sem]
  have cc2 : W.cell? ⟨w.heap.size + 1, 0, none⟩ = some (.bool nb) := by subst hW; simp [go_sem]
  have cc3 : W.cell? ⟨w.heap.size + 1, 1, none⟩ = some (.slice B b.length d) := by subst hW; simp [go_sem]
  have hR2 : Res W (w.heap.size + 2) 3 := ⟨by omega, fun i hi => by
    subst hW
    rcases (by omega : i = 0 ∨ i = 1 ∨ i = 2) with rfl | rfl | rfl
    · exact ⟨⟨.bool false, by simp [go_sem]⟩, by simp [go_sem]⟩
    · exact ⟨⟨.slice none 0 0, by simp [go_sem]⟩, by simp [go_sem]⟩
    · exact ⟨⟨.slice none 0 0, by simp [go_sem]⟩, by simp [go_sem]⟩⟩
  rw [hW]
  clear hW
  have hS : W.cell? ⟨w.heap.size, 0, none⟩ = some (.bool na) ∧ W.cell? ⟨w.heap.size, 1, none⟩ = some (.slice A a.length c) ∧ W.cell? ⟨w.heap.size + 1, 0, none⟩ = some (.bool nb) ∧ W.cell? ⟨w.heap.size + 1, 1, none⟩ = some (.slice B b.length d) ∧ Below w.heap.size w W ∧ Res W (w.heap.size + 2) 3 := ⟨cc0, cc1, cc2, cc3, hB, hR2⟩
  clear cc0 cc1 cc2 cc3 hR2
  refine (nat_Bits _ (hb.below hB) (by omega)).mono ?_
  rintro e w1 ⟨k, rfl, hk, ⟨m1, rfl⟩⟩
  replace hS := (keep_and (keep_and (keep_and (keep_and (keep_B (Res.below)))))) hS ((Below.refl _ _).drewsN m1)
  clear hB
  generalize W.drewN m1 = W1 at *
  obtain ⟨cc0, cc1, cc2, cc3, hB, hR2⟩ := id hS
  rcases Nat.eq_zero_or_pos k with rfl | hkp
  · have hb0 := As.mk (hk.1 rfl)
    clear hk
    go_wp2_with fail
    refine (rat_zero _).mono ?_
    rintro e w3 ⟨r, rfl, hL, hb⟩
    obtain ⟨A7, c7, B7, d7, rfl⟩ := hL.slice
    have hst := fun x y z => RatV.stored (x := x) (y := y) (z := z) (show w.heap.size ≤ w.heap.size + 2 by omega) hS.2.2.2.2.2 hL
    replace hS := (keep_and (keep_and (keep_and (keep_and (keep_B (Res.below)))))) hS hb
    obtain ⟨⟨⟨x4, h4⟩, f4⟩, ⟨⟨x5, h5⟩, f5⟩, ⟨x6, h6⟩, f6⟩ := And.intro (hS.2.2.2.2.2.2 0 (by omega)) (And.intro (hS.2.2.2.2.2.2 1 (by omega)) (hS.2.2.2.2.2.2 2 (by omega)))
    have hB9 := As.mk hS.2.2.2.2.1
    replace hst := As.mk hst
    clear hS hL hb
    go_wp2_with fail
    refine bodyPost_ret (v := .tuple #[.agg #[.bool (decide ((0 : Rat).num < 0)), .slice A7 (sz (0 : Rat).num) c7, .slice B7 (dig (0 : Rat).den).length d7], .bool false]) (by simp [results, Try.results58, go_sem, h4, h5, h6]) rfl ?_
    rw [show Y = false from hY.out.trans (decide_eq_false (fun h => h hb0.out)), show q = 0 from hq0.out hb0.out]
    exact ⟨_, rfl, hst.out _ _ _, ((hB9.out.setCell (by simp <;> omega) _).setCell (by simp <;> omega) _).setCell (by simp <;> omega) _⟩
  · have hk0 : ((k : Int) == 0) = false := beq_eq_false_iff_ne.2 (by omega)
    have hbp := As.mk (show nv b ≠ 0 from fun h => by have := hk.2 h; omega)
    replace hk := As.mk hk
    go_wp2_with fail
    have hx : IntI S W1 (.agg #[.bool (!na == nb), .slice A a.length c]) (iv (!na == nb) a) m := ⟨_, _, a, rfl, ha.below hB, rfl, hla⟩
    refine (rat_lowest _ hx (hb.below hB) hm (by omega)).mono ?_
    rintro e w3 ⟨r, rfl, hL, hb⟩
    obtain ⟨A7, c7, B7, d7, rfl⟩ := hL.slice
    have hst := fun x y z => RatV.stored (x := x) (y := y) (z := z) (show w.heap.size ≤ w.heap.size + 2 by omega) hS.2.2.2.2.2 hL
    replace hS := (keep_and (keep_and (keep_and (keep_and (keep_B (Res.below)))))) hS hb
    obtain ⟨⟨⟨x4, h4⟩, f4⟩, ⟨⟨x5, h5⟩, f5⟩, ⟨x6, h6⟩, f6⟩ := And.intro (hS.2.2.2.2.2.2 0 (by omega)) (And.intro (hS.2.2.2.2.2.2 1 (by omega)) (hS.2.2.2.2.2.2 2 (by omega)))
    have hB9 := As.mk hS.2.2.2.2.1
    replace hst := As.mk hst
    clear hS hL hb
    go_wp2_with fail
    refine bodyPost_ret (v := .tuple #[.agg #[.bool (decide ((((iv (!na == nb) a : Int) : Rat) / ((nv b : Nat) : Rat)).num < 0)), .slice A7 (sz (((iv (!na == nb) a : Int) : Rat) / ((nv b : Nat) : Rat)).num) c7, .slice B7 (dig (((iv (!na == nb) a : Int) : Rat) / ((nv b : Nat) : Rat)).den).length d7], .bool true]) (by simp [results, Try.results58, go_sem, h4, h5, h6]) rfl ?_
    rw [show Y = true from hY.out.trans (decide_eq_true hbp.out)]
    have hst2 := hst.out
    rw [hme.out] at hst2 ⊢
    exact ⟨_, rfl, hst2 _ _ _, ((hB9.out.setCell (by simp <;> omega) _).setCell (by simp <;> omega) _).setCell (by simp <;> omega) _⟩
end Go.Proofs.Ytdbpjnjgjmfomaa

/- The program's ratios, eighth part: Of, Div. -/
namespace Go.Proofs.Ytdbpjnjgjmfomaa
open Go.RowKit

theorem sz_small {z : Int} (h : z.natAbs < 18446744073709551616) : sz z ≤ 2 := dig_length_le _ 2 h
theorem rat_div_eq (z1 z2 : Int) (D1 D2 : Nat) (h1 : 0 < D1) (h2 : 0 < D2) : ((z1 * (D2 : Nat) : Int) : Rat) / (((D1 : Nat) * z2 : Int) : Rat) = ((z1 : Rat) / (D1 : Rat)) / ((z2 : Rat) / (D2 : Rat)) := by
  have e1 : (D1 : Rat) ≠ 0 := by simp; omega
  have e2 : (D2 : Rat) ≠ 0 := by simp; omega
  rw [Rat.intCast_mul, Rat.intCast_mul, Rat.intCast_natCast, Rat.intCast_natCast]; grind
theorem rat_ne0 (z : Int) (D : Nat) (h : 0 < D) : ((z : Rat) / (D : Rat)) = 0 ↔ z = 0 := by
  have e1 : (0 : Rat) < (D : Rat) := Rat.natCast_pos.2 h
  have := frac_eq (z : Rat) 0 (D : Rat) 1 e1 (by grind)
  rw [show (0 : Rat) / 1 = 0 by grind] at this
  rw [this, ← Rat.intCast_eq_zero_iff (a := z)]
  constructor <;> intro h <;> grind

set_option maxHeartbeats 8000000 in
set_option maxRecDepth 100000 in
theorem rat_Of (w : World) (x y : Int) (hx0 : -9223372036854775808 ≤ x) (hx1 : x ≤ 9223372036854775807) (hy0 : -9223372036854775808 ≤ y) (hy1 : y ≤ 9223372036854775807) :
    Calls Try.prog 25 #[.int .i64 x, .int .i64 y] w fun e w' => ∃ r, e = .returned (.tuple #[r, .bool (decide (y ≠ 0))]) ∧ RatV (New w) w' r ((x : Rat) / (y : Rat)) ∧ Below w.heap.size w w' := by
  have s1 := sz_small (z := x) (by omega)
  have s2 := sz_small (z := y) (by omega)
  obtain ⟨q, hq⟩ : ∃ q, ((x : Rat) / (y : Rat)) = q := ⟨_, rfl⟩
  replace hq := As.mk hq
  rw [hq.out]
  obtain ⟨Y, hY⟩ : ∃ Y, decide (y ≠ 0) = Y := ⟨_, rfl⟩
  replace hY := As.mk hY
  rw [hY.out]
  go_enter Try.func25, Try.ntmps25
  go_wp2_with fail
  obtain ⟨W, hW⟩ : ∃ W, (w.alloc (Obj.cells #[Value.bool false, Value.slice none 0 0, Value.slice none 0 0] 40)) = W := ⟨_, rfl⟩
  have hB : Below w.heap.size w W := by rw [← hW]; exact (Below.refl _ _).alloc (by simp) _
  have hs : W.heap.size = w.heap.size + 1 := by rw [← hW]; simp
  have hR : Res W w.heap.size 3 := ⟨by omega, fun i hi => by
    subst hW
    rcases (by omega : i = 0 ∨ i = 1 ∨ i = 2) with rfl | rfl | rfl
    · exact ⟨⟨.bool false, by simp [go_sem]⟩, by simp [go_sem]⟩
    · exact ⟨⟨.slice none 0 0, by simp [go_sem]⟩, by simp [go_sem]⟩
    · exact ⟨⟨.slice none 0 0, by simp [go_sem]⟩, by simp [go_sem]⟩⟩
  rw [hW]
  clear hW
  have hS := And.intro hB hR
  clear hB hR
  refine (int_Of x _ hx0 hx1).mono ?_
  rintro e w1 ⟨r1, rfl, hr1, hb1⟩
  replace hS := keep_last hS hb1
  go_wp2_with fail
  refine (int_Of y _ hy0 hy1).mono ?_
  rintro e w2 ⟨r2, rfl, hr2, hb2⟩
  replace hS := keep_last hS hb2
  replace hr1 := hr1.below hb2
  go_wp2_with fail
  refine (rat_Make _ hr1.i hr2.i (by omega) (by omega)).mono ?_
  rintro e w3 ⟨r, rfl, hL, hb⟩
  obtain ⟨A7, c7, B7, d7, rfl⟩ := hL.slice
  have hst := As.mk (fun x y z => RatV.stored (x := x) (y := y) (z := z) (show w.heap.size ≤ w.heap.size by omega) hS.2 hL)
  replace hS := keep_last hS hb
  obtain ⟨⟨⟨x4, h4⟩, f4⟩, ⟨⟨x5, h5⟩, f5⟩, ⟨x6, h6⟩, f6⟩ := And.intro (hS.2.2 0 (by omega)) (And.intro (hS.2.2 1 (by omega)) (hS.2.2 2 (by omega)))
  have hB9 := As.mk hS.1
  clear hS hL hb hr1 hr2 hb1 hb2
  rw [hY.out]
  go_wp2_with fail
  refine bodyPost_ret (v := .tuple #[.agg #[.bool (decide (((x : Rat) / (y : Rat)).num < 0)), .slice A7 (sz ((x : Rat) / (y : Rat)).num) c7, .slice B7 (dig ((x : Rat) / (y : Rat)).den).length d7], .bool Y]) (by simp [results, Try.results25, go_sem, h4, h5, h6]) rfl ?_
  have hst2 := hst.out
  rw [hq.out] at hst2 ⊢
  exact ⟨_, rfl, hst2 _ _ _, ((hB9.out.setCell (by simp <;> omega) _).setCell (by simp <;> omega) _).setCell (by simp <;> omega) _⟩

set_option maxHeartbeats 8000000 in
set_option maxRecDepth 100000 in
theorem rat_Div {S T : Nat → Prop} {v u : Value} {p q : Rat} {m n : Nat} (w : World) (hv : RatI S w v p m) (hu : RatI T w u q n) (h1 : 1 ≤ m) (h2 : 1 ≤ n) (hm : m + n ≤ 35184372088828) :
    Calls Try.prog 26 #[v, u] w fun e w' => ∃ r, e = .returned (.tuple #[r, .bool (decide (q ≠ 0))]) ∧ RatV (New w) w' r (p / q) ∧ Below w.heap.size w w' := by
  obtain ⟨Y, hY⟩ : ∃ Y, decide (q ≠ 0) = Y := ⟨_, rfl⟩
  replace hY := As.mk hY
  rw [hY.out]
  obtain ⟨na, u1, e1, a1, t1, rfl, ha1, ht1, hq1, hla1, hlt1⟩ := id hv
  obtain ⟨nb, u2, e2, a2, t2, rfl, ha2, ht2, hq2, hla2, hlt2⟩ := id hu
  obtain ⟨A1, c1, rfl⟩ := ha1.slice
  obtain ⟨B1, d1, rfl⟩ := ht1.slice
  obtain ⟨A2, c2, rfl⟩ := ha2.slice
  obtain ⟨B2, d2, rfl⟩ := ht2.slice
  have hv0 := hv.mono (T := fun k => k < w.heap.size) (fun k _ h2 => h2)
  have hu0 := hu.mono (T := fun k => k < w.heap.size) (fun k _ h2 => h2)
  clear hv hu ha1 ht1 ha2 ht2 hq1 hq2
  go_enter Try.func26, Try.ntmps26
  go_wp2_with fail
  obtain ⟨W, hW⟩ : ∃ W, (((w.alloc (Obj.cells #[Value.bool na, Value.slice A1 a1.length c1, Value.slice B1 t1.length d1] 40)).alloc (Obj.cells #[Value.bool nb, Value.slice A2 a2.length c2, Value.slice B2 t2.length d2] 40)).alloc (Obj.cells #[Value.bool false, Value.slice none 0 0, Value.slice none 0 0] 40)) = W := ⟨_, rfl⟩
  have hs : W.heap.size = w.heap.size + 3 := by rw [← hW]; simp
  have hB : Below w.heap.size w W := by rw [← hW]; exact ((((Below.refl _ _).alloc (by simp <;> omega) _).alloc (by simp <;> omega) _).alloc (by simp <;> omega) _)
  have cc0 : W.cell? ⟨w.heap.size, 0, none⟩ = some (.bool na) := by subst hW; simp [go_sem]
  have cc1 : W.cell? ⟨w.heap.size, 1, none⟩ = some (.slice A1 a1.length c1) := by subst hW; simp [go_sem]
  have cc2 : W.cell? ⟨w.heap.size, 2, none⟩ = some (.slice B1 t1.length d1) := by subst hW; simp [go_sem]
  have cc3 : W.cell? ⟨w.heap.size + 1, 0, none⟩ = some (.bool nb) := by subst hW; simp [go_sem]
  have cc4 : W.cell? ⟨w.heap.size + 1, 1, none⟩ = some (.slice A2 a2.length c2) := by subst hW; simp [go_sem]
  have cc5 : W.cell? ⟨w.heap.size + 1, 2, none⟩ = some (.slice B2 t2.length d2) := by subst hW; simp [go_sem]
  have hR2 : Res W (w.heap.size + 2) 3 := ⟨by omega, fun i hi => by
    subst hW
    rcases (by omega : i = 0 ∨ i = 1 ∨ i = 2) with rfl | rfl | rfl
    · exact ⟨⟨.bool false, by simp [go_sem]⟩, by simp [go_sem]⟩
    · exact ⟨⟨.slice none 0 0, by simp [go_sem]⟩, by simp [go_sem]⟩
    · exact ⟨⟨.slice none 0 0, by simp [go_sem]⟩, by simp [go_sem]⟩⟩
  rw [hW]
  clear hW
  have hS : W.cell? ⟨w.heap.size, 0, none⟩ = some (.bool na) ∧ W.cell? ⟨w.heap.size, 1, none⟩ = some (.slice A1 a1.length c1) ∧ W.cell? ⟨w.heap.size, 2, none⟩ = some (.slice B1 t1.length d1) ∧ W.cell? ⟨w.heap.size + 1, 0, none⟩ = some (.bool nb) ∧ W.cell? ⟨w.heap.size + 1, 1, none⟩ = some (.slice A2 a2.length c2) ∧ W.cell? ⟨w.heap.size + 1, 2, none⟩ = some (.slice B2 t2.length d2) ∧ Below w.heap.size w W ∧ Res W (w.heap.size + 2) 3 := ⟨cc0, cc1, cc2, cc3, cc4, cc5, hB, hR2⟩
  refine (rat_parts _ (hv0.below hB) h1 (by omega)).mono ?_
  rintro e w1 ⟨r1, s1, z1, D1, rfl, hr1, hs1, hD1, hl1, hq1, hb1⟩
  replace hr1 := hr1.mono (T := fun k => k < w.heap.size) (fun k h _ => h)
  obtain ⟨As1, cs1, rfl, hns1⟩ := hs1.pos
  replace hns1 := hns1.mono (T := fun k => w.heap.size + 3 ≤ k ∧ k < w1.heap.size) (fun k h1 h2 => ⟨by have : W.heap.size ≤ k := h1; omega, h2⟩)
  replace hS := (keep_and (keep_and (keep_and (keep_and (keep_and (keep_and (keep_B (Res.below)))))))) hS hb1
  have hz1 : w.heap.size + 3 ≤ w1.heap.size := by have := hb1.size; omega
  clear cc0 cc1 cc2 cc3 cc4 cc5 hB hb1 hR2
  obtain ⟨cc0, cc1, cc2, cc3, cc4, cc5, hB, hR2⟩ := id hS
  obtain ⟨nr, ur, lr, rfl, hur, hzr, hlr⟩ := id hr1
  obtain ⟨Ar, cr, rfl⟩ := hur.slice
  clear hur hzr hs1
  have l0 : w.heap.size < w1.heap.size := by omega
  have l1 : w.heap.size + 1 < w1.heap.size := by omega
  have l2 : w.heap.size + 2 < w1.heap.size := by omega
  go_wp2_with fail
  obtain ⟨W2, hW2⟩ : ∃ W2, ((w1.alloc (Obj.cells #[Value.bool nr, Value.slice Ar lr.length cr] 38)).alloc (Obj.cells #[Value.bool false, Value.slice As1 (dig D1).length cs1] 38)) = W2 := ⟨_, rfl⟩
  have hs2 : W2.heap.size = w1.heap.size + 2 := by rw [← hW2]; simp
  have hb12 : Below w1.heap.size w1 W2 := by rw [← hW2]; exact ((Below.refl _ _).alloc (by simp) _).alloc (by simp) _
  have k0 : W2.cell? ⟨w1.heap.size, 0, none⟩ = some (.bool nr) := by subst hW2; simp [go_sem]
  have k1 : W2.cell? ⟨w1.heap.size, 1, none⟩ = some (.slice Ar lr.length cr) := by subst hW2; simp [go_sem]
  have k2 : W2.cell? ⟨w1.heap.size + 1, 0, none⟩ = some (.bool false) := by subst hW2; simp [go_sem]
  have k3 : W2.cell? ⟨w1.heap.size + 1, 1, none⟩ = some (.slice As1 (dig D1).length cs1) := by subst hW2; simp [go_sem]
  rw [hW2]
  clear hW2
  replace hr1 := hr1.below hb12
  replace hns1 := hns1.below hb12
  replace hS := (keep_and (keep_and (keep_and (keep_and (keep_and (keep_and (keep_B (Res.below)))))))) hS hb12
  clear cc0 cc1 cc2 cc3 cc4 cc5 hB hb12 hR2
  obtain ⟨cc0, cc1, cc2, cc3, cc4, cc5, hB, hR2⟩ := id hS
  refine (rat_parts _ (hu0.below hB) h2 (by omega)).mono ?_
  rintro e w3 ⟨r2, s2, z2, D2, rfl, hr2, hs2', hD2, hl2, hq2, hb3⟩
  replace hr2 := hr2.mono (T := fun k => k < w.heap.size) (fun k h _ => h)
  obtain ⟨As2, cs2, rfl, hns2⟩ := hs2'.pos
  replace hns2 := hns2.mono (T := fun k => w.heap.size + 3 ≤ k ∧ k < w3.heap.size) (fun k h1 h2 => ⟨by have : W2.heap.size ≤ k := h1; omega, h2⟩)
  replace hS := (keep_and (keep_and (keep_and (keep_and (keep_and (keep_and (keep_B (Res.below)))))))) hS hb3
  have hk := (keep_and (keep_and (keep_and keep_cell))) ⟨k0, k1, k2, k3⟩ hb3
  replace hr1 := hr1.below hb3
  replace hns1 := hns1.below hb3
  have l3 : w1.heap.size + 2 ≤ w3.heap.size := by have := hb3.size; omega
  clear cc0 cc1 cc2 cc3 cc4 cc5 hB hb3 k0 k1 k2 k3 hs2 hR2 hs2'
  obtain ⟨cc0, cc1, cc2, cc3, cc4, cc5, hB, hR2⟩ := id hS
  obtain ⟨k0, k1, k2, k3⟩ := id hk
  obtain ⟨nr2, ur2, lr2, rfl, hur2, hzr2, hlr2⟩ := id hr2
  obtain ⟨Ar2, cr2, rfl⟩ := hur2.slice
  clear hur2 hzr2
  go_wp2_with fail
  obtain ⟨W4, hW4⟩ : ∃ W4, ((w3.alloc (Obj.cells #[Value.bool nr2, Value.slice Ar2 lr2.length cr2] 38)).alloc (Obj.cells #[Value.bool false, Value.slice As2 (dig D2).length cs2] 38)) = W4 := ⟨_, rfl⟩
  have hb34 : Below w3.heap.size w3 W4 := by rw [← hW4]; exact ((Below.refl _ _).alloc (by simp) _).alloc (by simp) _
  have k4 : W4.cell? ⟨w3.heap.size, 0, none⟩ = some (.bool nr2) := by subst hW4; simp [go_sem]
  have k5 : W4.cell? ⟨w3.heap.size, 1, none⟩ = some (.slice Ar2 lr2.length cr2) := by subst hW4; simp [go_sem]
  have k6 : W4.cell? ⟨w3.heap.size + 1, 0, none⟩ = some (.bool false) := by subst hW4; simp [go_sem]
  have k7 : W4.cell? ⟨w3.heap.size + 1, 1, none⟩ = some (.slice As2 (dig D2).length cs2) := by subst hW4; simp [go_sem]
  rw [hW4]
  clear hW4
  replace hr1 := hr1.below hb34
  replace hns1 := hns1.below hb34
  replace hr2 := hr2.below hb34
  replace hns2 := hns2.below hb34
  replace hS := (keep_and (keep_and (keep_and (keep_and (keep_and (keep_and (keep_B (Res.below)))))))) hS hb34
  replace hk := (keep_and (keep_and (keep_and keep_cell))) hk hb34
  clear cc0 cc1 cc2 cc3 cc4 cc5 hB hb34 k0 k1 k2 k3 hR2
  obtain ⟨cc0, cc1, cc2, cc3, cc4, cc5, hB, hR2⟩ := id hS
  obtain ⟨k0, k1, k2, k3⟩ := id hk
  clear cc0 cc1 cc2 cc3 cc4 cc5 hS hk l0 l1
  generalize w1.heap.size = N1 at *
  generalize w3.heap.size = N2 at *
  have hmn : m + n ≤ 35184372088830 := by omega
  have hs1 : sz (z1 * (D2 : Nat)) ≤ 35184372088829 := by have := sz_mul z1 (D2 : Nat); have := hr1.sz; have : sz ((D2 : Nat) : Int) = (dig D2).length := rfl; omega
  have hs2 : sz ((D1 : Nat) * z2) ≤ 35184372088829 := by have := sz_mul (D1 : Nat) z2; have := hr2.sz; have : sz ((D1 : Nat) : Int) = (dig D1).length := rfl; omega
  have hQ : As ((((z1 * (D2 : Nat) : Int) : Rat) / (((D1 : Nat) * z2 : Int) : Rat)) = p / q) := ⟨by rw [rat_div_eq _ _ _ _ hD1 hD2, hq1, hq2]⟩
  have hY2 : As (decide ((D1 : Nat) * z2 ≠ 0) = Y) := ⟨by
    rw [← hY.out, ← hq2]
    refine decide_eq_decide.2 (not_congr ?_)
    rw [rat_ne0 z2 D2 hD2, Int.mul_eq_zero]
    constructor
    · rintro (h | h)
      · omega
      · exact h
    · exact .inr⟩
  go_region_held3 (fun w' => w'.cell? ⟨N1, 0, none⟩ = some (.bool nr) ∧ w'.cell? ⟨N1, 1, none⟩ = some (.slice Ar lr.length cr) ∧ w'.cell? ⟨N1 + 1, 0, none⟩ = some (.bool false) ∧ w'.cell? ⟨N1 + 1, 1, none⟩ = some (.slice As1 (dig D1).length cs1) ∧ w'.cell? ⟨N2, 0, none⟩ = some (.bool nr2) ∧ w'.cell? ⟨N2, 1, none⟩ = some (.slice Ar2 lr2.length cr2) ∧ w'.cell? ⟨N2 + 1, 0, none⟩ = some (.bool false) ∧ w'.cell? ⟨N2 + 1, 1, none⟩ = some (.slice As2 (dig D2).length cs2) ∧ IntI (fun k => k < w.heap.size) w' (Value.agg #[Value.bool nr, Value.slice Ar lr.length cr]) z1 m ∧ IntI (fun k => k < w.heap.size) w' (Value.agg #[Value.bool nr2, Value.slice Ar2 lr2.length cr2]) z2 n ∧ NumV (fun k => w.heap.size + 3 ≤ k ∧ k < N1) w' (Value.slice As1 (dig D1).length cs1) (dig D1) ∧ NumV (fun k => w.heap.size + 3 ≤ k ∧ k < N2) w' (Value.slice As2 (dig D2).length cs2) (dig D2) ∧ Below w.heap.size w w' ∧ Res w' (w.heap.size + 2) 3)
    ((first
      | exact (keep_and (keep_and (keep_and (keep_and (keep_and (keep_and (keep_and (keep_and (keep_p IntI.below (keep_p IntI.below (keep_p NumV.below (keep_p NumV.below (keep_B (Res.below)))))))))))))) ⟨k0, k1, k2, k3, k4, k5, k6, k7, hr1, hr2, hns1, hns2, hB, hR2⟩ (below_drew _)
      | exact (keep_and (keep_and (keep_and (keep_and (keep_and (keep_and (keep_and (keep_and (keep_p IntI.below (keep_p IntI.below (keep_p NumV.below (keep_p NumV.below (keep_B (Res.below)))))))))))))) (by assumption) (below_drew _)
      | exact (keep_and (keep_and (keep_and (keep_and (keep_and (keep_and (keep_and (keep_and (keep_p IntI.below (keep_p IntI.below (keep_p NumV.below (keep_p NumV.below (keep_B (Res.below)))))))))))))) (by assumption) (by assumption)
      | exact (set_held (by simp <;> omega) (set_held (by simp <;> omega) (set_held (by simp <;> omega) (set_held (by simp <;> omega) (set_held (by simp <;> omega) (set_held (by simp <;> omega) (set_held (by simp <;> omega) (set_held (by simp <;> omega) (set_p (set_I (by intro k hk; simp <;> omega)) (set_p (set_I (by intro k hk; simp <;> omega)) (set_p (set_N (by simp <;> omega)) (set_p (set_N (by simp <;> omega)) (set_B (by simp <;> omega) (set_R1)))))))))))))) ((set_held (by simp <;> omega) (set_held (by simp <;> omega) (set_held (by simp <;> omega) (set_held (by simp <;> omega) (set_held (by simp <;> omega) (set_held (by simp <;> omega) (set_held (by simp <;> omega) (set_held (by simp <;> omega) (set_p (set_I (by intro k hk; simp <;> omega)) (set_p (set_I (by intro k hk; simp <;> omega)) (set_p (set_N (by simp <;> omega)) (set_p (set_N (by simp <;> omega)) (set_B (by simp <;> omega) (set_R1)))))))))))))) ((set_held (by simp <;> omega) (set_held (by simp <;> omega) (set_held (by simp <;> omega) (set_held (by simp <;> omega) (set_held (by simp <;> omega) (set_held (by simp <;> omega) (set_held (by simp <;> omega) (set_held (by simp <;> omega) (set_p (set_I (by intro k hk; simp <;> omega)) (set_p (set_I (by intro k hk; simp <;> omega)) (set_p (set_N (by simp <;> omega)) (set_p (set_N (by simp <;> omega)) (set_B (by simp <;> omega) (set_R1)))))))))))))) (by assumption)))))
    (first
      | (go_at_call 56; obtain ⟨_, _, _, _, _, _, _, _, hI1, hI2, hN1, hN2, hB1, hRg13⟩ := ‹(_ = some _) ∧ (_ = some _) ∧ (_ = some _) ∧ (_ = some _) ∧ (_ = some _) ∧ (_ = some _) ∧ (_ = some _) ∧ (_ = some _) ∧ IntI _ _ _ _ _ ∧ IntI _ _ _ _ _ ∧ NumV _ _ _ _ ∧ NumV _ _ _ _ ∧ Below _ _ _ ∧ Res _ _ _›; first | (with_reducible refine (int_mul _ hI1 (hN2.posI hl2) hmn).mono ?_; rintro e w5 ⟨r5, rfl, hM1, hb⟩; (try replace hM2 := hM2.below hb)) | (with_reducible refine (int_mul _ (hN1.posI hl1) hI2 hmn).mono ?_; rintro e w5 ⟨r5, rfl, hM2, hb⟩; (try replace hM1 := hM1.below hb)))
      | (go_at_call 58; obtain ⟨_, _, _, _, _, _, _, _, hI1, hI2, hN1, hN2, hB1, hRg13⟩ := ‹(_ = some _) ∧ (_ = some _) ∧ (_ = some _) ∧ (_ = some _) ∧ (_ = some _) ∧ (_ = some _) ∧ (_ = some _) ∧ (_ = some _) ∧ IntI _ _ _ _ _ ∧ IntI _ _ _ _ _ ∧ NumV _ _ _ _ ∧ NumV _ _ _ _ ∧ Below _ _ _ ∧ Res _ _ _›; refine (rat_Make _ hM1.i hM2.i hs1 hs2).mono ?_; rw [hY2.out]; rintro e w7 ⟨r7, rfl, hL, hb⟩; obtain ⟨A7, c7, B7, d7, rfl⟩ := hL.slice; obtain ⟨⟨⟨x4, h4⟩, f4⟩, ⟨⟨x5, h5⟩, f5⟩, ⟨x6, h6⟩, f6⟩ := And.intro ((hRg13.below hb).2 0 (by omega)) (And.intro ((hRg13.below hb).2 1 (by omega)) ((hRg13.below hb).2 2 (by omega)))))
  all_goals
    go_wp2_with fail
    refine bodyPost_ret (v := .tuple #[.agg #[.bool (decide ((((z1 * (D2 : Nat) : Int) : Rat) / (((D1 : Nat) * z2 : Int) : Rat)).num < 0)), .slice A7 (sz (((z1 * (D2 : Nat) : Int) : Rat) / (((D1 : Nat) * z2 : Int) : Rat)).num) c7, .slice B7 (dig (((z1 * (D2 : Nat) : Int) : Rat) / (((D1 : Nat) * z2 : Int) : Rat)).den).length d7], .bool Y]) (by simp [results, Try.results26, go_sem, h4, h5, h6]) rfl ?_
    have hst := fun x y z => RatV.stored (x := x) (y := y) (z := z) (show w.heap.size ≤ w.heap.size + 2 by omega) hRg13 hL
    rw [hQ.out] at hst ⊢
    exact ⟨_, rfl, hst _ _ _, (((hB1.after hB1.size hb).setCell (by simp <;> omega) _).setCell (by simp <;> omega) _).setCell (by simp <;> omega) _⟩
end Go.Proofs.Ytdbpjnjgjmfomaa

/- classical: fraction, zero, scores. -/
namespace Go.Proofs.Ytdbpjnjgjmfomaa
open Go.RowKit

def i64s (l : List Int) : List Value := l.map (Value.int .i64)
theorem i64s_length (l : List Int) : (i64s l).length = l.length := by simp [i64s]
theorem i64s_get (l : List Int) (j : Nat) (h : j < l.length) : (i64s l)[j]? = some (.int .i64 (l.getD j 0)) := by
  simp [i64s, List.getElem?_eq_getElem h, List.getD_eq_getElem?_getD]
/-- A value of type []int reads as l. -/
def IntsV (S : Nat → Prop) (w : World) (v : Value) (l : List Int) : Prop := ∃ A c, v = .slice A l.length c ∧ l.length ≤ c ∧ Rd S w A (i64s l)
theorem IntsV.step {S : Nat → Prop} {w w1 : World} {v : Value} {l : List Int} (h : IntsV S w v l) (hm : ∀ k, S k → k < w.heap.size → w1.heap[k]? = w.heap[k]?) : IntsV S w1 v l := by
  obtain ⟨A, c, rfl, hc, hr⟩ := h
  exact ⟨A, c, rfl, hc, hr.step hm⟩
theorem IntsV.below {S : Nat → Prop} {w w1 : World} {v : Value} {l : List Int} (h : IntsV S w v l) (hb : Below w.heap.size w w1) : IntsV S w1 v l := h.step (fun k _ hk => hb.block k hk)
theorem IntsV.mono {S T : Nat → Prop} {w : World} {v : Value} {l : List Int} (h : IntsV S w v l) (hm : ∀ k, S k → k < w.heap.size → T k) : IntsV T w v l := by
  obtain ⟨A, c, rfl, hc, hr⟩ := h
  exact ⟨A, c, rfl, hc, hr.mono hm⟩
theorem IntsV.slice {S : Nat → Prop} {w : World} {v : Value} {l : List Int} (h : IntsV S w v l) : ∃ A c, v = .slice A l.length c := by
  obtain ⟨A, c, e, _⟩ := h
  exact ⟨A, c, e⟩
theorem IntsV.cells {S : Nat → Prop} {w : World} {A : Option Addr} {n c : Nat} {l : List Int} (h : IntsV S w (.slice A n c) l) (hl : 0 < l.length) : ∃ ad, A = some ad ∧ ∀ i, i < l.length → w.cell? (ad.add i) = some (.int .i64 (l.getD i 0)) := by
  obtain ⟨A', c', e, hc, hr⟩ := h
  injection e with e1 e2 e3
  subst e1
  obtain ⟨ad, e, _, hc⟩ := hr (fun e => by rw [← List.length_eq_zero_iff, i64s_length] at e; omega)
  exact ⟨ad, e, fun i hi => hc i _ (i64s_get l i hi)⟩

set_option maxHeartbeats 8000000 in
set_option maxRecDepth 100000 in
theorem cls_fraction (w : World) (x y : Int) (hx0 : -9223372036854775808 ≤ x) (hx1 : x ≤ 9223372036854775807) (hy0 : -9223372036854775808 ≤ y) (hy1 : y ≤ 9223372036854775807) :
    Calls Try.prog 50 #[.int .i64 x, .int .i64 y] w fun e w' => ∃ r, e = .returned r ∧ RatV (New w) w' r ((x : Rat) / (y : Rat)) ∧ Below w.heap.size w w' := by
  obtain ⟨q, hq⟩ : ∃ q, ((x : Rat) / (y : Rat)) = q := ⟨_, rfl⟩
  replace hq := As.mk hq
  rw [hq.out]
  go_enter Try.func50, Try.ntmps50
  go_wp2_with fail
  obtain ⟨W, hW⟩ : ∃ W, (w.alloc (Obj.cells #[Value.bool false, Value.slice none 0 0, Value.slice none 0 0] 40)) = W := ⟨_, rfl⟩
  have hB : Below w.heap.size w W := by rw [← hW]; exact (Below.refl _ _).alloc (by simp) _
  have hs : W.heap.size = w.heap.size + 1 := by rw [← hW]; simp
  have hR : Res W w.heap.size 3 := ⟨by omega, fun i hi => by
    subst hW
    rcases (by omega : i = 0 ∨ i = 1 ∨ i = 2) with rfl | rfl | rfl
    · exact ⟨⟨.bool false, by simp [go_sem]⟩, by simp [go_sem]⟩
    · exact ⟨⟨.slice none 0 0, by simp [go_sem]⟩, by simp [go_sem]⟩
    · exact ⟨⟨.slice none 0 0, by simp [go_sem]⟩, by simp [go_sem]⟩⟩
  rw [hW]
  clear hW
  have hS := And.intro hB hR
  clear hB hR
  refine (rat_Of _ x y hx0 hx1 hy0 hy1).mono ?_
  rintro e w3 ⟨r, rfl, hL, hb⟩
  rw [hq.out] at hL
  obtain ⟨A7, c7, B7, d7, rfl⟩ := hL.slice
  have hst := As.mk (fun o x y z => RatV.stored (x := x) (y := y) (z := z) (show w.heap.size ≤ w.heap.size by omega) hS.2 hL |>.below ((Below.refl _ _).alloc (Nat.le_refl _) o))
  have hl0 : w.heap.size < w3.heap.size := by have := hb.size; omega
  replace hS := keep_last hS hb
  have hB9 : As (∀ o x y z, Below w.heap.size w ((((w3.setCell ⟨w.heap.size, 0, none⟩ x).setCell ⟨w.heap.size, 1, none⟩ y).setCell ⟨w.heap.size, 2, none⟩ z).alloc o)) := ⟨fun o x y z => (((hS.1.setCell (Nat.le_refl _) _).setCell (Nat.le_refl _) _).setCell (Nat.le_refl _) _).alloc (by simp [World.setCell]; omega) o⟩
  have hne : w.heap.size ≠ w3.heap.size := by omega
  obtain ⟨⟨⟨x4, h4⟩, f4⟩, ⟨⟨x5, h5⟩, f5⟩, ⟨x6, h6⟩, f6⟩ := And.intro (hS.2.2 0 (by omega)) (And.intro (hS.2.2 1 (by omega)) (hS.2.2 2 (by omega)))
  clear hS hL hb hs
  go_wp2_with fail
  refine bodyPost_ret (v := .agg #[.bool (decide (q.num < 0)), .slice A7 (sz q.num) c7, .slice B7 (dig q.den).length d7]) (by simp [results, Try.results50, go_sem, h4, h5, h6, hl0]) rfl ?_
  exact ⟨_, rfl, hst.out _ _ _ _, hB9.out _ _ _ _⟩

set_option maxHeartbeats 8000000 in
set_option maxRecDepth 100000 in
theorem cls_zero (w : World) :
    Calls Try.prog 49 #[] w fun e w' => ∃ r, e = .returned r ∧ RatV (New w) w' r 0 ∧ Below w.heap.size w w' := by
  have h0 : ((0 : Int) : Rat) / ((1 : Int) : Rat) = 0 := by simp [Rat.div_def]
  replace h0 := As.mk h0
  go_enter Try.func49, Try.ntmps49
  go_wp2_with fail
  obtain ⟨W, hW⟩ : ∃ W, (w.alloc (Obj.cells #[Value.bool false, Value.slice none 0 0, Value.slice none 0 0] 40)) = W := ⟨_, rfl⟩
  have hB : Below w.heap.size w W := by rw [← hW]; exact (Below.refl _ _).alloc (by simp) _
  have hs : W.heap.size = w.heap.size + 1 := by rw [← hW]; simp
  have hR : Res W w.heap.size 3 := ⟨by omega, fun i hi => by
    subst hW
    rcases (by omega : i = 0 ∨ i = 1 ∨ i = 2) with rfl | rfl | rfl
    · exact ⟨⟨.bool false, by simp [go_sem]⟩, by simp [go_sem]⟩
    · exact ⟨⟨.slice none 0 0, by simp [go_sem]⟩, by simp [go_sem]⟩
    · exact ⟨⟨.slice none 0 0, by simp [go_sem]⟩, by simp [go_sem]⟩⟩
  rw [hW]
  clear hW
  have hS := And.intro hB hR
  clear hB hR
  refine (cls_fraction _ 0 1 (by omega) (by omega) (by omega) (by omega)).mono ?_
  rintro e w3 ⟨r, rfl, hL, hb⟩
  rw [h0.out] at hL
  obtain ⟨A7, c7, B7, d7, rfl⟩ := hL.slice
  have hst := As.mk (fun x y z => RatV.stored (x := x) (y := y) (z := z) (show w.heap.size ≤ w.heap.size by omega) hS.2 hL)
  replace hS := keep_last hS hb
  obtain ⟨⟨⟨x4, h4⟩, f4⟩, ⟨⟨x5, h5⟩, f5⟩, ⟨x6, h6⟩, f6⟩ := And.intro (hS.2.2 0 (by omega)) (And.intro (hS.2.2 1 (by omega)) (hS.2.2 2 (by omega)))
  have hB9 := As.mk hS.1
  clear hS hL hb hs
  go_wp2_with fail
  refine bodyPost_ret (v := .agg #[.bool (decide ((0 : Rat).num < 0)), .slice A7 (sz (0 : Rat).num) c7, .slice B7 (dig (0 : Rat).den).length d7]) (by simp [results, Try.results49, go_sem, h4, h5, h6]) rfl ?_
  exact ⟨_, rfl, hst.out _ _ _, ((hB9.out.setCell (by simp <;> omega) _).setCell (by simp <;> omega) _).setCell (by simp <;> omega) _⟩

end Go.Proofs.Ytdbpjnjgjmfomaa

/- classical: scores. -/
namespace Go.Proofs.Ytdbpjnjgjmfomaa
open Go.RowKit

/-- All scores lie within their bounds. -/
def okScores (l : List Int) : Bool := l.all (fun z => decide (-1000000 ≤ z) && decide (z ≤ 1000000))
theorem okScores_at {l : List Int} (h : okScores l = true) (i : Nat) (hi : i < l.length) : -1000000 ≤ l.getD i 0 ∧ l.getD i 0 ≤ 1000000 := by
  have := List.all_eq_true.1 h (l.getD i 0) (by rw [List.getD_eq_getElem?_getD, List.getElem?_eq_getElem hi]; exact List.getElem_mem hi)
  simpa using this

set_option maxHeartbeats 4000000 in
set_option maxRecDepth 100000 in
theorem cls_scores {S : Nat → Prop} {v : Value} {l : List Int} (w : World) (hv : IntsV S w v l) (hm : l.length ≤ 140737488351232) :
    Calls Try.prog 42 #[v] w fun e w' => e = .returned (.bool (okScores l)) ∧ Drawn w w' := by
  obtain ⟨A, c, rfl⟩ := hv.slice
  obtain ⟨n, hn⟩ : ∃ n, l.length = n := ⟨_, rfl⟩
  rw [hn] at hm ⊢
  rw [hn] at hv
  replace hn := As.mk hn
  go_enter Try.func42, Try.ntmps42
  go_wp2_with fail
  go_loopw [4, 7] (fun _ v7 wr => ∃ k : Nat, k ≤ n ∧ v7 = .int .i64 k ∧ As (okScores l = okScores (l.drop k)) ∧ Drawn w wr) (fun _ v7 _ => (n - intOf v7).toNat)
  case atStart => exact ⟨0, by omega, rfl, ⟨by simp⟩, by repeat (first | exact Drawn.refl _ | apply Drawn.step)⟩
  case round =>
    obtain ⟨k, hk, rfl, hI, hd⟩ := hrel
    by_cases hlt : k < n
    · obtain ⟨ad, hA, hc⟩ := (hv.below hd.below).cells (by have := hn.out; omega)
      subst hA
      have hck := hc k (by have := hn.out; omega)
      have hst : As (okScores (l.drop k) = (decide (-1000000 ≤ l.getD k 0) && decide (l.getD k 0 ≤ 1000000) && okScores (l.drop (k + 1)))) := ⟨by
        have hkl : k < l.length := by have := hn.out; omega
        unfold okScores
        rw [List.drop_eq_getElem_cons hkl, List.all_cons, List.getD_eq_getElem?_getD, List.getElem?_eq_getElem hkl]; rfl⟩
      clear hc
      generalize l.getD k 0 = x at *
      by_cases h1 : x < -1000000
      · have R : As (okScores l = false) := ⟨by rw [hI.out, hst.out, decide_eq_false (by omega)]; rfl⟩
        clear hI hst
        go_wp2_with fail
        go_ret
        exact ⟨by rw [R.out]; rfl, by repeat (first | exact hd | apply Drawn.step)⟩
      · by_cases h2 : 1000000 < x
        · have R : As (okScores l = false) := ⟨by rw [hI.out, hst.out, decide_eq_false (show ¬ x ≤ 1000000 by omega)]; simp⟩
          clear hI hst
          go_wp2_with fail
          go_ret
          exact ⟨by rw [R.out]; rfl, by repeat (first | exact hd | apply Drawn.step)⟩
        · have R : As (okScores l = okScores (l.drop (k + 1))) := ⟨by rw [hI.out, hst.out, decide_eq_true (show x ≤ 1000000 by omega), decide_eq_true (show -1000000 ≤ x by omega)]; simp⟩
          clear hI hst
          go_wp2_with fail
          go_roundw
          case rel => exact ⟨k + 1, by omega, by go_num, R, by repeat (first | exact hd | apply Drawn.step)⟩
          case measure => simp [intOf]; omega
    · obtain rfl : k = n := by omega
      have R : As (okScores l = true) := ⟨by rw [hI.out, ← hn.out]; simp [okScores]⟩
      clear hI
      go_wp2_with fail
      go_ret
      exact ⟨by rw [R.out]; rfl, by repeat (first | exact hd | apply Drawn.step)⟩
end Go.Proofs.Ytdbpjnjgjmfomaa

/- How many limbs sums, products and quotients of ratios have. -/
namespace Go.Proofs.Ytdbpjnjgjmfomaa
open Go.RowKit

theorem rz_frac (z : Int) (D : Nat) (hD : 0 < D) : rz ((z : Rat) / (D : Rat)) ≤ max (sz z) (dig D).length := by
  unfold rz sz
  rw [low_num z D hD, low_den z D hD]
  have h1 : ((z.natAbs.gcd D : Nat) : Int) ∣ z := Int.ofNat_dvd_left.2 (Nat.gcd_dvd_left _ _)
  rw [Int.natAbs_ediv_of_dvd h1]
  have h2 := dig_len_mono (Nat.div_le_self z.natAbs ((z.natAbs.gcd D : Nat) : Int).natAbs)
  have h3 := dig_len_mono (Nat.div_le_self D (z.natAbs.gcd D))
  omega
theorem rz_pos (q : Rat) : 1 ≤ rz q := by
  unfold rz
  have h : 0 < (dig q.den).length := by
    rcases Nat.eq_zero_or_pos (dig q.den).length with h | h
    · have := (dig_nil_iff q.den).1 h
      exact absurd this q.den_nz
    · exact h
  omega
theorem rz_parts (q : Rat) : sz q.num ≤ rz q ∧ (dig q.den).length ≤ rz q := ⟨Nat.le_max_left _ _, Nat.le_max_right _ _⟩
theorem den_pos (q : Rat) : 0 < q.den := Nat.pos_of_ne_zero q.den_nz
theorem rz_mul (p q : Rat) : rz (p * q) ≤ rz p + rz q := by
  have e := rat_mul_eq p.num q.num p.den q.den (den_pos p) (den_pos q)
  rw [rat_nd, rat_nd] at e
  rw [← e]
  have h1 := rz_frac (p.num * q.num) (p.den * q.den) (Nat.mul_pos (den_pos p) (den_pos q))
  have h2 := sz_mul p.num q.num
  have h3 := dig_len_mul p.den q.den
  have := rz_parts p; have := rz_parts q
  omega
theorem rz_add (p q : Rat) : rz (p + q) ≤ rz p + rz q + 1 := by
  have e := rat_add_eq p.num q.num p.den q.den (den_pos p) (den_pos q)
  rw [rat_nd, rat_nd] at e
  rw [← e]
  have h1 := rz_frac (p.num * (q.den : Nat) + q.num * (p.den : Nat)) (p.den * q.den) (Nat.mul_pos (den_pos p) (den_pos q))
  have h2 := sz_add (p.num * (q.den : Nat)) (q.num * (p.den : Nat))
  have h4 := sz_mul p.num (q.den : Nat)
  have h5 := sz_mul q.num (p.den : Nat)
  have h6 : sz ((q.den : Nat) : Int) = (dig q.den).length := rfl
  have h7 : sz ((p.den : Nat) : Int) = (dig p.den).length := rfl
  have h3 := dig_len_mul p.den q.den
  have := rz_parts p; have := rz_parts q
  omega
theorem rz_sub (p q : Rat) : rz (p - q) ≤ rz p + rz q + 1 := by
  have e := rat_sub_eq p.num q.num p.den q.den (den_pos p) (den_pos q)
  rw [rat_nd, rat_nd] at e
  rw [← e]
  have h1 := rz_frac (p.num * (q.den : Nat) - q.num * (p.den : Nat)) (p.den * q.den) (Nat.mul_pos (den_pos p) (den_pos q))
  have h2 := sz_sub (p.num * (q.den : Nat)) (q.num * (p.den : Nat))
  have h4 := sz_mul p.num (q.den : Nat)
  have h5 := sz_mul q.num (p.den : Nat)
  have h6 : sz ((q.den : Nat) : Int) = (dig q.den).length := rfl
  have h7 : sz ((p.den : Nat) : Int) = (dig p.den).length := rfl
  have h3 := dig_len_mul p.den q.den
  have := rz_parts p; have := rz_parts q
  omega
theorem rz_int (x y : Int) : rz ((x : Rat) / (y : Rat)) ≤ max (sz x) (max (sz y) 1) := by
  have hx : x = iv (decide (x < 0)) (dig x.natAbs) := (iv_dig x).symm
  have hy : y = iv (decide (y < 0)) (dig y.natAbs) := (iv_dig y).symm
  have e := make_eq (decide (x < 0)) (decide (y < 0)) (dig x.natAbs) (dig y.natAbs)
  rw [iv_dig, iv_dig, nv_dig] at e
  rw [← e]
  rcases Nat.eq_zero_or_pos y.natAbs with h | h
  · rw [h, low_zero _ 0 (.inr rfl)]
    have : rz 0 ≤ 1 := by
      unfold rz
      have h1 : sz (0 : Rat).num = 0 := by show (dig 0).length = 0; exact (dig_nil_iff 0).2 rfl
      have h2 := dig_one_len
      have h3 : (0 : Rat).den = 1 := rfl
      rw [h3]
      omega
    omega
  · have h1 := rz_frac (iv (!decide (x < 0) == decide (y < 0)) (dig x.natAbs)) y.natAbs h
    have h2 : sz (iv (!decide (x < 0) == decide (y < 0)) (dig x.natAbs)) = sz x := by unfold sz; rw [iv_natAbs, nv_dig]
    rw [h2] at h1
    have h3 : sz y = (dig y.natAbs).length := rfl
    omega
theorem rz_small (x y : Int) (hx : x.natAbs < 18446744073709551616) (hy : y.natAbs < 18446744073709551616) : rz ((x : Rat) / (y : Rat)) ≤ 2 := by
  have h1 := rz_int x y
  have h2 := sz_small hx
  have h3 := sz_small hy
  omega
theorem rz_inv (q : Rat) : rz q⁻¹ ≤ rz q := by
  have e : q⁻¹ = ((q.den : Nat) : Int) / (q.num : Rat) := by
    have := rat_nd q
    conv => lhs; rw [← this]
    rw [Rat.intCast_natCast]
    simp only [Rat.div_def, Rat.inv_mul_rev, Rat.inv_inv]
  rw [e]
  have h1 := rz_int ((q.den : Nat) : Int) q.num
  have h2 : sz ((q.den : Nat) : Int) = (dig q.den).length := rfl
  have := rz_parts q; have := rz_pos q
  omega
theorem rz_div (p q : Rat) : rz (p / q) ≤ rz p + rz q := by
  rw [Rat.div_def]
  have := rz_mul p q⁻¹
  have := rz_inv q
  omega
end Go.Proofs.Ytdbpjnjgjmfomaa

/- classical: the covariance of two lists. -/
namespace Go.Proofs.Ytdbpjnjgjmfomaa
open Go.RowKit

def sm (x : List Int) : Nat → Int
  | 0 => 0
  | k + 1 => sm x k + x.getD k 0
def dt (x y : List Int) : Nat → Int
  | 0 => 0
  | k + 1 => dt x y k + x.getD k 0 * y.getD k 0
/-- All numbers lie within 10^8. -/
def Mod (x : List Int) : Prop := ∀ i, -100000000 ≤ x.getD i 0 ∧ x.getD i 0 ≤ 100000000
theorem prod_le {a b : Int} (ha : -100000000 ≤ a ∧ a ≤ 100000000) (hb : -100000000 ≤ b ∧ b ≤ 100000000) : -10000000000000000 ≤ a * b ∧ a * b ≤ 10000000000000000 := by
  have h : (a * b).natAbs ≤ 100000000 * 100000000 := by
    rw [Int.natAbs_mul]; exact Nat.mul_le_mul (by omega) (by omega)
  omega
theorem sm_le {x : List Int} (h : Mod x) (k : Nat) : -(100000000 * (k : Int)) ≤ sm x k ∧ sm x k ≤ 100000000 * (k : Int) := by
  induction k with
  | zero => simp [sm]
  | succ k ih => rw [sm]; have := h k; omega
theorem dt_le {x y : List Int} (h : Mod x) (h' : Mod y) (k : Nat) : -(10000000000000000 * (k : Int)) ≤ dt x y k ∧ dt x y k ≤ 10000000000000000 * (k : Int) := by
  induction k with
  | zero => simp [dt]
  | succ k ih => rw [dt]; have := prod_le (h k) (h' k); omega
/-- The covariance. -/
def covR (x y : List Int) : Rat := ((dt x y x.length : Int) : Rat) / ((x.length : Int) : Rat) - ((sm x x.length : Int) : Rat) / ((x.length : Int) : Rat) * (((sm y x.length : Int) : Rat) / ((x.length : Int) : Rat))
theorem rz_covR (x y : List Int) (hx : Mod x) (hy : Mod y) (hn : x.length ≤ 200) : rz (covR x y) ≤ 7 := by
  have h1 := sm_le hx x.length
  have h2 := sm_le hy x.length
  have h3 := dt_le hx hy x.length
  have a1 := rz_small (dt x y x.length) (x.length : Int) (by omega) (by omega)
  have a2 := rz_small (sm x x.length) (x.length : Int) (by omega) (by omega)
  have a3 := rz_small (sm y x.length) (x.length : Int) (by omega) (by omega)
  have a4 := rz_mul (((sm x x.length : Int) : Rat) / ((x.length : Int) : Rat)) (((sm y x.length : Int) : Rat) / ((x.length : Int) : Rat))
  have a5 := rz_sub (((dt x y x.length : Int) : Rat) / ((x.length : Int) : Rat)) (((sm x x.length : Int) : Rat) / ((x.length : Int) : Rat) * (((sm y x.length : Int) : Rat) / ((x.length : Int) : Rat)))
  unfold covR
  omega

set_option maxHeartbeats 8000000 in
set_option maxRecDepth 100000 in
theorem cls_cov {S T : Nat → Prop} {v u : Value} {x y : List Int} (w : World) (hv : IntsV S w v x) (hu : IntsV T w u y) (hx : Mod x) (hy : Mod y) (hn : x.length ≤ 200) (hxy : y.length = x.length) :
    Calls Try.prog 52 #[v, u] w fun e w' => ∃ r, e = .returned r ∧ RatV (New w) w' r (covR x y) ∧ Below w.heap.size w w' := by
  obtain ⟨A, c, rfl⟩ := hv.slice
  obtain ⟨B, d, rfl⟩ := hu.slice
  obtain ⟨Q, hQ⟩ : ∃ Q, covR x y = Q := ⟨_, rfl⟩
  rw [hQ]
  replace hQ := As.mk hQ
  rw [hxy] at hu ⊢
  obtain ⟨n, hln⟩ : ∃ n, x.length = n := ⟨_, rfl⟩
  rw [hln] at hn hv hu ⊢
  replace hln := As.mk hln
  replace hxy := As.mk hxy
  go_enter Try.func52, Try.ntmps52
  go_wp2_with fail
  obtain ⟨W, hW⟩ : ∃ W, (w.alloc (Obj.cells #[Value.bool false, Value.slice none 0 0, Value.slice none 0 0] 40)) = W := ⟨_, rfl⟩
  have hB : Below w.heap.size w W := by rw [← hW]; exact (Below.refl _ _).alloc (by simp) _
  have hs : W.heap.size = w.heap.size + 1 := by rw [← hW]; simp
  have hR : Res W w.heap.size 3 := ⟨by omega, fun i hi => by
    subst hW
    rcases (by omega : i = 0 ∨ i = 1 ∨ i = 2) with rfl | rfl | rfl
    · exact ⟨⟨.bool false, by simp [go_sem]⟩, by simp [go_sem]⟩
    · exact ⟨⟨.slice none 0 0, by simp [go_sem]⟩, by simp [go_sem]⟩
    · exact ⟨⟨.slice none 0 0, by simp [go_sem]⟩, by simp [go_sem]⟩⟩
  rw [hW]
  clear hW
  have hS := And.intro hB hR
  clear hB hR
  go_loopw [6, 7, 8, 9, 14] (fun v6 v7 v8 _ v14 wr => ∃ k : Nat, k ≤ n ∧ v14 = .int .i64 k ∧ v6 = .int .i64 (sm x k) ∧ v7 = .int .i64 (sm y k) ∧ v8 = .int .i64 (dt x y k) ∧ Drawn W wr) (fun _ _ _ _ v14 _ => (n - intOf v14).toNat)
  case atStart => exact ⟨0, by omega, rfl, rfl, rfl, rfl, by repeat (first | exact Drawn.refl _ | apply Drawn.step)⟩
  case round =>
    obtain ⟨k, hk, rfl, rfl, rfl, rfl, hd⟩ := hrel
    by_cases hlt : k < n
    · obtain ⟨ad, hA, hca⟩ := (hv.below (hS.1.after hS.1.size hd.below)).cells (by have := hln.out; omega)
      subst hA
      obtain ⟨bd, hA, hcb⟩ := (hu.below (hS.1.after hS.1.size hd.below)).cells (by have := hln.out; have := hxy.out; omega)
      subst hA
      have hX := hca k (by have := hln.out; omega)
      have hY := hcb k (by have := hln.out; have := hxy.out; omega)
      have h1 := sm_le hx k
      have h2 := sm_le hy k
      have h3 := dt_le hx hy k
      have h4 := prod_le (hx k) (hy k)
      have h5 := hx k
      have h6 := hy k
      have e1 := As.mk (show sm x (k + 1) = sm x k + x.getD k 0 from rfl)
      have e2 := As.mk (show sm y (k + 1) = sm y k + y.getD k 0 from rfl)
      have e3 := As.mk (show dt x y (k + 1) = dt x y k + x.getD k 0 * y.getD k 0 from rfl)
      clear hca hcb
      generalize x.getD k 0 = X at *
      generalize y.getD k 0 = Y at *
      generalize sm x k = sx at *
      generalize sm y k = sy at *
      generalize dt x y k = sd at *
      obtain ⟨P, hP⟩ : ∃ P, X * Y = P := ⟨_, rfl⟩
      rw [hP] at h4 e3
      have w1 : IntKind.i64.wrap (X * Y) = P := by rw [hP]; exact IntWalk.i64_in _ (by omega)
      have w2 : IntKind.i64.wrap (sd + P) = sd + P := IntWalk.i64_in _ (by omega)
      have b2 : ((k : Int) < (n : Int)) = True := eq_true (by omega)
      have b3 : (0 ≤ (k : Int)) = True := eq_true (by omega)
      replace hP := As.mk hP
      go_wp2_with fail
      go_quiet (fail)
      go_wp2_with fail
      go_roundw
      case rel => exact ⟨k + 1, by omega, by go_num, by rw [e1.out], by rw [e2.out], by rw [e3.out], by repeat (first | exact hd | apply Drawn.step)⟩
      case measure => simp [intOf]; omega
    · obtain rfl : k = n := by omega
      have h1 := sm_le hx k
      have h2 := sm_le hy k
      have h3 := dt_le hx hy k
      have a1 := rz_small (dt x y k) (k : Int) (by omega) (by omega)
      have a2 := rz_small (sm x k) (k : Int) (by omega) (by omega)
      have a3 := rz_small (sm y k) (k : Int) (by omega) (by omega)
      have a4 := rz_mul (((sm x k : Int) : Rat) / ((k : Int) : Rat)) (((sm y k : Int) : Rat) / ((k : Int) : Rat))
      have p1 := rz_pos (((dt x y k : Int) : Rat) / ((k : Int) : Rat))
      have p2 := rz_pos (((sm x k : Int) : Rat) / ((k : Int) : Rat))
      have p3 := rz_pos (((sm y k : Int) : Rat) / ((k : Int) : Rat))
      have p4 := rz_pos (((sm x k : Int) : Rat) / ((k : Int) : Rat) * (((sm y k : Int) : Rat) / ((k : Int) : Rat)))
      have hfin : As (((dt x y k : Int) : Rat) / ((k : Int) : Rat) - ((sm x k : Int) : Rat) / ((k : Int) : Rat) * (((sm y k : Int) : Rat) / ((k : Int) : Rat)) = Q) := ⟨by rw [← hQ.out]; unfold covR; rw [hln.out]⟩
      clear hQ
      generalize sm x k = sx at *
      generalize sm y k = sy at *
      generalize dt x y k = sd at *
      replace hS := keep_last hS hd.below
      clear hd hv hu
      go_wp2_with fail
      refine (cls_fraction _ sd k (by omega) (by omega) (by omega) (by omega)).mono ?_
      rintro e w1 ⟨r1, rfl, hr1, hb1⟩
      replace hS := keep_last hS hb1
      go_wp2_with fail
      refine (cls_fraction _ sx k (by omega) (by omega) (by omega) (by omega)).mono ?_
      rintro e w2 ⟨r2, rfl, hr2, hb2⟩
      replace hS := keep_last hS hb2
      replace hr1 := hr1.below hb2
      go_wp2_with fail
      refine (cls_fraction _ sy k (by omega) (by omega) (by omega) (by omega)).mono ?_
      rintro e w3 ⟨r3, rfl, hr3, hb3⟩
      replace hS := keep_last hS hb3
      replace hr1 := hr1.below hb3
      replace hr2 := hr2.below hb3
      generalize ((sd : Int) : Rat) / ((k : Int) : Rat) = q1 at *
      generalize ((sx : Int) : Rat) / ((k : Int) : Rat) = q2 at *
      generalize ((sy : Int) : Rat) / ((k : Int) : Rat) = q3 at *
      go_wp2_with fail
      refine (rat_Mul _ hr2.i hr3.i (by omega) (by omega) (by omega)).mono ?_
      rintro e w4 ⟨r4, rfl, hr4, hb4⟩
      replace hS := keep_last hS hb4
      replace hr1 := hr1.below hb4
      go_wp2_with fail
      refine (rat_Sub _ hr1.i hr4.i (by omega) (by omega) (by omega)).mono ?_
      rintro e w5 ⟨r5, rfl, hL, hb5⟩
      rw [hfin.out] at hL
      obtain ⟨A7, c7, B7, d7, rfl⟩ := hL.slice
      have hst := As.mk (fun x y z => RatV.stored (x := x) (y := y) (z := z) (show w.heap.size ≤ w.heap.size by omega) hS.2 hL)
      replace hS := keep_last hS hb5
      obtain ⟨⟨⟨x4, h4⟩, f4⟩, ⟨⟨x5, h5⟩, f5⟩, ⟨x6, h6⟩, f6⟩ := And.intro (hS.2.2 0 (by omega)) (And.intro (hS.2.2 1 (by omega)) (hS.2.2 2 (by omega)))
      have hB9 := As.mk hS.1
      clear hS hL hb1 hb2 hb3 hb4 hb5 hr1 hr2 hr3 hr4 hs
      go_wp2_with fail
      refine bodyPost_ret (v := .agg #[.bool (decide (Q.num < 0)), .slice A7 (sz Q.num) c7, .slice B7 (dig Q.den).length d7]) (by simp [results, Try.results52, go_sem, h4, h5, h6]) rfl ?_
      exact ⟨_, rfl, hst.out _ _ _, ((hB9.out.setCell (by simp <;> omega) _).setCell (by simp <;> omega) _).setCell (by simp <;> omega) _⟩
end Go.Proofs.Ytdbpjnjgjmfomaa

/- classical: lists and Covariance, where the lists are in order. -/
namespace Go.Proofs.Ytdbpjnjgjmfomaa
open Go.RowKit

theorem okScores_mod {l : List Int} (h : okScores l = true) : Mod l := fun i => by
  rcases Nat.lt_or_ge i l.length with hi | hi
  · have := okScores_at h i hi; omega
  · rw [List.getD_eq_getElem?_getD, List.getElem?_eq_none hi]; simp

set_option maxHeartbeats 4000000 in
set_option maxRecDepth 100000 in
theorem cls_lists {S T : Nat → Prop} {v u : Value} {x y : List Int} (w : World) (hv : IntsV S w v x) (hu : IntsV T w u y) (hx : okScores x = true) (hy : okScores y = true) (hn : x.length ≤ 200) (h0 : 0 < x.length) (hxy : y.length = x.length) :
    Calls Try.prog 51 #[v, u] w fun e w' => e = .returned (.int .i64 0) ∧ Drawn w w' := by
  obtain ⟨A, c, rfl⟩ := hv.slice
  obtain ⟨B, d, rfl⟩ := hu.slice
  have s1 := fun m => cls_scores (w.drewN m) (hv.below ((Below.refl _ _).drewsN m)) (by omega)
  have s2 := fun m => cls_scores (w.drewN m) (hu.below ((Below.refl _ _).drewsN m)) (by omega)
  have s0 := cls_scores w hv (by omega)
  rw [hx] at s1 s0
  rw [hy] at s2
  rw [hxy] at s2 ⊢
  clear hv hu hx hy
  replace hxy := As.mk hxy
  obtain ⟨n, hnn⟩ : ∃ n, x.length = n := ⟨_, rfl⟩
  rw [hnn] at s0 s1 s2 hn h0 ⊢
  replace hnn := As.mk hnn
  replace s0 := As.mk s0
  replace s1 := As.mk s1
  replace s2 := As.mk s2
  have l2 : ((n : Int) == 0) = false := beq_eq_false_iff_ne.2 (by omega)
  go_enter Try.func51, Try.ntmps51
  go_wp2_with fail
  refine s0.out.mono ?_
  rintro e w' ⟨rfl, ⟨m1, rfl⟩⟩
  go_wp2_with fail
  refine (s2.out _).mono ?_
  rintro e w' ⟨rfl, ⟨m2, rfl⟩⟩
  go_wp2_with fail
  go_ret
  exact ⟨rfl, by repeat (first | exact Drawn.refl _ | apply Drawn.step)⟩

set_option maxHeartbeats 4000000 in
set_option maxRecDepth 100000 in
theorem cls_Covariance {S T : Nat → Prop} {v u : Value} {x y : List Int} (w : World) (hv : IntsV S w v x) (hu : IntsV T w u y) (hx : okScores x = true) (hy : okScores y = true) (hn : x.length ≤ 200) (h0 : 0 < x.length) (hxy : y.length = x.length) :
    Calls Try.prog 23 #[v, u] w fun e w' => ∃ r, e = .returned (.tuple #[r, .int .i64 0]) ∧ RatV (New w) w' r (covR x y) ∧ Below w.heap.size w w' := by
  obtain ⟨A, c, rfl⟩ := hv.slice
  obtain ⟨B, d, rfl⟩ := hu.slice
  obtain ⟨Q, hQ⟩ : ∃ Q, covR x y = Q := ⟨_, rfl⟩
  rw [hQ]
  replace hQ := As.mk hQ
  have H1 : As (∀ W, Below w.heap.size w W → Calls Try.prog 51 #[.slice A x.length c, .slice B y.length d] W fun e w' => e = .returned (.int .i64 0) ∧ Drawn W w') := ⟨fun W hb => cls_lists W (hv.below hb) (hu.below hb) hx hy hn h0 hxy⟩
  have H2 : As (∀ W, Below w.heap.size w W → Calls Try.prog 52 #[.slice A x.length c, .slice B y.length d] W fun e w' => ∃ r, e = .returned r ∧ RatV (New W) w' r Q ∧ Below W.heap.size W w') := ⟨fun W hb => by
    rw [← hQ.out]
    exact cls_cov W (hv.below hb) (hu.below hb) (okScores_mod hx) (okScores_mod hy) hn hxy⟩
  clear hv hu hx hy hn h0 hxy hQ
  go_enter Try.func23, Try.ntmps23
  go_wp2_with fail
  obtain ⟨W, hW⟩ : ∃ W, (w.alloc (Obj.cells #[Value.bool false, Value.slice none 0 0, Value.slice none 0 0] 40)) = W := ⟨_, rfl⟩
  have hB : Below w.heap.size w W := by rw [← hW]; exact (Below.refl _ _).alloc (by simp) _
  have hs : W.heap.size = w.heap.size + 1 := by rw [← hW]; simp
  have hR : Res W w.heap.size 3 := ⟨by omega, fun i hi => by
    subst hW
    rcases (by omega : i = 0 ∨ i = 1 ∨ i = 2) with rfl | rfl | rfl
    · exact ⟨⟨.bool false, by simp [go_sem]⟩, by simp [go_sem]⟩
    · exact ⟨⟨.slice none 0 0, by simp [go_sem]⟩, by simp [go_sem]⟩
    · exact ⟨⟨.slice none 0 0, by simp [go_sem]⟩, by simp [go_sem]⟩⟩
  rw [hW]
  clear hW
  have hS := And.intro hB hR
  clear hB hR
  refine (H1.out _ hS.1).mono ?_
  rintro e w1 ⟨rfl, hd⟩
  replace hS := keep_last hS hd.below
  clear hd
  go_wp2_with fail
  refine (H2.out _ hS.1).mono ?_
  rintro e w5 ⟨r5, rfl, hL, hb5⟩
  obtain ⟨A7, c7, B7, d7, rfl⟩ := hL.slice
  have hst := As.mk (fun x y z => RatV.stored (x := x) (y := y) (z := z) (show w.heap.size ≤ w.heap.size by omega) hS.2 hL)
  replace hS := keep_last hS hb5
  obtain ⟨⟨⟨x4, h4⟩, f4⟩, ⟨⟨x5, h5⟩, f5⟩, ⟨x6, h6⟩, f6⟩ := And.intro (hS.2.2 0 (by omega)) (And.intro (hS.2.2 1 (by omega)) (hS.2.2 2 (by omega)))
  have hB9 := As.mk hS.1
  clear hS hL hb5 hs
  go_wp2_with fail
  refine bodyPost_ret (v := .tuple #[.agg #[.bool (decide (Q.num < 0)), .slice A7 (sz Q.num) c7, .slice B7 (dig Q.den).length d7], .int .i64 0]) (by simp [results, Try.results23, go_sem, h4, h5, h6]) rfl ?_
  exact ⟨_, rfl, hst.out _ _ _, ((hB9.out.setCell (by simp <;> omega) _).setCell (by simp <;> omega) _).setCell (by simp <;> omega) _⟩
end Go.Proofs.Ytdbpjnjgjmfomaa

/- classical: the error of a table of rows. -/
namespace Go.Proofs.Ytdbpjnjgjmfomaa
open Go.RowKit

/-- A value of type [][]int reads as these rows. -/
def RowsV (S : Nat → Prop) (w : World) (v : Value) (rows : List (List Int)) : Prop :=
  ∃ A c, v = .slice A rows.length c ∧ rows.length ≤ c ∧ (rows ≠ [] → ∃ ad, A = some ad ∧ S ad.block ∧ ∀ i, i < rows.length → ∃ u, w.cell? (ad.add i) = some u ∧ IntsV S w u (rows.getD i []))
theorem add_block (ad : Addr) (i : Nat) : (ad.add i).block = ad.block := by unfold Addr.add; split <;> rfl
theorem RowsV.step {S : Nat → Prop} {w w1 : World} {v : Value} {rows : List (List Int)} (h : RowsV S w v rows) (hm : ∀ k, S k → k < w.heap.size → w1.heap[k]? = w.heap[k]?) : RowsV S w1 v rows := by
  obtain ⟨A, c, rfl, hc, hr⟩ := h
  refine ⟨A, c, rfl, hc, fun hn => ?_⟩
  obtain ⟨ad, e, hs, hcell⟩ := hr hn
  refine ⟨ad, e, hs, fun i hi => ?_⟩
  obtain ⟨u, h1, h2⟩ := hcell i hi
  refine ⟨u, (World.cell?_of_block (hm _ (by rw [add_block]; exact hs) (World.block_lt_of_cell? w _ h1))).trans h1, h2.step hm⟩
theorem RowsV.below {S : Nat → Prop} {w w1 : World} {v : Value} {rows : List (List Int)} (h : RowsV S w v rows) (hb : Below w.heap.size w w1) : RowsV S w1 v rows := h.step (fun k _ hk => hb.block k hk)
theorem RowsV.mono {S T : Nat → Prop} {w : World} {v : Value} {rows : List (List Int)} (h : RowsV S w v rows) (hm : ∀ k, S k → k < w.heap.size → T k) : RowsV T w v rows := by
  obtain ⟨A, c, rfl, hc, hr⟩ := h
  refine ⟨A, c, rfl, hc, fun hn => ?_⟩
  obtain ⟨ad, e, hs, hcell⟩ := hr hn
  have h0 := hcell 0 (List.length_pos_iff.2 hn)
  obtain ⟨u0, h01, _⟩ := h0
  refine ⟨ad, e, hm _ hs (by have := World.block_lt_of_cell? w _ h01; rwa [add_block] at this), fun i hi => ?_⟩
  obtain ⟨u, h1, h2⟩ := hcell i hi
  exact ⟨u, h1, h2.mono hm⟩
theorem RowsV.slice {S : Nat → Prop} {w : World} {v : Value} {rows : List (List Int)} (h : RowsV S w v rows) : ∃ A c, v = .slice A rows.length c := by
  obtain ⟨A, c, e, _⟩ := h
  exact ⟨A, c, e⟩
theorem RowsV.row {S : Nat → Prop} {w : World} {A : Option Addr} {n c : Nat} {rows : List (List Int)} (h : RowsV S w (.slice A n c) rows) (hl : 0 < rows.length) : ∃ ad, A = some ad ∧ ∀ i, i < rows.length → ∃ B d, w.cell? (ad.add i) = some (.slice B (rows.getD i []).length d) ∧ IntsV S w (.slice B (rows.getD i []).length d) (rows.getD i []) := by
  obtain ⟨A', c', e, hc, hr⟩ := h
  injection e with e1 e2 e3
  subst e1
  obtain ⟨ad, e, _, hcell⟩ := hr (fun e => by simp [e] at hl)
  refine ⟨ad, e, fun i hi => ?_⟩
  obtain ⟨u, h1, h2⟩ := hcell i hi
  obtain ⟨B, d, rfl⟩ := h2.slice
  exact ⟨B, d, h1, h2⟩

theorem addr_zero (ad : Addr) : ad.add 0 = ad := by unfold Addr.add; simp
theorem any_drop {α : Type} (l : List α) (p : α → Bool) (d : α) (k : Nat) (h : k < l.length) : (l.drop k).any p = (p (l.getD k d) || (l.drop (k + 1)).any p) := by
  rw [List.drop_eq_getElem_cons h, List.any_cons, List.getD_eq_getElem?_getD, List.getElem?_eq_getElem h]; rfl
def long (r : List Int) : Bool := decide (60 < r.length)
def wild (r : List Int) : Bool := !okScores r
def odd (n : Nat) (r : List Int) : Bool := decide (r.length < 2) || decide (r.length ≠ n)
def tableE (rows : List (List Int)) : Int :=
  if 200 < rows.length then 5 else if rows.any long then 5 else if rows.any wild then 3 else if rows.any (odd (rows.getD 0 []).length) then 1 else if rows.length = 0 then 20 else 0

set_option maxHeartbeats 8000000 in
set_option maxRecDepth 100000 in
theorem cls_table {S : Nat → Prop} {v : Value} {rows : List (List Int)} (w : World) (hv : RowsV S w v rows) (hm : rows.length ≤ 140737488351232) (hr : ∀ i, (rows.getD i []).length ≤ 140737488351232) :
    Calls Try.prog 83 #[v] w fun e w' => e = .returned (.int .i64 (tableE rows)) ∧ Drawn w w' := by
  obtain ⟨A, c, rfl⟩ := hv.slice
  obtain ⟨n, hn⟩ : ∃ n, rows.length = n := ⟨_, rfl⟩
  rw [hn] at hm hv ⊢
  have hE : As (tableE rows = if 200 < n then 5 else if rows.any long then 5 else if rows.any wild then 3 else if rows.any (odd (rows.getD 0 []).length) then 1 else if n = 0 then 20 else 0) := ⟨by unfold tableE; rw [hn]⟩
  generalize tableE rows = E at *
  replace hn := As.mk hn
  have hrow : As (∀ W, Drawn w W → ∀ k, k < n → ∃ ad, A = some ad ∧ ∃ B d, W.cell? (ad.add k) = some (.slice B (rows.getD k []).length d) ∧ IntsV S W (.slice B (rows.getD k []).length d) (rows.getD k [])) := ⟨fun W hd k hk => by
    obtain ⟨ad, e, h⟩ := (hv.below hd.below).row (by rw [hn.out]; omega)
    exact ⟨ad, e, h k (by rw [hn.out]; exact hk)⟩⟩
  have hsc : As (∀ W B d k, IntsV S W (.slice B (rows.getD k []).length d) (rows.getD k []) → Calls Try.prog 42 #[.slice B (rows.getD k []).length d] W fun e w' => e = .returned (.bool (okScores (rows.getD k []))) ∧ Drawn W w') := ⟨fun W B d k h => cls_scores W h (hr k)⟩
  have hdr : As (∀ p k, k < n → (rows.drop k).any p = (p (rows.getD k []) || (rows.drop (k + 1)).any p)) := ⟨fun p k hk => any_drop rows p [] k (by rw [hn.out]; exact hk)⟩
  have hdn : As (∀ p, (rows.drop n).any p = false) := ⟨fun p => by rw [← hn.out]; simp⟩
  replace hr := As.mk hr
  clear hv
  go_enter Try.func83, Try.ntmps83
  by_cases hbig : 200 < n
  · have hE2 := As.mk (show E = 5 by rw [hE.out, if_pos hbig])
    clear hE
    go_wp2_with fail
    go_ret
    exact ⟨ret_int hE2.out.symm, by repeat (first | exact Drawn.refl _ | apply Drawn.step)⟩
  replace hE := As.mk (hE.out.trans (if_neg hbig))
  go_wp2_with fail
  go_loopw [4, 14] (fun _ v14 wr => ∃ k : Nat, k ≤ n ∧ v14 = .int .i64 k ∧ As (rows.any long = (rows.drop k).any long) ∧ Drawn w wr) (fun _ v14 _ => (n - intOf v14).toNat)
  case atStart => exact ⟨0, by omega, rfl, ⟨by simp⟩, by repeat (first | exact Drawn.refl _ | apply Drawn.step)⟩
  case round =>
    obtain ⟨k, hk, rfl, hI, hd⟩ := hrel
    by_cases hlt : k < n
    · obtain ⟨ad, hA, B, d, hcell, _⟩ := hrow.out _ hd k hlt
      subst hA
      have hst := As.mk (hdr.out long k hlt)
      have hlr := hr.out k
      obtain ⟨L, hL⟩ : ∃ L, (rows.getD k []).length = L := ⟨_, rfl⟩
      rw [hL] at hcell hlr
      have hp : As (long (rows.getD k []) = decide (60 < L)) := ⟨by rw [← hL]; rfl⟩
      replace hL := As.mk hL
      by_cases h60 : 60 < L
      · have R := As.mk (show E = 5 by rw [hE.out, if_pos (by rw [hI.out, hst.out, hp.out, decide_eq_true h60]; rfl)])
        clear hE hI hst
        go_wp2_with fail
        go_ret
        exact ⟨ret_int R.out.symm, by repeat (first | exact hd | apply Drawn.step)⟩
      · have R : As (rows.any long = (rows.drop (k + 1)).any long) := ⟨by rw [hI.out, hst.out, hp.out, decide_eq_false h60]; rfl⟩
        clear hI hst
        go_wp2_with fail
        go_roundw
        case rel => exact ⟨k + 1, by omega, by go_num, R, by repeat (first | exact hd | apply Drawn.step)⟩
        case measure => simp [intOf]; omega
    · obtain rfl : k = n := by omega
      replace hE := As.mk (hE.out.trans (if_neg (by rw [hI.out, hdn.out]; simp)))
      clear hI
      go_wp2_with fail
      go_loopw [6, 24] (fun _ v24 wr => ∃ j : Nat, j ≤ k ∧ v24 = .int .i64 j ∧ As (rows.any wild = (rows.drop j).any wild) ∧ Drawn w wr) (fun _ v24 _ => (k - intOf v24).toNat)
      case atStart => exact ⟨0, by omega, rfl, ⟨by simp⟩, by repeat (first | exact hd | apply Drawn.step)⟩
      case round =>
        clear hd
        obtain ⟨j, hj, rfl, hI, hd⟩ := hrel
        by_cases hlt : j < k
        · obtain ⟨ad, hA, B, d, hcell, hiv⟩ := hrow.out _ hd j hlt
          subst hA
          have hst := As.mk (hdr.out wild j hlt)
          have H := As.mk (hsc.out _ _ _ _ hiv)
          clear hiv
          have hlr := hr.out j
          have hp : As (wild (rows.getD j []) = !okScores (rows.getD j [])) := ⟨rfl⟩
          generalize (rows.getD j []).length = L at *
          generalize okScores (rows.getD j []) = O at *
          have b0 : ((j : Int) < (k : Int)) = True := eq_true (by omega)
          go_wp2_with fail
          refine H.out.mono ?_
          rintro e w1 ⟨rfl, ⟨m1, rfl⟩⟩
          cases O
          · have R := As.mk (show E = 3 by rw [hE.out, if_pos (by rw [hI.out, hst.out, hp.out]; rfl)])
            clear hE hI hst H
            go_wp2_with fail
            go_ret
            exact ⟨ret_int R.out.symm, by repeat (first | exact hd | apply Drawn.step)⟩
          · have R : As (rows.any wild = (rows.drop (j + 1)).any wild) := ⟨by rw [hI.out, hst.out, hp.out]; rfl⟩
            clear hI hst H
            go_wp2_with fail
            go_roundw
            case rel => exact ⟨j + 1, by omega, by go_num, R, by repeat (first | exact hd | apply Drawn.step)⟩
            case measure => simp [intOf]; omega
        · obtain rfl : j = k := by omega
          replace hE := As.mk (hE.out.trans (if_neg (by rw [hI.out, hdn.out]; simp)))
          clear hI hsc
          go_wp2_with fail
          go_loopw [8, 34] (fun _ v34 wr => ∃ i : Nat, i ≤ j ∧ v34 = .int .i64 i ∧ As (rows.any (odd (rows.getD 0 []).length) = (rows.drop i).any (odd (rows.getD 0 []).length)) ∧ Drawn w wr) (fun _ v34 _ => (j - intOf v34).toNat)
          case atStart => exact ⟨0, by omega, rfl, ⟨by simp⟩, by repeat (first | exact hd | apply Drawn.step)⟩
          case round =>
            clear hd
            obtain ⟨i, hi, rfl, hI, hd⟩ := hrel
            by_cases hlt : i < j
            · obtain ⟨ad0, hA0, B0, d0, hcell0, _⟩ := hrow.out _ hd 0 (by omega)
              obtain ⟨ad, hA, B, d, hcell, _⟩ := hrow.out _ hd i hlt
              obtain rfl : ad0 = ad := by rw [hA0] at hA; injection hA
              subst hA0
              rw [addr_zero] at hcell0
              have hst := As.mk (hdr.out (odd (rows.getD 0 []).length) i hlt)
              have hlr := hr.out i
              have hlr0 := hr.out 0
              have hp : As (odd (rows.getD 0 []).length (rows.getD i []) = (decide ((rows.getD i []).length < 2) || decide ((rows.getD i []).length ≠ (rows.getD 0 []).length))) := ⟨rfl⟩
              obtain ⟨L, hL⟩ : ∃ L, (rows.getD i []).length = L := ⟨_, rfl⟩
              obtain ⟨L0, hL0⟩ : ∃ L0, (rows.getD 0 []).length = L0 := ⟨_, rfl⟩
              have hp2 := hp.out
              rw [hL, hL0] at hp2
              rw [hL] at hcell hlr
              rw [hL0] at hcell0 hlr0 hI hst hE ⊢
              replace hL := As.mk hL
              replace hL0 := As.mk hL0
              replace hp2 := As.mk hp2
              have b0 : ((i : Int) < (j : Int)) = True := eq_true (by omega)
              have b1 : (0 < (j : Int)) = True := eq_true (by omega)
              by_cases h2 : L < 2
              · have R := As.mk (show E = 1 by rw [hE.out, if_pos (by rw [hI.out, hst.out, hp2.out, decide_eq_true h2]; rfl)])
                clear hE hI hst
                go_wp2_with fail
                go_ret
                exact ⟨ret_int R.out.symm, by repeat (first | exact hd | apply Drawn.step)⟩
              · by_cases h3 : L = L0
                · have R : As (rows.any (odd L0) = (rows.drop (i + 1)).any (odd L0)) := ⟨by rw [hI.out, hst.out, hp2.out, decide_eq_false h2, decide_eq_false (not_not_intro h3)]; rfl⟩
                  subst h3
                  clear hI hst hE
                  go_wp2_with fail
                  go_roundw
                  case rel => exact ⟨i + 1, by omega, by go_num, R, by repeat (first | exact hd | apply Drawn.step)⟩
                  case measure => simp [intOf]; omega
                · have R := As.mk (show E = 1 by rw [hE.out, if_pos (by rw [hI.out, hst.out, hp2.out, decide_eq_true h3]; simp)])
                  have b2 : ((L : Int) == (L0 : Int)) = false := beq_eq_false_iff_ne.2 (by omega)
                  have b3 : ((L : Int) != (L0 : Int)) = true := bne_iff_ne.2 (by omega)
                  clear hE hI hst
                  go_wp2_with fail
                  go_ret
                  exact ⟨ret_int R.out.symm, by repeat (first | exact hd | apply Drawn.step)⟩
            · obtain rfl : i = j := by omega
              replace hE := As.mk (hE.out.trans (if_neg (by rw [hI.out, hdn.out]; simp)))
              clear hI
              rcases Nat.eq_zero_or_pos i with h0 | h0
              · have R := As.mk (show E = 20 by rw [hE.out, if_pos h0])
                have b2 : ((i : Int) == 0) = true := beq_iff_eq.2 (by omega)
                replace h0 := As.mk h0
                clear hE
                go_wp2_with fail
                go_ret
                exact ⟨ret_int R.out.symm, by repeat (first | exact hd | apply Drawn.step)⟩
              · have R := As.mk (show E = 0 by rw [hE.out, if_neg (by omega)])
                have b2 : ((i : Int) == 0) = false := beq_eq_false_iff_ne.2 (by omega)
                clear hE
                go_wp2_with fail
                go_ret
                exact ⟨ret_int R.out.symm, by repeat (first | exact hd | apply Drawn.step)⟩
end Go.Proofs.Ytdbpjnjgjmfomaa

/- Rows of ints of the call's own. -/
namespace Go.Proofs.Ytdbpjnjgjmfomaa
open Go.RowKit

theorem i64s_append (a b : List Int) : i64s (a ++ b) = i64s a ++ i64s b := by simp [i64s]
abbrev OwnI (w : World) (B : Nat) (v : Value) (l : List Int) : Prop := w.ownsRow B 3 1 v l.length (i64s l)
theorem OwnI.ints {w : World} {B : Nat} {v : Value} {l : List Int} (h : OwnI w B v l) : IntsV (fun k => B ≤ k ∧ k < w.heap.size ∧ v.ownBlock = some k) w v l := by
  rcases h.2 with ⟨rfl, h0⟩ | ⟨g, cap, cur, rfl, hB, hh, hn, hm, hs, ht⟩
  · rw [List.length_eq_zero_iff] at h0; subst h0
    exact ⟨none, 0, rfl, Nat.le_refl _, Rd.nil _ _ _⟩
  · refine ⟨some ⟨g, 0, none⟩, cap, rfl, hn, fun _ => ⟨⟨g, 0, none⟩, rfl, ⟨hB, (Array.getElem?_eq_some_iff.1 hh).1, rfl⟩, fun j v hj => h.cells (g := g) rfl j v hj⟩⟩
theorem OwnI.kept {w w1 : World} {B : Nat} {v : Value} {l : List Int} (h : OwnI w B v l) (hm : ∀ k, v.ownBlock = some k → w1.heap[k]? = w.heap[k]?) : OwnI w1 B v l := by
  refine ⟨h.1, ?_⟩
  rcases h.2 with h2 | ⟨g, cap, cur, rfl, hg, hh, r⟩
  · exact .inl h2
  · exact .inr ⟨g, cap, cur, rfl, hg, (hm g rfl).trans hh, r⟩
theorem OwnI.below {w w1 : World} {B : Nat} {v : Value} {l : List Int} (h : OwnI w B v l) (hb : Below w.heap.size w w1) : OwnI w1 B v l :=
  h.kept (fun k hk => hb.block k (World.ownsRow.lt h k hk).2)
theorem OwnI.drewN {w : World} {B : Nat} {v : Value} {l : List Int} (h : OwnI w B v l) (n : Nat) : OwnI (w.drewN n) B v l := h.below ((Below.refl _ _).drewsN n)
theorem OwnI.lower {w : World} {B B' : Nat} {v : Value} {l : List Int} (h : OwnI w B v l) (hb : B' ≤ B) : OwnI w B' v l := by
  refine ⟨h.1, ?_⟩
  rcases h.2 with h2 | ⟨g, cap, cur, rfl, hg, r⟩
  · exact .inl h2
  · exact .inr ⟨g, cap, cur, rfl, Nat.le_trans hb hg, r⟩
theorem OwnI.lit (w : World) (B : Nat) (l : List Int) (hb : B ≤ w.heap.size) (hm : l.length ≤ 9223372036854775807) : OwnI (w.alloc (.cells (i64s l).toArray 3)) B (.slice (some ⟨w.heap.size, 0, none⟩) l.length l.length) l := by
  have h := World.ownsRow_lit (base := B) (e := 3) (size := 1) w (i64s l).toArray l.length hb (by simpa [maxLen] using hm) (by simp [i64s])
  simpa using h
theorem OwnI.made (w : World) (B n : Nat) (hb : B ≤ w.heap.size) (hm : n ≤ 9223372036854775807) : OwnI (w.alloc (.cells (madeCells #[.int .i64 0] n) 3)) B (.slice (some ⟨w.heap.size, 0, none⟩) n n) (List.replicate n 0) := by
  have h := World.ownsRow_lit (base := B) (e := 3) (size := 1) w (madeCells #[.int .i64 0] n) n hb (by simpa [maxLen] using hm) (by simp [size_madeCells])
  rw [toList_madeCells_one] at h
  have e : List.replicate n (Value.int .i64 0) = i64s (List.replicate n 0) := by simp [i64s]
  rw [e] at h
  simpa [OwnI] using h
theorem OwnI.room (w : World) (B n : Nat) (hb : B ≤ w.heap.size) (hm : n ≤ 9223372036854775807) : OwnI (w.alloc (.cells (madeCells #[.int .i64 0] n) 3)) B (.slice (some ⟨w.heap.size, 0, none⟩) 0 n) [] := by
  have h := World.ownsRow_made (base := B) (e := 3) (size := 1) w (madeCells #[.int .i64 0] n) n hb (by simpa [maxLen] using hm) (by simp [size_madeCells])
  simpa [OwnI, i64s] using h
theorem make_ints {P : Program} (t : TypeId) (ht : P.underlying t = some (.slice 3)) (hinfo : (P.info? 3).map (fun i => (i.zero, i.size, i.bytes)) = some (some (.int .i64 0), 1, 8)) (l c : Nat) (hlc : l ≤ c) (hb : c ≤ 17592186044416) (W : World) :
    (Instr.makeSlice t (.int .i64 (l : Int)) (.int .i64 (c : Int))).run P W = .ok (.slice (some ⟨W.heap.size, 0, none⟩) l c) (W.alloc (.cells (madeCells #[.int .i64 0] c) 3)) := by
  obtain ⟨i0, hi, hzz⟩ := Option.map_eq_some_iff.1 hinfo
  simp only [Prod.mk.injEq] at hzz
  obtain ⟨hz0, hz1, hz2⟩ := hzz
  have := run_make (P := P) W t 3 i0 (.int .i64 0) ht hi hz0 .i64 .i64 (l : Int) (c : Int) (by omega) (by omega) (by rw [hz2]; omega) (by omega)
  rw [this, hz1]
  simp [Value.cells]
/-- A row of one limb and more lies in a block of its own. -/
theorem OwnI.form {w : World} {B : Nat} {v : Value} {l : List Int} (h : OwnI w B v l) (h0 : 0 < l.length) : ∃ g cap, v = .slice (some ⟨g, 0, none⟩) l.length cap ∧ B ≤ g ∧ g < w.heap.size := by
  rcases h.2 with ⟨rfl, h1⟩ | ⟨g, cap, cur, rfl, hB, hh, _⟩
  · omega
  · exact ⟨g, cap, rfl, hB, (Array.getElem?_eq_some_iff.1 hh).1⟩
theorem OwnI.slice {w : World} {B : Nat} {v : Value} {l : List Int} (h : OwnI w B v l) : ∃ A c, v = .slice A l.length c := by
  rcases h.2 with ⟨rfl, h1⟩ | ⟨g, cap, cur, rfl, _⟩
  · exact ⟨none, 0, by rw [h1]⟩
  · exact ⟨_, cap, rfl⟩
theorem OwnI.cell {w : World} {B g cap n : Nat} {l : List Int} (h : OwnI w B (.slice (some ⟨g, 0, none⟩) n cap) l) (i : Nat) (hi : i < l.length) : w.cell? ⟨g, i, none⟩ = some (.int .i64 (l.getD i 0)) ∧ w.frozen? ⟨g, i, none⟩ = false := by
  rcases h.2 with ⟨h', _⟩ | ⟨g', cap', cur, h', hB, hh, hn, hm, hs, ht⟩
  · cases h'
  · injection h' with h1 h2 h3
    injection h1 with h1
    injection h1 with h1
    subst h1 h2 h3
    have h' : OwnI w B (.slice (some ⟨g, 0, none⟩) l.length cap) l := ⟨h.1, .inr ⟨g, cap, cur, rfl, hB, hh, hn, hm, hs, ht⟩⟩
    refine ⟨?_, World.ownsRow.frozenAt h' i⟩
    rw [World.ownsRow.cellAt h' i (by omega), i64s_get l i hi]
theorem OwnI.store {w : World} {B g cap n : Nat} {l : List Int} (h : OwnI w B (.slice (some ⟨g, 0, none⟩) n cap) l) (i : Nat) (x : Int) : OwnI (w.setCell ⟨g, i, none⟩ (.int .i64 x)) B (.slice (some ⟨g, 0, none⟩) n cap) (l.set i x) := by
  obtain ⟨A, c, e⟩ := OwnI.slice h
  injection e with e1 e2 e3
  subst e2
  have := (World.ownsRow.stored h i (.int .i64 x)).1
  rw [show (i64s l).set i (.int .i64 x) = i64s (l.set i x) from by simp [i64s, List.map_set]] at this
  simpa [OwnI] using this
end Go.Proofs.Ytdbpjnjgjmfomaa

/- Cells and blocks that stay as they are. -/
namespace Go.Proofs.Ytdbpjnjgjmfomaa
open Go.RowKit

theorem cell_below {W W' : World} {a : Addr} {v : Value} (h : W.cell? a = some v) (hb : Below W.heap.size W W') : W'.cell? a = some v :=
  (World.cell?_of_block (hb.block _ (World.block_lt_of_cell? W _ h))).trans h
theorem below_own {G : Nat} {w W W' : World} (hG : G ≤ w.heap.size) (h : Below G w W) (hb : Below W.heap.size W W') : Below G w W' := h.after (Nat.le_trans hG h.size) hb
end Go.Proofs.Ytdbpjnjgjmfomaa

/- slices.swapRange over a row of ints of the call's own. -/
namespace Go.Proofs.Ytdbpjnjgjmfomaa
open Go.RowKit

set_option maxHeartbeats 8000000 in
set_option maxRecDepth 100000 in
theorem sl_swap {w : World} {G g cap n a b k : Nat} {l : List Int} {fv : Value} (hg : G ≤ g) (hO0 : OwnI w G (.slice (some ⟨g, 0, none⟩) n cap) l) (hl : l.length = n) (hab : a + k ≤ b) (hbk : b + k ≤ n) (hn : n ≤ 200) :
    Calls Try.prog 138 #[.slice (some ⟨g, 0, none⟩) n cap, .int .i64 a, .int .i64 b, .int .i64 k, fv] w fun e w' => e = .returned (.tuple #[]) ∧ Below G w w' ∧ ∃ l', OwnI w' G (.slice (some ⟨g, 0, none⟩) n cap) l' ∧ l'.length = n ∧ ∀ t, l'.getD t 0 = swf l a b k t := by
  go_enter Try.func138, Try.ntmps138
  go_wp2_with fail
  go_loopw [10] (fun v10 wr => ∃ (i : Nat) (l' : List Int), i ≤ k ∧ v10 = .int .i64 i ∧ Below G w wr ∧ OwnI wr G (.slice (some ⟨g, 0, none⟩) n cap) l' ∧ As (l'.length = n ∧ ∀ t, l'.getD t 0 = swf l a b i t)) (fun v10 _ => (k - intOf v10).toNat)
  case atStart => exact ⟨0, l, by omega, rfl, (Below.refl _ _), hO0, ⟨hl, fun t => (swf_zero l a b t).symm⟩⟩
  case round =>
    clear hO0
    obtain ⟨i, l', hi, rfl, hd, hO, hP⟩ := hrel
    by_cases hlt : i < k
    · obtain ⟨x, hx⟩ : ∃ x, a + i = x := ⟨_, rfl⟩
      obtain ⟨y, hy⟩ : ∃ y, b + i = y := ⟨_, rfl⟩
      obtain ⟨X, hX⟩ : ∃ X, l'.getD x 0 = X := ⟨_, rfl⟩
      obtain ⟨Y, hY⟩ : ∃ Y, l'.getD y 0 = Y := ⟨_, rfl⟩
      have hxn : x < n := by omega
      have hyn : y < n := by omega
      have hxy : x ≠ y := by omega
      have hyx : y ≠ x := by omega
      have hlen := hP.out.1
      obtain ⟨hcx, hfx⟩ := hO.cell x (by omega)
      obtain ⟨hcy, hfy⟩ := hO.cell y (by omega)
      have hdr := (Below.refl wr.heap.size wr).drew
      obtain ⟨hcx', hfx'⟩ := (hO.below hdr).cell x (by omega)
      obtain ⟨hcy', hfy'⟩ := (hO.below hdr).cell y (by omega)
      rw [hX] at hcx hcx'
      rw [hY] at hcy hcy'
      have hO1 : As (OwnI ((wr.setCell ⟨g, x, none⟩ (.int .i64 Y)).setCell ⟨g, y, none⟩ (.int .i64 X)).drew G (.slice (some ⟨g, 0, none⟩) n cap) ((l'.set x Y).set y X)) := ⟨((hO.store x Y).store y X).below (Below.refl _ _).drew⟩
      have hd1 : As (Below G w ((wr.setCell ⟨g, x, none⟩ (.int .i64 Y)).setCell ⟨g, y, none⟩ (.int .i64 X)).drew) := ⟨((hd.setCell (by exact hg) _).setCell (by exact hg) _).drew⟩
      have hP1 : As (((l'.set x Y).set y X).length = n ∧ ∀ t, ((l'.set x Y).set y X).getD t 0 = swf l a b (i + 1) t) := ⟨by simpa using hlen, by
        have := swf_step (n := k) (by omega) hP.out.2 hab (by omega) hlt
        rwa [hx, hy, hX, hY] at this⟩
      have hw1 : IntKind.i64.wrap ((a : Int) + (i : Int)) = (x : Int) := by rw [show (a : Int) + (i : Int) = (x : Int) by omega]; exact IntWalk.i64_in _ (by omega)
      have hw2 : IntKind.i64.wrap ((b : Int) + (i : Int)) = (y : Int) := by rw [show (b : Int) + (i : Int) = (y : Int) by omega]; exact IntWalk.i64_in _ (by omega)
      have bi : ((i : Int) < (k : Int)) = True := eq_true (by omega)
      replace hx := As.mk hx
      replace hy := As.mk hy
      clear hX hY hO hd hP hdr hlen hl
      go_wp2_with fail
      go_region
      all_goals
        go_wp2_with fail
        go_roundw
        case rel => exact ⟨i + 1, (l'.set x Y).set y X, by omega, by go_num, hd1.out, hO1.out, hP1⟩
        case measure => simp [intOf]; omega
    · obtain rfl : i = k := by omega
      have hP2 := hP.out
      go_wp2_with fail
      go_end0
      exact ⟨rfl, hd, l', hO, hP2.1, hP2.2⟩
end Go.Proofs.Ytdbpjnjgjmfomaa

/- slices.rotate over a row of ints of the call's own: two neighbouring stretches change places. -/
namespace Go.Proofs.Ytdbpjnjgjmfomaa
open Go.RowKit

theorem sl_swap_app {w : World} {G g cap n a b k : Nat} {p A q B s : List Int} {fv : Value} (hg : G ≤ g) (hO0 : OwnI w G (.slice (some ⟨g, 0, none⟩) n cap) (p ++ A ++ q ++ B ++ s)) (hl : (p ++ A ++ q ++ B ++ s).length = n) (hA : A.length = k) (hB : B.length = k) (ha : p.length = a) (hb : p.length + A.length + q.length = b) (hn : n ≤ 200) :
    Calls Try.prog 138 #[.slice (some ⟨g, 0, none⟩) n cap, .int .i64 a, .int .i64 b, .int .i64 k, fv] w fun e w' => e = .returned (.tuple #[]) ∧ Below G w w' ∧ OwnI w' G (.slice (some ⟨g, 0, none⟩) n cap) (p ++ B ++ q ++ A ++ s) := by
  have hl' := hl
  simp only [List.length_append] at hl'
  refine (sl_swap (a := a) (b := b) (k := k) hg hO0 hl (by omega) (by omega) hn).mono ?_
  rintro e w' ⟨he, hd, l', hO, hlen, hP⟩
  have := swf_all (l' := l') (p := p) (A := A) (q := q) (B := B) (s := s) (by omega) (by omega) (by rw [hb, ha, hA]; exact hP)
  subst this
  exact ⟨he, hd, hO⟩

set_option maxHeartbeats 8000000 in
set_option maxRecDepth 100000 in
theorem sl_rotate {w : World} {G g cap n a m b : Nat} {p X Y s : List Int} {fv : Value} (hg : G ≤ g) (hO0 : OwnI w G (.slice (some ⟨g, 0, none⟩) n cap) (p ++ X ++ Y ++ s)) (hl : (p ++ X ++ Y ++ s).length = n) (ha : p.length = a) (hm : p.length + X.length = m) (hb : p.length + X.length + Y.length = b) (hX : 0 < X.length) (hY : 0 < Y.length) (hn : n ≤ 200) :
    Calls Try.prog 133 #[.slice (some ⟨g, 0, none⟩) n cap, .int .i64 a, .int .i64 m, .int .i64 b, fv] w fun e w' => e = .returned (.tuple #[]) ∧ Below G w w' ∧ OwnI w' G (.slice (some ⟨g, 0, none⟩) n cap) (p ++ Y ++ X ++ s) := by
  have hl1 := hl
  simp only [List.length_append] at hl1
  obtain ⟨x, hx⟩ : ∃ x, X.length = x := ⟨_, rfl⟩
  obtain ⟨y, hy⟩ : ∃ y, Y.length = y := ⟨_, rfl⟩
  have hw1 : IntKind.i64.wrap ((m : Int) - (a : Int)) = (x : Int) := by rw [show (m : Int) - (a : Int) = (x : Int) by omega]; exact IntWalk.i64_in _ (by omega)
  have hw2 : IntKind.i64.wrap ((b : Int) - (m : Int)) = (y : Int) := by rw [show (b : Int) - (m : Int) = (y : Int) by omega]; exact IntWalk.i64_in _ (by omega)
  have hS : ∀ (W : World) (i j : Nat) (P A B S q : List Int), OwnI W G (.slice (some ⟨g, 0, none⟩) n cap) (P ++ A ++ q ++ B ++ S) → (P ++ A ++ q ++ B ++ S).length = n → ∀ a b k : Nat, A.length = k → B.length = k → P.length = a → P.length + A.length + q.length = b → Calls Try.prog 138 #[.slice (some ⟨g, 0, none⟩) n cap, .int .i64 a, .int .i64 b, .int .i64 k, fv] W fun e w' => e = .returned (.tuple #[]) ∧ Below G W w' ∧ OwnI w' G (.slice (some ⟨g, 0, none⟩) n cap) (P ++ B ++ q ++ A ++ S) := fun W i j P A B S q hO hlen a b k hA hB ha hb => sl_swap_app hg hO hlen hA hB ha hb hn
  replace hS := As.mk hS
  have hmx : m ≤ 200 := by omega
  have hrel0 : As (∃ P Xc Yc S : List Int, p ++ X ++ Y ++ s = P ++ Xc ++ Yc ++ S ∧ Xc.length = x ∧ Yc.length = y ∧ P.length + Xc.length = m ∧ P ++ Yc ++ Xc ++ S = p ++ Y ++ X ++ s) := ⟨p, X, Y, s, rfl, hx, hy, hm, rfl⟩
  have hT : As (∃ T, p ++ Y ++ X ++ s = T) := ⟨_, rfl⟩
  obtain ⟨T, hT⟩ := hT.out
  rw [hT] at hrel0 ⊢
  have hx0 : 0 < x := by omega
  have hy0 : 0 < y := by omega
  obtain ⟨l, hll⟩ : ∃ l, p ++ X ++ Y ++ s = l := ⟨_, rfl⟩
  rw [hll] at hO0 hrel0 hl
  clear hT hll hl1 hX hY hx hy ha hm hb
  go_enter Try.func133, Try.ntmps133
  go_wp2_with fail
  go_loopw [10, 11] (fun v10 v11 wr => ∃ (i j : Nat) (l' : List Int), 0 < i ∧ 0 < j ∧ v10 = .int .i64 i ∧ v11 = .int .i64 j ∧ Below G w wr ∧ OwnI wr G (.slice (some ⟨g, 0, none⟩) n cap) l' ∧ As (l'.length = n ∧ ∃ P Xc Yc S : List Int, l' = P ++ Xc ++ Yc ++ S ∧ Xc.length = i ∧ Yc.length = j ∧ P.length + Xc.length = m ∧ P ++ Yc ++ Xc ++ S = T)) (fun v10 v11 _ => (intOf v10 + intOf v11).toNat)
  case atStart => exact ⟨x, y, l, hx0, hy0, by first | rfl | rw [hw1], by first | rfl | rw [hw2], Below.refl _ _, hO0, ⟨hl, hrel0.out⟩⟩
  case round =>
    clear hO0 hrel0 hl hw1 hw2
    obtain ⟨i, j, l', hi0, hj0, rfl, rfl, hd, hO, hP⟩ := hrel
    obtain ⟨hlen, P, Xc, Yc, S, rfl, hXc, hYc, hPm, hTe⟩ := hP.out
    clear hP
    have hlen1 := hlen
    simp only [List.length_append] at hlen1
    obtain ⟨mi, hmi⟩ : ∃ mi, P.length = mi := ⟨_, rfl⟩
    have hw3 : IntKind.i64.wrap ((m : Int) - (i : Int)) = (mi : Int) := by rw [show (m : Int) - (i : Int) = (mi : Int) by omega]; exact IntWalk.i64_in _ (by omega)
    rcases Nat.lt_trichotomy i j with hij | hij | hij
    · -- i < j
      have e1 : Yc = Yc.take (j - i) ++ Yc.drop (j - i) := (List.take_append_drop _ _).symm
      have hA : (Yc.drop (j - i)).length = i := by rw [List.length_drop]; omega
      have hB : (Yc.take (j - i)).length = j - i := by rw [List.length_take]; omega
      generalize Yc.take (j - i) = B at *
      generalize Yc.drop (j - i) = A at *
      subst e1
      obtain ⟨jn, hjn⟩ : ∃ jn, j - i = jn := ⟨_, rfl⟩
      obtain ⟨mj, hmj⟩ : ∃ mj, m + j - i = mj := ⟨_, rfl⟩
      have hO' : OwnI wr G (.slice (some ⟨g, 0, none⟩) n cap) (P ++ Xc ++ B ++ A ++ S) := by simpa using hO
      have hC := As.mk (hS.out wr 0 0 P Xc A S B hO' (by simp only [List.length_append] at hlen ⊢; omega) mi mj i hXc hA hmi (by omega))
      have hw4 : IntKind.i64.wrap ((m : Int) + (j : Int)) = ((m + j : Nat) : Int) := by rw [show (m : Int) + (j : Int) = ((m + j : Nat) : Int) by omega]; exact IntWalk.i64_in _ (by omega)
      have hw5 : IntKind.i64.wrap (((m + j : Nat) : Int) - (i : Int)) = (mj : Int) := by rw [show ((m + j : Nat) : Int) - (i : Int) = (mj : Int) by omega]; exact IntWalk.i64_in _ (by omega)
      have hw6 : IntKind.i64.wrap ((m : Int) + (j : Int) - (i : Int)) = (mj : Int) := by rw [show (m : Int) + (j : Int) - (i : Int) = (mj : Int) by omega]; exact IntWalk.i64_in _ (by omega)
      have hw7 : IntKind.i64.wrap ((j : Int) - (i : Int)) = (jn : Int) := by rw [show (j : Int) - (i : Int) = (jn : Int) by omega]; exact IntWalk.i64_in _ (by omega)
      have b1 : ((j : Int) < (i : Int)) = False := eq_false (by omega)
      have b2 : ((i : Int) = (j : Int)) = False := eq_false (by omega)
      have b3 : ((i : Int) == (j : Int)) = false := beq_eq_false_iff_ne.2 (by omega)
      have hrel1 : As ((P ++ A ++ B ++ Xc ++ S).length = n ∧ ∃ P' Xc' Yc' S' : List Int, P ++ A ++ B ++ Xc ++ S = P' ++ Xc' ++ Yc' ++ S' ∧ Xc'.length = i ∧ Yc'.length = jn ∧ P'.length + Xc'.length = m ∧ P' ++ Yc' ++ Xc' ++ S' = T) := ⟨by simp only [List.length_append] at hlen ⊢; omega, P, A, B, Xc ++ S, by simp, hA, by omega, by omega, by rw [← hTe]; simp⟩
      have hjn0 : 0 < jn := by omega
      have hms : jn < j := by omega
      clear hS hO hO' hTe hXc hA hB hYc hPm hmi hjn hmj hlen hlen1
      go_wp2_with fail
      refine hC.out.mono ?_
      rintro e w1 ⟨rfl, hd1, hO1⟩
      have hd2 := hd.trans hd1
      clear hC hd hd1
      go_wp2_with fail
      go_roundw
      case rel => exact ⟨i, jn, _, hi0, hjn0, rfl, rfl, hd2, hO1, hrel1⟩
      case measure => simp [intOf]; omega
    · -- i = j
      subst hij
      have hO' : OwnI wr G (.slice (some ⟨g, 0, none⟩) n cap) (P ++ Xc ++ [] ++ Yc ++ S) := by simpa using hO
      have hC := As.mk (hS.out wr 0 0 P Xc Yc S [] hO' (by simp only [List.length_append, List.length_nil] at hlen ⊢; omega) mi m i hXc hYc hmi (by simp; omega))
      have hT2 : P ++ Yc ++ [] ++ Xc ++ S = T := by rw [← hTe]; simp
      rw [hT2] at hC
      clear hS hO hO' hTe hXc hYc hPm hmi hlen hlen1 hT2
      go_wp2_with fail
      refine hC.out.mono ?_
      rintro e w1 ⟨rfl, hd1, hO1⟩
      have hd2 := hd.trans hd1
      clear hC hd hd1
      go_wp2_with fail
      go_end0
      exact ⟨rfl, hd2, hO1⟩
    · -- i > j
      have e1 : Xc = Xc.take j ++ Xc.drop j := (List.take_append_drop _ _).symm
      have hA : (Xc.take j).length = j := by rw [List.length_take]; omega
      have hB : (Xc.drop j).length = i - j := by rw [List.length_drop]; omega
      generalize Xc.take j = A at *
      generalize Xc.drop j = B at *
      subst e1
      obtain ⟨jn, hjn⟩ : ∃ jn, i - j = jn := ⟨_, rfl⟩
      have hO' : OwnI wr G (.slice (some ⟨g, 0, none⟩) n cap) (P ++ A ++ B ++ Yc ++ S) := by simpa using hO
      have hC := As.mk (hS.out wr 0 0 P A Yc S B hO' (by simp only [List.length_append] at hlen ⊢; omega) mi m j hA hYc hmi (by omega))
      have hw7 : IntKind.i64.wrap ((i : Int) - (j : Int)) = (jn : Int) := by rw [show (i : Int) - (j : Int) = (jn : Int) by omega]; exact IntWalk.i64_in _ (by omega)
      have b1 : ((j : Int) < (i : Int)) = True := eq_true (by omega)
      have b2 : ((i : Int) = (j : Int)) = False := eq_false (by omega)
      have b3 : ((i : Int) == (j : Int)) = false := beq_eq_false_iff_ne.2 (by omega)
      have hrel1 : As ((P ++ Yc ++ B ++ A ++ S).length = n ∧ ∃ P' Xc' Yc' S' : List Int, P ++ Yc ++ B ++ A ++ S = P' ++ Xc' ++ Yc' ++ S' ∧ Xc'.length = jn ∧ Yc'.length = j ∧ P'.length + Xc'.length = m ∧ P' ++ Yc' ++ Xc' ++ S' = T) := ⟨by simp only [List.length_append] at hlen ⊢; omega, P ++ Yc, B, A, S, by simp, by omega, hA, by simp only [List.length_append] at hPm ⊢; omega, by rw [← hTe]; simp⟩
      have hjn0 : 0 < jn := by omega
      have hms : jn < i := by omega
      clear hS hO hO' hTe hXc hA hB hYc hPm hmi hjn hlen hlen1
      go_wp2_with fail
      refine hC.out.mono ?_
      rintro e w1 ⟨rfl, hd1, hO1⟩
      have hd2 := hd.trans hd1
      clear hC hd hd1
      go_wp2_with fail
      go_roundw
      case rel => exact ⟨jn, j, _, hjn0, hj0, rfl, rfl, hd2, hO1, hrel1⟩
      case measure => simp [intOf]; omega
end Go.Proofs.Ytdbpjnjgjmfomaa

/- slices.symMerge. -/
namespace Go.Proofs.Ytdbpjnjgjmfomaa
open Go.RowKit

abbrev lessG (pb : Nat) : Value := .func (.func 44) #[] #[.pointer (some ⟨pb, 0, none⟩)]
theorem getD_mem {l : List Int} {t : Nat} (h : t < l.length) : l.getD t 0 ∈ l := by
  rw [List.getD_eq_getElem?_getD, List.getElem?_eq_getElem h]; exact List.getElem_mem h
theorem swap_app (P : List Int) (x y : Int) (S : List Int) : ((P ++ [x] ++ [y] ++ S).set P.length y).set (P.length + 1) x = P ++ [y] ++ [x] ++ S := by
  refine ext_getD (by simp) (fun t _ => ?_)
  rw [getD_set2' _ _ _ _ _ (by simp) (by simp) (by omega)]
  simp only [getD_app, List.length_append, List.length_singleton]
  by_cases h1 : t < P.length
  · rw [if_neg (by omega), if_neg (by omega)]
    simp (disch := omega) only [if_pos]
  · by_cases h2 : t = P.length
    · subst h2
      rw [if_neg (by omega), if_pos rfl]
      simp (disch := omega) only [if_pos, if_neg]
      simp
    · by_cases h3 : t = P.length + 1
      · subst h3
        rw [if_pos rfl]
        simp (disch := omega) only [if_pos, if_neg]
        simp
      · rw [if_neg h3, if_neg h2]
        simp (disch := omega) only [if_neg]
theorem mid_x (P : List Int) (x y : Int) (S : List Int) : (P ++ [x] ++ [y] ++ S).getD P.length 0 = x := by
  simp only [getD_app, List.length_append, List.length_singleton]
  simp (disch := omega) only [if_pos, if_neg]
  simp
theorem mid_y (P : List Int) (x y : Int) (S : List Int) : (P ++ [x] ++ [y] ++ S).getD (P.length + 1) 0 = y := by
  simp only [getD_app, List.length_append, List.length_singleton]
  simp (disch := omega) only [if_pos, if_neg]
  simp
/-- What the closure is known to do, wherever the blocks below G are as they were. -/
def LessC (lt : Int → Int → Prop) (w0 : World) (G pb N : Nat) : Prop := ∀ W, Below G w0 W → ∀ x y : Int, 0 ≤ x → x < (N : Int) → 0 ≤ y → y < (N : Int) → Calls Try.prog 44 #[.int .i64 x, .int .i64 y, .pointer (some ⟨pb, 0, none⟩)] W fun e w' => ∃ s : Int, e = .returned (.int .i64 s) ∧ (s < 0 ↔ lt x y) ∧ Below W.heap.size W w'

set_option maxHeartbeats 8000000 in
set_option maxRecDepth 100000 in
theorem sl_sym_left {lt : Int → Int → Prop} (hw : SW lt) {w0 w : World} {G g cap n N pb a b : Nat} {p B s : List Int} {x : Int} (hG : G ≤ w0.heap.size) (hg : G ≤ g) (hd0 : Below G w0 w) (hO0 : OwnI w G (.slice (some ⟨g, 0, none⟩) n cap) (p ++ [x] ++ B ++ s)) (hl : (p ++ [x] ++ B ++ s).length = n) (hn : n ≤ 200) (ha : p.length = a) (hb : a + 1 + B.length = b) (hB0 : 0 < B.length)
    (hB : Srt lt B) (hxB : ∀ y ∈ B, x < y) (hr : ∀ y ∈ [x] ++ B, 0 ≤ y ∧ y < (N : Int)) (HC0 : LessC lt w0 G pb N) :
    Calls Try.prog 110 #[.slice (some ⟨g, 0, none⟩) n cap, .int .i64 a, .int .i64 ((a + 1 : Nat) : Int), .int .i64 b, lessG pb] w fun e w' => e = .returned (.tuple #[]) ∧ Below G w0 w' ∧ ∃ C, OwnI w' G (.slice (some ⟨g, 0, none⟩) n cap) (p ++ C ++ s) ∧ Mrg lt ([x] ++ B) C := by
  have HC := As.mk HC0
  have hkG : ∀ {W W' : World}, Below G w0 W → Below W.heap.size W W' → Below G w0 W' := fun h hb => below_own hG h hb
  obtain ⟨m, hm⟩ : ∃ m, a + 1 = m := ⟨_, rfl⟩
  rw [hm] at hb ⊢
  have hw1 : IntKind.i64.wrap ((m : Int) - (a : Int)) = 1 := by rw [show (m : Int) - (a : Int) = 1 by omega]; rfl
  obtain ⟨l, hll⟩ : ∃ l, p ++ [x] ++ B ++ s = l := ⟨_, rfl⟩
  rw [hll] at hO0 hl
  have hl1 : p.length + 1 + B.length + s.length = n := by rw [← hl, ← hll]; simp; omega
  have hla : As (l.getD a 0 = x) := ⟨by rw [← hll]; simp [← ha]⟩
  have hlb : As (∀ t, m ≤ t → t < b → l.getD t 0 = B.getD (t - m) 0) := ⟨fun t h1 h2 => by
    rw [← hll, getD_app, getD_app]
    simp only [List.length_append, List.length_singleton]
    rw [if_pos (by omega), if_neg (by omega)]
    congr 1; omega⟩
  have hbn : b ≤ 200 := by omega
  replace hll := As.mk hll
  go_enter Try.func110, Try.ntmps110
  go_wp2_with fail
  go_loopw [10, 11, 12] (fun v10 v11 _ wr => ∃ i j : Nat, m ≤ i ∧ i ≤ j ∧ j ≤ b ∧ v10 = .int .i64 i ∧ v11 = .int .i64 j ∧ Below G w0 wr ∧ OwnI wr G (.slice (some ⟨g, 0, none⟩) n cap) l ∧ As ((i = m ∨ lt (l.getD (i - 1) 0) x) ∧ (j = b ∨ ¬ lt (l.getD j 0) x))) (fun v10 v11 _ _ => (intOf v11 - intOf v10).toNat)
  case atStart => exact ⟨m, b, by omega, by omega, by omega, rfl, rfl, hd0, hO0, ⟨.inl rfl, .inl rfl⟩⟩
  case round =>
    clear hO0 hd0
    obtain ⟨i, j, hmi, hij, hjb, rfl, rfl, hd, hO, hI⟩ := hrel
    by_cases hlt : i < j
    · have bij : ((i : Int) < (j : Int)) = True := eq_true (by omega)
      obtain ⟨h, hh⟩ : ∃ h, (i + j) / 2 = h := ⟨_, rfl⟩
      have hhb : m ≤ h ∧ h < b ∧ i ≤ h ∧ h < j := by omega
      obtain ⟨Y, hY⟩ : ∃ Y, l.getD h 0 = Y := ⟨_, rfl⟩
      obtain ⟨X, hX⟩ : ∃ X, X = x := ⟨_, rfl⟩
      obtain ⟨hcy, hfy⟩ := hO.cell h (by omega)
      obtain ⟨hcx, hfx⟩ := hO.cell a (by omega)
      rw [hY] at hcy
      rw [hla.out, ← hX] at hcx
      have hYm : Y ∈ B := by rw [← hY, hlb.out h (by omega) (by omega)]; exact getD_mem (by omega)
      obtain ⟨hY0, hY1⟩ := hr Y (by simp [hYm])
      obtain ⟨hX0, hX1⟩ := hr X (by simp [hX])
      have e2 : ((i : Int) + (j : Int)) / 2 = (h : Int) := by omega
      have hstep1 : lt Y X → As ((h + 1 = m ∨ lt (l.getD (h + 1 - 1) 0) x) ∧ (j = b ∨ ¬ lt (l.getD j 0) x)) := fun h1 => ⟨.inr (by rw [Nat.add_sub_cancel, hY, ← hX]; exact h1), hI.out.2⟩
      have hstep2 : ¬ lt Y X → As ((i = m ∨ lt (l.getD (i - 1) 0) x) ∧ (h = b ∨ ¬ lt (l.getD h 0) x)) := fun h1 => ⟨hI.out.1, .inr (by rw [hY, ← hX]; exact h1)⟩
      have bh1 : ((h : Int) < (n : Int)) = True := eq_true (by omega)
      have bh1n : h < n := by omega
      have bh0 : (0 ≤ (h : Int)) = True := eq_true (by omega)
      have ba1 : ((a : Int) < (n : Int)) = True := eq_true (by omega)
      have ba1n : a < n := by omega
      have ba0 : (0 ≤ (a : Int)) = True := eq_true (by omega)
      clear hI hYm hY
      replace hX := As.mk hX
      replace hh := As.mk hh
      by_cases hyx : lt Y X
      · have hst := hstep1 hyx
        clear hstep1 hstep2
        go_wp2_with fail
        try rw [e2]
        go_region_held3 (fun w' => w'.cell? ⟨g, h, none⟩ = some (.int .i64 Y) ∧ w'.cell? ⟨g, a, none⟩ = some (.int .i64 X) ∧ Below G w0 w' ∧ OwnI w' G (.slice (some ⟨g, 0, none⟩) n cap) l)
          ((first
            | with_reducible exact (keep_p cell_below (keep_p cell_below (keep_p hkG (OwnI.below)))) ⟨hcy, hcx, hd, hO⟩ (below_drew _)
            | with_reducible exact (keep_p cell_below (keep_p cell_below (keep_p hkG (OwnI.below)))) (by with_reducible assumption) (below_drew _)
            | with_reducible exact (keep_p cell_below (keep_p cell_below (keep_p hkG (OwnI.below)))) (by with_reducible assumption) (by with_reducible assumption)))
          (first
            | (go_at_call 44; obtain ⟨_, _, hG1, hO1⟩ := ‹(_ = some _) ∧ (_ = some _) ∧ Below _ _ _ ∧ OwnI _ _ _ _›; refine (HC.out _ hG1 Y X hY0 hY1 hX0 hX1).mono ?_; rintro e w9 ⟨sg, rfl, hsg, hb⟩; have hs0 : (sg < 0) = True := eq_true (hsg.2 hyx); clear hsg; have hd9 := below_own hG hG1 hb; have hO9 := hO1.below hb))
        all_goals
          go_wp2_with fail
          go_roundw
          case rel => exact ⟨h + 1, j, by omega, by omega, by omega, by go_num, rfl, hd9, hO9, hst⟩
          case measure => simp [intOf]; omega
      · have hst := hstep2 hyx
        clear hstep1 hstep2
        go_wp2_with fail
        try rw [e2]
        go_region_held3 (fun w' => w'.cell? ⟨g, h, none⟩ = some (.int .i64 Y) ∧ w'.cell? ⟨g, a, none⟩ = some (.int .i64 X) ∧ Below G w0 w' ∧ OwnI w' G (.slice (some ⟨g, 0, none⟩) n cap) l)
          ((first
            | with_reducible exact (keep_p cell_below (keep_p cell_below (keep_p hkG (OwnI.below)))) ⟨hcy, hcx, hd, hO⟩ (below_drew _)
            | with_reducible exact (keep_p cell_below (keep_p cell_below (keep_p hkG (OwnI.below)))) (by with_reducible assumption) (below_drew _)
            | with_reducible exact (keep_p cell_below (keep_p cell_below (keep_p hkG (OwnI.below)))) (by with_reducible assumption) (by with_reducible assumption)))
          (first
            | (go_at_call 44; obtain ⟨_, _, hG1, hO1⟩ := ‹(_ = some _) ∧ (_ = some _) ∧ Below _ _ _ ∧ OwnI _ _ _ _›; refine (HC.out _ hG1 Y X hY0 hY1 hX0 hX1).mono ?_; rintro e w9 ⟨sg, rfl, hsg, hb⟩; have hs0 : (sg < 0) = False := eq_false (fun e => hyx (hsg.1 e)); clear hsg; have hd9 := below_own hG hG1 hb; have hO9 := hO1.below hb))
        all_goals
          go_wp2_with fail
          go_roundw
          case rel => exact ⟨i, h, by omega, by omega, by omega, rfl, rfl, hd9, hO9, hst⟩
          case measure => simp [intOf]; omega
    · obtain rfl : i = j := by omega
      clear HC
      obtain ⟨B1, hB1⟩ : ∃ B1, B.take (i - m) = B1 := ⟨_, rfl⟩
      obtain ⟨B2, hB2⟩ : ∃ B2, B.drop (i - m) = B2 := ⟨_, rfl⟩
      have hBe : B = B1 ++ B2 := by rw [← hB1, ← hB2]; exact (List.take_append_drop _ _).symm
      have hB1l : B1.length = i - m := by rw [← hB1, List.length_take]; omega
      have hhd : ∀ v, B2.head? = some v → ¬ lt v x := fun v hv => by
        have hib : i < b := by
          rcases Nat.lt_or_ge i b with h | h
          · exact h
          · rw [← hB2, List.drop_of_length_le (by omega)] at hv; simp at hv
        have h1 := hlb.out i (by omega) hib
        have h2 : v = B.getD (i - m) 0 := by
          rw [← hB2, List.head?_drop] at hv
          rw [List.getD_eq_getElem?_getD, hv]; rfl
        rw [h2, ← h1]
        rcases hI.out.2 with h3 | h3
        · omega
        · exact h3
      have hlt' : ∀ u, B1.getLast? = some u → lt u x := fun u hu => by
        have hne : B1 ≠ [] := fun e => by rw [e] at hu; simp at hu
        have hpos := List.length_pos_iff.2 hne
        have h1 := hlb.out (i - 1) (by omega) (by omega)
        have h2 : u = B.getD (i - 1 - m) 0 := by
          rw [List.getLast?_eq_getElem?, hB1l, ← hB1, List.getElem?_take] at hu
          rw [if_pos (by omega), show i - m - 1 = i - 1 - m by omega] at hu
          rw [List.getD_eq_getElem?_getD, hu]; rfl
        rw [h2, ← h1]
        rcases hI.out.1 with h3 | h3
        · omega
        · exact h3
      have hM : As (Mrg lt ([x] ++ B) (B1 ++ [x] ++ B2)) := ⟨by rw [hBe]; exact Mrg.one hw (by rw [← hBe]; exact hB) (by rw [← hBe]; exact hxB) hhd hlt'⟩
      obtain ⟨i1, hi1⟩ : ∃ i1, i - 1 = i1 := ⟨_, rfl⟩
      have hw2 : IntKind.i64.wrap ((i : Int) - 1) = (i1 : Int) := by rw [show (i : Int) - 1 = (i1 : Int) by omega]; exact IntWalk.i64_in _ (by omega)
      have hl0 : As (l = p ++ ([] ++ [x] ++ B1) ++ B2 ++ s) := ⟨by rw [← hll.out, hBe]; simp⟩
      have hii : ((i : Int) < (i : Int)) = False := eq_false (by omega)
      clear hhd hlt' hI hlb hla hBe hB1 hB2 hB hxB hr hll
      go_wp2_with fail
      go_loopw [13] (fun v13 wq => ∃ (k : Nat) (l' U V : List Int), a ≤ k ∧ k ≤ i1 ∧ v13 = .int .i64 k ∧ Below G w0 wq ∧ OwnI wq G (.slice (some ⟨g, 0, none⟩) n cap) l' ∧ As (l' = p ++ (U ++ [x] ++ V) ++ B2 ++ s ∧ B1 = U ++ V ∧ a + U.length = k)) (fun v13 _ => (i1 - intOf v13).toNat)
      case atStart => exact ⟨a, l, [], B1, by omega, by omega, rfl, hd, hO, ⟨hl0.out, rfl, rfl⟩⟩
      case round =>
        clear hO hd hl0 hl
        rename World => wq
        obtain ⟨k, l, U, V, hak, hki, rfl, hd, hO, hI⟩ := hrel
        obtain ⟨hle, hBe, hUk⟩ := hI.out
        clear hI
        have hVl : U.length + V.length = i - m := by rw [← hB1l, hBe]; simp
        by_cases hki1 : k < i1
        · cases V with
          | nil => simp at hVl; omega
          | cons y V =>
            obtain ⟨kk, hkk⟩ : ∃ kk, k + 1 = kk := ⟨_, rfl⟩
            have hlen : l.length = p.length + U.length + 1 + 1 + V.length + B2.length + s.length := by rw [hle]; simp; omega
            have hsw := swap_app (p ++ U) x y (V ++ B2 ++ s)
            have hle2 : l = (p ++ U) ++ [x] ++ [y] ++ (V ++ B2 ++ s) := by rw [hle]; simp
            rw [← hle2, show (p ++ U).length = k by simp; omega, hkk] at hsw
            have hgx := mid_x (p ++ U) x y (V ++ B2 ++ s)
            have hgy := mid_y (p ++ U) x y (V ++ B2 ++ s)
            rw [← hle2, show (p ++ U).length = k by simp; omega] at hgx
            rw [← hle2, show (p ++ U).length = k by simp; omega, hkk] at hgy
            have kn' : k < n := by omega
            have kkn' : kk < n := by omega
            have hne1 : k ≠ kk := by omega
            have hne2 : kk ≠ k := by omega
            obtain ⟨hcx, hfx⟩ := hO.cell k (by omega)
            obtain ⟨hcy, hfy⟩ := hO.cell kk (by omega)
            have hdr := (Below.refl wq.heap.size wq).drew
            obtain ⟨hcx', hfx'⟩ := (hO.below hdr).cell k (by omega)
            obtain ⟨hcy', hfy'⟩ := (hO.below hdr).cell kk (by omega)
            rw [hgx] at hcx hcx'
            rw [hgy] at hcy hcy'
            have hO1 : As (OwnI ((wq.setCell ⟨g, k, none⟩ (.int .i64 y)).setCell ⟨g, kk, none⟩ (.int .i64 x)).drew G (.slice (some ⟨g, 0, none⟩) n cap) ((l.set k y).set kk x)) := ⟨((hO.store k y).store kk x).below (Below.refl _ _).drew⟩
            have hd1 : As (Below G w0 ((wq.setCell ⟨g, k, none⟩ (.int .i64 y)).setCell ⟨g, kk, none⟩ (.int .i64 x)).drew) := ⟨((hd.setCell (by exact hg) _).setCell (by exact hg) _).drew⟩
            clear hdr
            have hI1 : As ((l.set k y).set kk x = p ++ ((U ++ [y]) ++ [x] ++ V) ++ B2 ++ s ∧ B1 = (U ++ [y]) ++ V ∧ a + (U ++ [y]).length = kk) := ⟨by rw [hsw]; simp, by rw [hBe]; simp, by simp; omega⟩
            have hw3 : IntKind.i64.wrap ((k : Int) + 1) = (kk : Int) := by rw [show (k : Int) + 1 = (kk : Int) by omega]; exact IntWalk.i64_in _ (by omega)
            have bk : ((k : Int) < (i1 : Int)) = True := eq_true (by omega)
            have hkki : kk ≤ i1 := by omega
            have hakk : a ≤ kk := by omega
            replace hkk := As.mk hkk
            clear hle hle2 hBe hUk hVl hsw hgx hgy hO hd hlen hM hB1l
            go_wp2_with fail
            go_region
            all_goals
              go_wp2_with fail
              go_roundw
              case rel => exact ⟨kk, (l.set k y).set kk x, U ++ [y], V, hakk, hkki, by first | rfl | go_num, hd1.out, hO1.out, hI1⟩
              case measure => have := hkk.out; simp [intOf]; omega
        · obtain rfl : k = i1 := by omega
          have hV0 : V = [] := List.length_eq_zero_iff.1 (by omega)
          subst hV0
          have hfin : As (l = p ++ (B1 ++ [x] ++ B2) ++ s) := ⟨by rw [hle, hBe]; simp⟩
          rw [hfin.out] at hO
          clear hle hBe hUk hVl hB1l hfin
          go_wp2_with fail
          (try simp only [Exit.inBlock, Exit.then]); refine bodyPost_ret (results_none rfl _ _ _) rfl ?_
          exact ⟨rfl, hd, B1 ++ [x] ++ B2, hO, by simpa using hM.out⟩
end Go.Proofs.Ytdbpjnjgjmfomaa
