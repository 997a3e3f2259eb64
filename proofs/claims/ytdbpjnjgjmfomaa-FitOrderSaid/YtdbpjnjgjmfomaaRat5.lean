/- The program's ratios, fifth part: Add and Sub. -/
import Derived.Test.YtdbpjnjgjmfomaaRat4
namespace Go.Proofs.Ytdbpjnjgjmfomaa
open Go.RowKit

theorem NumV.posI {S : Nat → Prop} {w : World} {v : Value} {D n : Nat} (h : NumV S w v (dig D)) (hl : (dig D).length ≤ n) : IntI S w (.agg #[.bool false, v]) ((D : Nat) : Int) n :=
  ⟨false, v, dig D, rfl, h, by show ((nv (dig D) : Nat) : Int) = _; rw [nv_dig], hl⟩
theorem sz_add (x y : Int) : sz (x + y) ≤ max (sz x) (sz y) + 1 := by
  unfold sz
  exact Nat.le_trans (dig_len_mono (Int.natAbs_add_le x y)) (dig_len_add _ _)
theorem sz_sub (x y : Int) : sz (x - y) ≤ max (sz x) (sz y) + 1 := by
  have := sz_add x (-y)
  rwa [sz_neg, ← Int.sub_eq_add_neg] at this
theorem rat_add_eq (z1 z2 : Int) (D1 D2 : Nat) (h1 : 0 < D1) (h2 : 0 < D2) : ((z1 * (D2 : Nat) + z2 * (D1 : Nat) : Int) : Rat) / ((D1 * D2 : Nat) : Rat) = ((z1 : Rat) / (D1 : Rat)) + ((z2 : Rat) / (D2 : Rat)) := by
  have e1 : (D1 : Rat) ≠ 0 := by simp; omega
  have e2 : (D2 : Rat) ≠ 0 := by simp; omega
  rw [Rat.intCast_add, Rat.intCast_mul, Rat.intCast_mul, Rat.natCast_mul, Rat.intCast_natCast, Rat.intCast_natCast]; grind
theorem rat_sub_eq (z1 z2 : Int) (D1 D2 : Nat) (h1 : 0 < D1) (h2 : 0 < D2) : ((z1 * (D2 : Nat) - z2 * (D1 : Nat) : Int) : Rat) / ((D1 * D2 : Nat) : Rat) = ((z1 : Rat) / (D1 : Rat)) - ((z2 : Rat) / (D2 : Rat)) := by
  have e1 : (D1 : Rat) ≠ 0 := by simp; omega
  have e2 : (D2 : Rat) ≠ 0 := by simp; omega
  rw [Rat.intCast_sub, Rat.intCast_mul, Rat.intCast_mul, Rat.natCast_mul, Rat.intCast_natCast, Rat.intCast_natCast]; grind

set_option maxHeartbeats 8000000 in
set_option maxRecDepth 100000 in
theorem rat_Add {S T : Nat → Prop} {v u : Value} {p q : Rat} {m n : Nat} (w : World) (hv : RatI S w v p m) (hu : RatI T w u q n) (h1 : 1 ≤ m) (h2 : 1 ≤ n) (hm : m + n ≤ 35184372088828) :
    Calls Try.prog 24 #[v, u] w fun e w' => ∃ r, e = .returned r ∧ RatV (New w) w' r (p + q) ∧ Below w.heap.size w w' := by
  obtain ⟨na, u1, e1, a1, t1, rfl, ha1, ht1, hq1, hla1, hlt1⟩ := id hv
  obtain ⟨nb, u2, e2, a2, t2, rfl, ha2, ht2, hq2, hla2, hlt2⟩ := id hu
  obtain ⟨A1, c1, rfl⟩ := ha1.slice
  obtain ⟨B1, d1, rfl⟩ := ht1.slice
  obtain ⟨A2, c2, rfl⟩ := ha2.slice
  obtain ⟨B2, d2, rfl⟩ := ht2.slice
  have hv0 := hv.mono (T := fun k => k < w.heap.size) (fun k _ h2 => h2)
  have hu0 := hu.mono (T := fun k => k < w.heap.size) (fun k _ h2 => h2)
  clear hv hu ha1 ht1 ha2 ht2 hq1 hq2
  go_enter Try.func24, Try.ntmps24
  go_wp2_with fail
  obtain ⟨W, hW⟩ : ∃ W, (((w.alloc (Obj.cells #[Value.bool na, Value.slice A1 a1.length c1, Value.slice B1 t1.length d1] 40)).alloc (Obj.cells #[Value.bool nb, Value.slice A2 a2.length c2, Value.slice B2 t2.length d2] 40)).alloc (Obj.cells #[Value.bool false, Value.slice none 0 0, Value.slice none 0 0] 40)) = W := ⟨_, rfl⟩
  have hs : W.heap.size = w.heap.size + 3 := by rw [← hW]; simp
  have hB : Below w.heap.size w W := by rw [← hW]; exact ((((Below.refl _ _).alloc (by simp <;> omega) _).alloc (by simp <;> omega) _).alloc (by simp <;> omega) _)
  have cc0 : W.cell? ⟨w.heap.size, 0, none⟩ = some (.bool na) := by subst hW; simp [go_sem]
  have cc1 : W.cell? ⟨w.heap.size, 1, none⟩ = some (.slice A1 a1.length c1) := by subst hW; simp [go_sem]
  have cc2 : W.cell? ⟨w.heap.size, 2, none⟩ = some (.slice B1 t1.length d1) := by subst hW; simp [go_sem]
  have cc3 : W.cell? ⟨w.heap.size + 1, 0, none⟩ = some (.bool nb) := by subst hW; simp [go_sem]
  have cc4 : W.cell? ⟨w.heap.size + 1, 1, none⟩ = some (.slice A2 a2.length c2) := by subst hW; simp [go_sem]
  have cc5 : W.cell? ⟨w.heap.size + 1, 2, none⟩ = some (.slice B2 t2.length d2) := by subst hW; simp [go_sem]
  have hR2 : Res W (w.heap.size + 2) 3 := ⟨by omega, fun i hi => by
    subst hW
    rcases (by omega : i = 0 ∨ i = 1 ∨ i = 2) with rfl | rfl | rfl
    · exact ⟨⟨.bool false, by simp [go_sem]⟩, by simp [go_sem]⟩
    · exact ⟨⟨.slice none 0 0, by simp [go_sem]⟩, by simp [go_sem]⟩
    · exact ⟨⟨.slice none 0 0, by simp [go_sem]⟩, by simp [go_sem]⟩⟩
  rw [hW]
  clear hW
  have hS : W.cell? ⟨w.heap.size, 0, none⟩ = some (.bool na) ∧ W.cell? ⟨w.heap.size, 1, none⟩ = some (.slice A1 a1.length c1) ∧ W.cell? ⟨w.heap.size, 2, none⟩ = some (.slice B1 t1.length d1) ∧ W.cell? ⟨w.heap.size + 1, 0, none⟩ = some (.bool nb) ∧ W.cell? ⟨w.heap.size + 1, 1, none⟩ = some (.slice A2 a2.length c2) ∧ W.cell? ⟨w.heap.size + 1, 2, none⟩ = some (.slice B2 t2.length d2) ∧ Below w.heap.size w W ∧ Res W (w.heap.size + 2) 3 := ⟨cc0, cc1, cc2, cc3, cc4, cc5, hB, hR2⟩
  refine (rat_parts _ (hv0.below hB) h1 (by omega)).mono ?_
  rintro e w1 ⟨r1, s1, z1, D1, rfl, hr1, hs1, hD1, hl1, hq1, hb1⟩
  replace hr1 := hr1.mono (T := fun k => k < w.heap.size) (fun k h _ => h)
  obtain ⟨As1, cs1, rfl, hns1⟩ := hs1.pos
  replace hns1 := hns1.mono (T := fun k => w.heap.size + 3 ≤ k ∧ k < w1.heap.size) (fun k h1 h2 => ⟨by have : W.heap.size ≤ k := h1; omega, h2⟩)
  replace hS := (keep_and (keep_and (keep_and (keep_and (keep_and (keep_and (keep_B (Res.below)))))))) hS hb1
  have hz1 : w.heap.size + 3 ≤ w1.heap.size := by have := hb1.size; omega
  clear cc0 cc1 cc2 cc3 cc4 cc5 hB hb1 hR2
  obtain ⟨cc0, cc1, cc2, cc3, cc4, cc5, hB, hR2⟩ := id hS
  obtain ⟨nr, ur, lr, rfl, hur, hzr, hlr⟩ := id hr1
  obtain ⟨Ar, cr, rfl⟩ := hur.slice
  clear hur hzr hs1
  have l0 : w.heap.size < w1.heap.size := by omega
  have l1 : w.heap.size + 1 < w1.heap.size := by omega
  have l2 : w.heap.size + 2 < w1.heap.size := by omega
  go_wp2_with fail
  obtain ⟨W2, hW2⟩ : ∃ W2, ((w1.alloc (Obj.cells #[Value.bool nr, Value.slice Ar lr.length cr] 38)).alloc (Obj.cells #[Value.bool false, Value.slice As1 (dig D1).length cs1] 38)) = W2 := ⟨_, rfl⟩
  have hs2 : W2.heap.size = w1.heap.size + 2 := by rw [← hW2]; simp
  have hb12 : Below w1.heap.size w1 W2 := by rw [← hW2]; exact ((Below.refl _ _).alloc (by simp) _).alloc (by simp) _
  have k0 : W2.cell? ⟨w1.heap.size, 0, none⟩ = some (.bool nr) := by subst hW2; simp [go_sem]
  have k1 : W2.cell? ⟨w1.heap.size, 1, none⟩ = some (.slice Ar lr.length cr) := by subst hW2; simp [go_sem]
  have k2 : W2.cell? ⟨w1.heap.size + 1, 0, none⟩ = some (.bool false) := by subst hW2; simp [go_sem]
  have k3 : W2.cell? ⟨w1.heap.size + 1, 1, none⟩ = some (.slice As1 (dig D1).length cs1) := by subst hW2; simp [go_sem]
  rw [hW2]
  clear hW2
  replace hr1 := hr1.below hb12
  replace hns1 := hns1.below hb12
  replace hS := (keep_and (keep_and (keep_and (keep_and (keep_and (keep_and (keep_B (Res.below)))))))) hS hb12
  clear cc0 cc1 cc2 cc3 cc4 cc5 hB hb12 hR2
  obtain ⟨cc0, cc1, cc2, cc3, cc4, cc5, hB, hR2⟩ := id hS
  refine (rat_parts _ (hu0.below hB) h2 (by omega)).mono ?_
  rintro e w3 ⟨r2, s2, z2, D2, rfl, hr2, hs2', hD2, hl2, hq2, hb3⟩
  replace hr2 := hr2.mono (T := fun k => k < w.heap.size) (fun k h _ => h)
  obtain ⟨As2, cs2, rfl, hns2⟩ := hs2'.pos
  replace hns2 := hns2.mono (T := fun k => w.heap.size + 3 ≤ k ∧ k < w3.heap.size) (fun k h1 h2 => ⟨by have : W2.heap.size ≤ k := h1; omega, h2⟩)
  replace hS := (keep_and (keep_and (keep_and (keep_and (keep_and (keep_and (keep_B (Res.below)))))))) hS hb3
  have hk := (keep_and (keep_and (keep_and keep_cell))) ⟨k0, k1, k2, k3⟩ hb3
  replace hr1 := hr1.below hb3
  replace hns1 := hns1.below hb3
  have l3 : w1.heap.size + 2 ≤ w3.heap.size := by have := hb3.size; omega
  clear cc0 cc1 cc2 cc3 cc4 cc5 hB hb3 k0 k1 k2 k3 hs2 hR2 hs2'
  obtain ⟨cc0, cc1, cc2, cc3, cc4, cc5, hB, hR2⟩ := id hS
  obtain ⟨k0, k1, k2, k3⟩ := id hk
  obtain ⟨nr2, ur2, lr2, rfl, hur2, hzr2, hlr2⟩ := id hr2
  obtain ⟨Ar2, cr2, rfl⟩ := hur2.slice
  clear hur2 hzr2
  go_wp2_with fail
  obtain ⟨W4, hW4⟩ : ∃ W4, ((w3.alloc (Obj.cells #[Value.bool nr2, Value.slice Ar2 lr2.length cr2] 38)).alloc (Obj.cells #[Value.bool false, Value.slice As2 (dig D2).length cs2] 38)) = W4 := ⟨_, rfl⟩
  have hb34 : Below w3.heap.size w3 W4 := by rw [← hW4]; exact ((Below.refl _ _).alloc (by simp) _).alloc (by simp) _
  have k4 : W4.cell? ⟨w3.heap.size, 0, none⟩ = some (.bool nr2) := by subst hW4; simp [go_sem]
  have k5 : W4.cell? ⟨w3.heap.size, 1, none⟩ = some (.slice Ar2 lr2.length cr2) := by subst hW4; simp [go_sem]
  have k6 : W4.cell? ⟨w3.heap.size + 1, 0, none⟩ = some (.bool false) := by subst hW4; simp [go_sem]
  have k7 : W4.cell? ⟨w3.heap.size + 1, 1, none⟩ = some (.slice As2 (dig D2).length cs2) := by subst hW4; simp [go_sem]
  rw [hW4]
  clear hW4
  replace hr1 := hr1.below hb34
  replace hns1 := hns1.below hb34
  replace hr2 := hr2.below hb34
  replace hns2 := hns2.below hb34
  replace hS := (keep_and (keep_and (keep_and (keep_and (keep_and (keep_and (keep_B (Res.below)))))))) hS hb34
  replace hk := (keep_and (keep_and (keep_and keep_cell))) hk hb34
  clear cc0 cc1 cc2 cc3 cc4 cc5 hB hb34 k0 k1 k2 k3 hR2
  obtain ⟨cc0, cc1, cc2, cc3, cc4, cc5, hB, hR2⟩ := id hS
  obtain ⟨k0, k1, k2, k3⟩ := id hk
  clear cc0 cc1 cc2 cc3 cc4 cc5 hS hk l0 l1
  generalize w1.heap.size = N1 at *
  generalize w3.heap.size = N2 at *
  have hmn : m + n ≤ 35184372088830 := by omega
  have hnm : n + m ≤ 35184372088830 := by omega
  have hs1 : sz (z1 * (D2 : Nat)) ≤ 35184372088829 := by have := sz_mul z1 (D2 : Nat); have := hr1.sz; have : sz ((D2 : Nat) : Int) = (dig D2).length := rfl; omega
  have hs2 : sz (z2 * (D1 : Nat)) ≤ 35184372088829 := by have := sz_mul z2 (D1 : Nat); have := hr2.sz; have : sz ((D1 : Nat) : Int) = (dig D1).length := rfl; omega
  have hlm : sz (z1 * (D2 : Nat) + z2 * (D1 : Nat)) ≤ 35184372088829 := by
    have := sz_mul z1 (D2 : Nat); have := hr1.sz; have : sz ((D2 : Nat) : Int) = (dig D2).length := rfl
    have := sz_mul z2 (D1 : Nat); have := hr2.sz; have : sz ((D1 : Nat) : Int) = (dig D1).length := rfl
    have := sz_add (z1 * (D2 : Nat)) (z2 * (D1 : Nat))
    omega
  have hQ : As ((((z1 * (D2 : Nat) + z2 * (D1 : Nat) : Int) : Rat) / ((nv (dig (D1 * D2)) : Nat) : Rat)) = p + q) := ⟨by rw [nv_dig, rat_add_eq _ _ _ _ hD1 hD2, hq1, hq2]⟩
  have hln : (dig (D1 * D2)).length ≤ 35184372088829 := by have := dig_len_mul D1 D2; omega
  go_region_held3 (fun w' => w'.cell? ⟨N1, 0, none⟩ = some (.bool nr) ∧ w'.cell? ⟨N1, 1, none⟩ = some (.slice Ar lr.length cr) ∧ w'.cell? ⟨N1 + 1, 0, none⟩ = some (.bool false) ∧ w'.cell? ⟨N1 + 1, 1, none⟩ = some (.slice As1 (dig D1).length cs1) ∧ w'.cell? ⟨N2, 0, none⟩ = some (.bool nr2) ∧ w'.cell? ⟨N2, 1, none⟩ = some (.slice Ar2 lr2.length cr2) ∧ w'.cell? ⟨N2 + 1, 0, none⟩ = some (.bool false) ∧ w'.cell? ⟨N2 + 1, 1, none⟩ = some (.slice As2 (dig D2).length cs2) ∧ IntI (fun k => k < w.heap.size) w' (Value.agg #[Value.bool nr, Value.slice Ar lr.length cr]) z1 m ∧ IntI (fun k => k < w.heap.size) w' (Value.agg #[Value.bool nr2, Value.slice Ar2 lr2.length cr2]) z2 n ∧ NumV (fun k => w.heap.size + 3 ≤ k ∧ k < N1) w' (Value.slice As1 (dig D1).length cs1) (dig D1) ∧ NumV (fun k => w.heap.size + 3 ≤ k ∧ k < N2) w' (Value.slice As2 (dig D2).length cs2) (dig D2) ∧ Below w.heap.size w w' ∧ Res w' (w.heap.size + 2) 3)
    ((first
      | exact (keep_and (keep_and (keep_and (keep_and (keep_and (keep_and (keep_and (keep_and (keep_p IntI.below (keep_p IntI.below (keep_p NumV.below (keep_p NumV.below (keep_B (Res.below)))))))))))))) ⟨k0, k1, k2, k3, k4, k5, k6, k7, hr1, hr2, hns1, hns2, hB, hR2⟩ (below_drew _)
      | exact (keep_and (keep_and (keep_and (keep_and (keep_and (keep_and (keep_and (keep_and (keep_p IntI.below (keep_p IntI.below (keep_p NumV.below (keep_p NumV.below (keep_B (Res.below)))))))))))))) (by assumption) (below_drew _)
      | exact (keep_and (keep_and (keep_and (keep_and (keep_and (keep_and (keep_and (keep_and (keep_p IntI.below (keep_p IntI.below (keep_p NumV.below (keep_p NumV.below (keep_B (Res.below)))))))))))))) (by assumption) (by assumption)
      | exact (set_held (by simp <;> omega) (set_held (by simp <;> omega) (set_held (by simp <;> omega) (set_held (by simp <;> omega) (set_held (by simp <;> omega) (set_held (by simp <;> omega) (set_held (by simp <;> omega) (set_held (by simp <;> omega) (set_p (set_I (by intro k hk; simp <;> omega)) (set_p (set_I (by intro k hk; simp <;> omega)) (set_p (set_N (by simp <;> omega)) (set_p (set_N (by simp <;> omega)) (set_B (by simp <;> omega) (set_R1)))))))))))))) ((set_held (by simp <;> omega) (set_held (by simp <;> omega) (set_held (by simp <;> omega) (set_held (by simp <;> omega) (set_held (by simp <;> omega) (set_held (by simp <;> omega) (set_held (by simp <;> omega) (set_held (by simp <;> omega) (set_p (set_I (by intro k hk; simp <;> omega)) (set_p (set_I (by intro k hk; simp <;> omega)) (set_p (set_N (by simp <;> omega)) (set_p (set_N (by simp <;> omega)) (set_B (by simp <;> omega) (set_R1)))))))))))))) ((set_held (by simp <;> omega) (set_held (by simp <;> omega) (set_held (by simp <;> omega) (set_held (by simp <;> omega) (set_held (by simp <;> omega) (set_held (by simp <;> omega) (set_held (by simp <;> omega) (set_held (by simp <;> omega) (set_p (set_I (by intro k hk; simp <;> omega)) (set_p (set_I (by intro k hk; simp <;> omega)) (set_p (set_N (by simp <;> omega)) (set_p (set_N (by simp <;> omega)) (set_B (by simp <;> omega) (set_R1)))))))))))))) (by assumption)))))
    (first
      | (go_at_call 56; obtain ⟨_, _, _, _, _, _, _, _, hI1, hI2, hN1, hN2, hB1, hRg13⟩ := ‹(_ = some _) ∧ (_ = some _) ∧ (_ = some _) ∧ (_ = some _) ∧ (_ = some _) ∧ (_ = some _) ∧ (_ = some _) ∧ (_ = some _) ∧ IntI _ _ _ _ _ ∧ IntI _ _ _ _ _ ∧ NumV _ _ _ _ ∧ NumV _ _ _ _ ∧ Below _ _ _ ∧ Res _ _ _›; first | (with_reducible refine (int_mul _ hI1 (hN2.posI hl2) hmn).mono ?_; rintro e w5 ⟨r5, rfl, hM1, hb⟩; (try replace hM2 := hM2.below hb); (try replace hN := hN.below hb)) | (with_reducible refine (int_mul _ hI2 (hN1.posI hl1) hnm).mono ?_; rintro e w5 ⟨r5, rfl, hM2, hb⟩; (try replace hM1 := hM1.below hb); (try replace hN := hN.below hb)))
      | (go_at_call 55; obtain ⟨_, _, _, _, _, _, _, _, hI1, hI2, hN1, hN2, hB1, hRg13⟩ := ‹(_ = some _) ∧ (_ = some _) ∧ (_ = some _) ∧ (_ = some _) ∧ (_ = some _) ∧ (_ = some _) ∧ (_ = some _) ∧ (_ = some _) ∧ IntI _ _ _ _ _ ∧ IntI _ _ _ _ _ ∧ NumV _ _ _ _ ∧ NumV _ _ _ _ ∧ Below _ _ _ ∧ Res _ _ _›; refine (int_Add _ hM1.i hM2.i hs1 hs2).mono ?_; rintro e w5 ⟨r6, rfl, hA, hb⟩; (try replace hN := hN.below hb))
      | (go_at_call 57; obtain ⟨_, _, _, _, _, _, _, _, hI1, hI2, hN1, hN2, hB1, hRg13⟩ := ‹(_ = some _) ∧ (_ = some _) ∧ (_ = some _) ∧ (_ = some _) ∧ (_ = some _) ∧ (_ = some _) ∧ (_ = some _) ∧ (_ = some _) ∧ IntI _ _ _ _ _ ∧ IntI _ _ _ _ _ ∧ NumV _ _ _ _ ∧ NumV _ _ _ _ ∧ Below _ _ _ ∧ Res _ _ _›; refine (nat_Mul _ hN1 hN2 (by omega)).mono ?_; rintro e w5 ⟨r8, rfl, hN, hb⟩; rw [nv_dig, nv_dig] at hN; (try replace hM1 := hM1.below hb); (try replace hM2 := hM2.below hb); (try replace hA := hA.below hb))
      | (go_at_call 54; obtain ⟨_, _, _, _, _, _, _, _, hI1, hI2, hN1, hN2, hB1, hRg13⟩ := ‹(_ = some _) ∧ (_ = some _) ∧ (_ = some _) ∧ (_ = some _) ∧ (_ = some _) ∧ (_ = some _) ∧ (_ = some _) ∧ (_ = some _) ∧ IntI _ _ _ _ _ ∧ IntI _ _ _ _ _ ∧ NumV _ _ _ _ ∧ NumV _ _ _ _ ∧ Below _ _ _ ∧ Res _ _ _›; refine (rat_lowest _ hA.i hN hlm hln).mono ?_; rintro e w7 ⟨r7, rfl, hL, hb⟩; obtain ⟨A7, c7, B7, d7, rfl⟩ := hL.slice; obtain ⟨⟨⟨x4, h4⟩, f4⟩, ⟨⟨x5, h5⟩, f5⟩, ⟨x6, h6⟩, f6⟩ := And.intro ((hRg13.below hb).2 0 (by omega)) (And.intro ((hRg13.below hb).2 1 (by omega)) ((hRg13.below hb).2 2 (by omega)))))
  all_goals
    go_wp2_with fail
    refine bodyPost_ret (v := .agg #[.bool (decide ((((z1 * (D2 : Nat) + z2 * (D1 : Nat) : Int) : Rat) / ((nv (dig (D1 * D2)) : Nat) : Rat)).num < 0)), .slice A7 (sz (((z1 * (D2 : Nat) + z2 * (D1 : Nat) : Int) : Rat) / ((nv (dig (D1 * D2)) : Nat) : Rat)).num) c7, .slice B7 (dig (((z1 * (D2 : Nat) + z2 * (D1 : Nat) : Int) : Rat) / ((nv (dig (D1 * D2)) : Nat) : Rat)).den).length d7]) (by simp [results, Try.results24, go_sem, h4, h5, h6]) rfl ?_
    have hst := fun x y z => RatV.stored (x := x) (y := y) (z := z) (show w.heap.size ≤ w.heap.size + 2 by omega) hRg13 hL
    rw [hQ.out] at hst ⊢
    exact ⟨_, rfl, hst _ _ _, (((hB1.after hB1.size hb).setCell (by simp <;> omega) _).setCell (by simp <;> omega) _).setCell (by simp <;> omega) _⟩

set_option maxHeartbeats 8000000 in
set_option maxRecDepth 100000 in
theorem rat_Sub {S T : Nat → Prop} {v u : Value} {p q : Rat} {m n : Nat} (w : World) (hv : RatI S w v p m) (hu : RatI T w u q n) (h1 : 1 ≤ m) (h2 : 1 ≤ n) (hm : m + n ≤ 35184372088828) :
    Calls Try.prog 29 #[v, u] w fun e w' => ∃ r, e = .returned r ∧ RatV (New w) w' r (p - q) ∧ Below w.heap.size w w' := by
  obtain ⟨na, u1, e1, a1, t1, rfl, ha1, ht1, hq1, hla1, hlt1⟩ := id hv
  obtain ⟨nb, u2, e2, a2, t2, rfl, ha2, ht2, hq2, hla2, hlt2⟩ := id hu
  obtain ⟨A1, c1, rfl⟩ := ha1.slice
  obtain ⟨B1, d1, rfl⟩ := ht1.slice
  obtain ⟨A2, c2, rfl⟩ := ha2.slice
  obtain ⟨B2, d2, rfl⟩ := ht2.slice
  have hv0 := hv.mono (T := fun k => k < w.heap.size) (fun k _ h2 => h2)
  have hu0 := hu.mono (T := fun k => k < w.heap.size) (fun k _ h2 => h2)
  clear hv hu ha1 ht1 ha2 ht2 hq1 hq2
  go_enter Try.func29, Try.ntmps29
  go_wp2_with fail
  obtain ⟨W, hW⟩ : ∃ W, (((w.alloc (Obj.cells #[Value.bool na, Value.slice A1 a1.length c1, Value.slice B1 t1.length d1] 40)).alloc (Obj.cells #[Value.bool nb, Value.slice A2 a2.length c2, Value.slice B2 t2.length d2] 40)).alloc (Obj.cells #[Value.bool false, Value.slice none 0 0, Value.slice none 0 0] 40)) = W := ⟨_, rfl⟩
  have hs : W.heap.size = w.heap.size + 3 := by rw [← hW]; simp
  have hB : Below w.heap.size w W := by rw [← hW]; exact ((((Below.refl _ _).alloc (by simp <;> omega) _).alloc (by simp <;> omega) _).alloc (by simp <;> omega) _)
  have cc0 : W.cell? ⟨w.heap.size, 0, none⟩ = some (.bool na) := by subst hW; simp [go_sem]
  have cc1 : W.cell? ⟨w.heap.size, 1, none⟩ = some (.slice A1 a1.length c1) := by subst hW; simp [go_sem]
  have cc2 : W.cell? ⟨w.heap.size, 2, none⟩ = some (.slice B1 t1.length d1) := by subst hW; simp [go_sem]
  have cc3 : W.cell? ⟨w.heap.size + 1, 0, none⟩ = some (.bool nb) := by subst hW; simp [go_sem]
  have cc4 : W.cell? ⟨w.heap.size + 1, 1, none⟩ = some (.slice A2 a2.length c2) := by subst hW; simp [go_sem]
  have cc5 : W.cell? ⟨w.heap.size + 1, 2, none⟩ = some (.slice B2 t2.length d2) := by subst hW; simp [go_sem]
  have hR2 : Res W (w.heap.size + 2) 3 := ⟨by omega, fun i hi => by
    subst hW
    rcases (by omega : i = 0 ∨ i = 1 ∨ i = 2) with rfl | rfl | rfl
    · exact ⟨⟨.bool false, by simp [go_sem]⟩, by simp [go_sem]⟩
    · exact ⟨⟨.slice none 0 0, by simp [go_sem]⟩, by simp [go_sem]⟩
    · exact ⟨⟨.slice none 0 0, by simp [go_sem]⟩, by simp [go_sem]⟩⟩
  rw [hW]
  clear hW
  have hS : W.cell? ⟨w.heap.size, 0, none⟩ = some (.bool na) ∧ W.cell? ⟨w.heap.size, 1, none⟩ = some (.slice A1 a1.length c1) ∧ W.cell? ⟨w.heap.size, 2, none⟩ = some (.slice B1 t1.length d1) ∧ W.cell? ⟨w.heap.size + 1, 0, none⟩ = some (.bool nb) ∧ W.cell? ⟨w.heap.size + 1, 1, none⟩ = some (.slice A2 a2.length c2) ∧ W.cell? ⟨w.heap.size + 1, 2, none⟩ = some (.slice B2 t2.length d2) ∧ Below w.heap.size w W ∧ Res W (w.heap.size + 2) 3 := ⟨cc0, cc1, cc2, cc3, cc4, cc5, hB, hR2⟩
  refine (rat_parts _ (hv0.below hB) h1 (by omega)).mono ?_
  rintro e w1 ⟨r1, s1, z1, D1, rfl, hr1, hs1, hD1, hl1, hq1, hb1⟩
  replace hr1 := hr1.mono (T := fun k => k < w.heap.size) (fun k h _ => h)
  obtain ⟨As1, cs1, rfl, hns1⟩ := hs1.pos
  replace hns1 := hns1.mono (T := fun k => w.heap.size + 3 ≤ k ∧ k < w1.heap.size) (fun k h1 h2 => ⟨by have : W.heap.size ≤ k := h1; omega, h2⟩)
  replace hS := (keep_and (keep_and (keep_and (keep_and (keep_and (keep_and (keep_B (Res.below)))))))) hS hb1
  have hz1 : w.heap.size + 3 ≤ w1.heap.size := by have := hb1.size; omega
  clear cc0 cc1 cc2 cc3 cc4 cc5 hB hb1 hR2
  obtain ⟨cc0, cc1, cc2, cc3, cc4, cc5, hB, hR2⟩ := id hS
  obtain ⟨nr, ur, lr, rfl, hur, hzr, hlr⟩ := id hr1
  obtain ⟨Ar, cr, rfl⟩ := hur.slice
  clear hur hzr hs1
  have l0 : w.heap.size < w1.heap.size := by omega
  have l1 : w.heap.size + 1 < w1.heap.size := by omega
  have l2 : w.heap.size + 2 < w1.heap.size := by omega
  go_wp2_with fail
  obtain ⟨W2, hW2⟩ : ∃ W2, ((w1.alloc (Obj.cells #[Value.bool nr, Value.slice Ar lr.length cr] 38)).alloc (Obj.cells #[Value.bool false, Value.slice As1 (dig D1).length cs1] 38)) = W2 := ⟨_, rfl⟩
  have hs2 : W2.heap.size = w1.heap.size + 2 := by rw [← hW2]; simp
  have hb12 : Below w1.heap.size w1 W2 := by rw [← hW2]; exact ((Below.refl _ _).alloc (by simp) _).alloc (by simp) _
  have k0 : W2.cell? ⟨w1.heap.size, 0, none⟩ = some (.bool nr) := by subst hW2; simp [go_sem]
  have k1 : W2.cell? ⟨w1.heap.size, 1, none⟩ = some (.slice Ar lr.length cr) := by subst hW2; simp [go_sem]
  have k2 : W2.cell? ⟨w1.heap.size + 1, 0, none⟩ = some (.bool false) := by subst hW2; simp [go_sem]
  have k3 : W2.cell? ⟨w1.heap.size + 1, 1, none⟩ = some (.slice As1 (dig D1).length cs1) := by subst hW2; simp [go_sem]
  rw [hW2]
  clear hW2
  replace hr1 := hr1.below hb12
  replace hns1 := hns1.below hb12
  replace hS := (keep_and (keep_and (keep_and (keep_and (keep_and (keep_and (keep_B (Res.below)))))))) hS hb12
  clear cc0 cc1 cc2 cc3 cc4 cc5 hB hb12 hR2
  obtain ⟨cc0, cc1, cc2, cc3, cc4, cc5, hB, hR2⟩ := id hS
  refine (rat_parts _ (hu0.below hB) h2 (by omega)).mono ?_
  rintro e w3 ⟨r2, s2, z2, D2, rfl, hr2, hs2', hD2, hl2, hq2, hb3⟩
  replace hr2 := hr2.mono (T := fun k => k < w.heap.size) (fun k h _ => h)
  obtain ⟨As2, cs2, rfl, hns2⟩ := hs2'.pos
  replace hns2 := hns2.mono (T := fun k => w.heap.size + 3 ≤ k ∧ k < w3.heap.size) (fun k h1 h2 => ⟨by have : W2.heap.size ≤ k := h1; omega, h2⟩)
  replace hS := (keep_and (keep_and (keep_and (keep_and (keep_and (keep_and (keep_B (Res.below)))))))) hS hb3
  have hk := (keep_and (keep_and (keep_and keep_cell))) ⟨k0, k1, k2, k3⟩ hb3
  replace hr1 := hr1.below hb3
  replace hns1 := hns1.below hb3
  have l3 : w1.heap.size + 2 ≤ w3.heap.size := by have := hb3.size; omega
  clear cc0 cc1 cc2 cc3 cc4 cc5 hB hb3 k0 k1 k2 k3 hs2 hR2 hs2'
  obtain ⟨cc0, cc1, cc2, cc3, cc4, cc5, hB, hR2⟩ := id hS
  obtain ⟨k0, k1, k2, k3⟩ := id hk
  obtain ⟨nr2, ur2, lr2, rfl, hur2, hzr2, hlr2⟩ := id hr2
  obtain ⟨Ar2, cr2, rfl⟩ := hur2.slice
  clear hur2 hzr2
  go_wp2_with fail
  obtain ⟨W4, hW4⟩ : ∃ W4, ((w3.alloc (Obj.cells #[Value.bool nr2, Value.slice Ar2 lr2.length cr2] 38)).alloc (Obj.cells #[Value.bool false, Value.slice As2 (dig D2).length cs2] 38)) = W4 := ⟨_, rfl⟩
  have hb34 : Below w3.heap.size w3 W4 := by rw [← hW4]; exact ((Below.refl _ _).alloc (by simp) _).alloc (by simp) _
  have k4 : W4.cell? ⟨w3.heap.size, 0, none⟩ = some (.bool nr2) := by subst hW4; simp [go_sem]
  have k5 : W4.cell? ⟨w3.heap.size, 1, none⟩ = some (.slice Ar2 lr2.length cr2) := by subst hW4; simp [go_sem]
  have k6 : W4.cell? ⟨w3.heap.size + 1, 0, none⟩ = some (.bool false) := by subst hW4; simp [go_sem]
  have k7 : W4.cell? ⟨w3.heap.size + 1, 1, none⟩ = some (.slice As2 (dig D2).length cs2) := by subst hW4; simp [go_sem]
  rw [hW4]
  clear hW4
  replace hr1 := hr1.below hb34
  replace hns1 := hns1.below hb34
  replace hr2 := hr2.below hb34
  replace hns2 := hns2.below hb34
  replace hS := (keep_and (keep_and (keep_and (keep_and (keep_and (keep_and (keep_B (Res.below)))))))) hS hb34
  replace hk := (keep_and (keep_and (keep_and keep_cell))) hk hb34
  clear cc0 cc1 cc2 cc3 cc4 cc5 hB hb34 k0 k1 k2 k3 hR2
  obtain ⟨cc0, cc1, cc2, cc3, cc4, cc5, hB, hR2⟩ := id hS
  obtain ⟨k0, k1, k2, k3⟩ := id hk
  clear cc0 cc1 cc2 cc3 cc4 cc5 hS hk l0 l1
  generalize w1.heap.size = N1 at *
  generalize w3.heap.size = N2 at *
  have hmn : m + n ≤ 35184372088830 := by omega
  have hnm : n + m ≤ 35184372088830 := by omega
  have hs1 : sz (z1 * (D2 : Nat)) ≤ 35184372088829 := by have := sz_mul z1 (D2 : Nat); have := hr1.sz; have : sz ((D2 : Nat) : Int) = (dig D2).length := rfl; omega
  have hs2 : sz (z2 * (D1 : Nat)) ≤ 35184372088829 := by have := sz_mul z2 (D1 : Nat); have := hr2.sz; have : sz ((D1 : Nat) : Int) = (dig D1).length := rfl; omega
  have hlm : sz (z1 * (D2 : Nat) - z2 * (D1 : Nat)) ≤ 35184372088829 := by
    have := sz_mul z1 (D2 : Nat); have := hr1.sz; have : sz ((D2 : Nat) : Int) = (dig D2).length := rfl
    have := sz_mul z2 (D1 : Nat); have := hr2.sz; have : sz ((D1 : Nat) : Int) = (dig D1).length := rfl
    have := sz_sub (z1 * (D2 : Nat)) (z2 * (D1 : Nat))
    omega
  have hQ : As ((((z1 * (D2 : Nat) - z2 * (D1 : Nat) : Int) : Rat) / ((nv (dig (D1 * D2)) : Nat) : Rat)) = p - q) := ⟨by rw [nv_dig, rat_sub_eq _ _ _ _ hD1 hD2, hq1, hq2]⟩
  have hln : (dig (D1 * D2)).length ≤ 35184372088829 := by have := dig_len_mul D1 D2; omega
  go_region_held3 (fun w' => w'.cell? ⟨N1, 0, none⟩ = some (.bool nr) ∧ w'.cell? ⟨N1, 1, none⟩ = some (.slice Ar lr.length cr) ∧ w'.cell? ⟨N1 + 1, 0, none⟩ = some (.bool false) ∧ w'.cell? ⟨N1 + 1, 1, none⟩ = some (.slice As1 (dig D1).length cs1) ∧ w'.cell? ⟨N2, 0, none⟩ = some (.bool nr2) ∧ w'.cell? ⟨N2, 1, none⟩ = some (.slice Ar2 lr2.length cr2) ∧ w'.cell? ⟨N2 + 1, 0, none⟩ = some (.bool false) ∧ w'.cell? ⟨N2 + 1, 1, none⟩ = some (.slice As2 (dig D2).length cs2) ∧ IntI (fun k => k < w.heap.size) w' (Value.agg #[Value.bool nr, Value.slice Ar lr.length cr]) z1 m ∧ IntI (fun k => k < w.heap.size) w' (Value.agg #[Value.bool nr2, Value.slice Ar2 lr2.length cr2]) z2 n ∧ NumV (fun k => w.heap.size + 3 ≤ k ∧ k < N1) w' (Value.slice As1 (dig D1).length cs1) (dig D1) ∧ NumV (fun k => w.heap.size + 3 ≤ k ∧ k < N2) w' (Value.slice As2 (dig D2).length cs2) (dig D2) ∧ Below w.heap.size w w' ∧ Res w' (w.heap.size + 2) 3)
    ((first
      | exact (keep_and (keep_and (keep_and (keep_and (keep_and (keep_and (keep_and (keep_and (keep_p IntI.below (keep_p IntI.below (keep_p NumV.below (keep_p NumV.below (keep_B (Res.below)))))))))))))) ⟨k0, k1, k2, k3, k4, k5, k6, k7, hr1, hr2, hns1, hns2, hB, hR2⟩ (below_drew _)
      | exact (keep_and (keep_and (keep_and (keep_and (keep_and (keep_and (keep_and (keep_and (keep_p IntI.below (keep_p IntI.below (keep_p NumV.below (keep_p NumV.below (keep_B (Res.below)))))))))))))) (by assumption) (below_drew _)
      | exact (keep_and (keep_and (keep_and (keep_and (keep_and (keep_and (keep_and (keep_and (keep_p IntI.below (keep_p IntI.below (keep_p NumV.below (keep_p NumV.below (keep_B (Res.below)))))))))))))) (by assumption) (by assumption)
      | exact (set_held (by simp <;> omega) (set_held (by simp <;> omega) (set_held (by simp <;> omega) (set_held (by simp <;> omega) (set_held (by simp <;> omega) (set_held (by simp <;> omega) (set_held (by simp <;> omega) (set_held (by simp <;> omega) (set_p (set_I (by intro k hk; simp <;> omega)) (set_p (set_I (by intro k hk; simp <;> omega)) (set_p (set_N (by simp <;> omega)) (set_p (set_N (by simp <;> omega)) (set_B (by simp <;> omega) (set_R1)))))))))))))) ((set_held (by simp <;> omega) (set_held (by simp <;> omega) (set_held (by simp <;> omega) (set_held (by simp <;> omega) (set_held (by simp <;> omega) (set_held (by simp <;> omega) (set_held (by simp <;> omega) (set_held (by simp <;> omega) (set_p (set_I (by intro k hk; simp <;> omega)) (set_p (set_I (by intro k hk; simp <;> omega)) (set_p (set_N (by simp <;> omega)) (set_p (set_N (by simp <;> omega)) (set_B (by simp <;> omega) (set_R1)))))))))))))) ((set_held (by simp <;> omega) (set_held (by simp <;> omega) (set_held (by simp <;> omega) (set_held (by simp <;> omega) (set_held (by simp <;> omega) (set_held (by simp <;> omega) (set_held (by simp <;> omega) (set_held (by simp <;> omega) (set_p (set_I (by intro k hk; simp <;> omega)) (set_p (set_I (by intro k hk; simp <;> omega)) (set_p (set_N (by simp <;> omega)) (set_p (set_N (by simp <;> omega)) (set_B (by simp <;> omega) (set_R1)))))))))))))) (by assumption)))))
    (first
      | (go_at_call 56; obtain ⟨_, _, _, _, _, _, _, _, hI1, hI2, hN1, hN2, hB1, hRg13⟩ := ‹(_ = some _) ∧ (_ = some _) ∧ (_ = some _) ∧ (_ = some _) ∧ (_ = some _) ∧ (_ = some _) ∧ (_ = some _) ∧ (_ = some _) ∧ IntI _ _ _ _ _ ∧ IntI _ _ _ _ _ ∧ NumV _ _ _ _ ∧ NumV _ _ _ _ ∧ Below _ _ _ ∧ Res _ _ _›; first | (with_reducible refine (int_mul _ hI1 (hN2.posI hl2) hmn).mono ?_; rintro e w5 ⟨r5, rfl, hM1, hb⟩; (try replace hM2 := hM2.below hb); (try replace hN := hN.below hb)) | (with_reducible refine (int_mul _ hI2 (hN1.posI hl1) hnm).mono ?_; rintro e w5 ⟨r5, rfl, hM2, hb⟩; (try replace hM1 := hM1.below hb); (try replace hN := hN.below hb)))
      | (go_at_call 61; obtain ⟨_, _, _, _, _, _, _, _, hI1, hI2, hN1, hN2, hB1, hRg13⟩ := ‹(_ = some _) ∧ (_ = some _) ∧ (_ = some _) ∧ (_ = some _) ∧ (_ = some _) ∧ (_ = some _) ∧ (_ = some _) ∧ (_ = some _) ∧ IntI _ _ _ _ _ ∧ IntI _ _ _ _ _ ∧ NumV _ _ _ _ ∧ NumV _ _ _ _ ∧ Below _ _ _ ∧ Res _ _ _›; refine (int_Sub _ hM1.i hM2.i hs1 hs2).mono ?_; rintro e w5 ⟨r6, rfl, hA, hb⟩; (try replace hN := hN.below hb))
      | (go_at_call 57; obtain ⟨_, _, _, _, _, _, _, _, hI1, hI2, hN1, hN2, hB1, hRg13⟩ := ‹(_ = some _) ∧ (_ = some _) ∧ (_ = some _) ∧ (_ = some _) ∧ (_ = some _) ∧ (_ = some _) ∧ (_ = some _) ∧ (_ = some _) ∧ IntI _ _ _ _ _ ∧ IntI _ _ _ _ _ ∧ NumV _ _ _ _ ∧ NumV _ _ _ _ ∧ Below _ _ _ ∧ Res _ _ _›; refine (nat_Mul _ hN1 hN2 (by omega)).mono ?_; rintro e w5 ⟨r8, rfl, hN, hb⟩; rw [nv_dig, nv_dig] at hN; (try replace hM1 := hM1.below hb); (try replace hM2 := hM2.below hb); (try replace hA := hA.below hb))
      | (go_at_call 54; obtain ⟨_, _, _, _, _, _, _, _, hI1, hI2, hN1, hN2, hB1, hRg13⟩ := ‹(_ = some _) ∧ (_ = some _) ∧ (_ = some _) ∧ (_ = some _) ∧ (_ = some _) ∧ (_ = some _) ∧ (_ = some _) ∧ (_ = some _) ∧ IntI _ _ _ _ _ ∧ IntI _ _ _ _ _ ∧ NumV _ _ _ _ ∧ NumV _ _ _ _ ∧ Below _ _ _ ∧ Res _ _ _›; refine (rat_lowest _ hA.i hN hlm hln).mono ?_; rintro e w7 ⟨r7, rfl, hL, hb⟩; obtain ⟨A7, c7, B7, d7, rfl⟩ := hL.slice; obtain ⟨⟨⟨x4, h4⟩, f4⟩, ⟨⟨x5, h5⟩, f5⟩, ⟨x6, h6⟩, f6⟩ := And.intro ((hRg13.below hb).2 0 (by omega)) (And.intro ((hRg13.below hb).2 1 (by omega)) ((hRg13.below hb).2 2 (by omega)))))
  all_goals
    go_wp2_with fail
    refine bodyPost_ret (v := .agg #[.bool (decide ((((z1 * (D2 : Nat) - z2 * (D1 : Nat) : Int) : Rat) / ((nv (dig (D1 * D2)) : Nat) : Rat)).num < 0)), .slice A7 (sz (((z1 * (D2 : Nat) - z2 * (D1 : Nat) : Int) : Rat) / ((nv (dig (D1 * D2)) : Nat) : Rat)).num) c7, .slice B7 (dig (((z1 * (D2 : Nat) - z2 * (D1 : Nat) : Int) : Rat) / ((nv (dig (D1 * D2)) : Nat) : Rat)).den).length d7]) (by simp [results, Try.results29, go_sem, h4, h5, h6]) rfl ?_
    have hst := fun x y z => RatV.stored (x := x) (y := y) (z := z) (show w.heap.size ≤ w.heap.size + 2 by omega) hRg13 hL
    rw [hQ.out] at hst ⊢
    exact ⟨_, rfl, hst _ _ _, (((hB1.after hB1.size hb).setCell (by simp <;> omega) _).setCell (by simp <;> omega) _).setCell (by simp <;> omega) _⟩
end Go.Proofs.Ytdbpjnjgjmfomaa
