/- The program's ratios, sixth part: Cmp. -/
import Derived.Test.YtdbpjnjgjmfomaaRat5
namespace Go.Proofs.Ytdbpjnjgjmfomaa
open Go.RowKit

def cmpR (p q : Rat) : Int := if p < q then -1 else if p = q then 0 else 1
theorem frac_lt (a b c d : Rat) (hc : 0 < c) (hd : 0 < d) : a / c < b / d ↔ a * d < b * c := by
  rw [Rat.div_lt_iff hc]
  rw [show b / d * c = (b * c) / d by grind, Rat.lt_div_iff hd]
theorem frac_eq (a b c d : Rat) (hc : 0 < c) (hd : 0 < d) : a / c = b / d ↔ a * d = b * c := by
  have h1 : c ≠ 0 := by grind
  have h2 : d ≠ 0 := by grind
  constructor <;> intro h <;> grind
theorem cmp_frac (z1 z2 : Int) (D1 D2 : Nat) (h1 : 0 < D1) (h2 : 0 < D2) : cmpZ (z1 * (D2 : Nat)) (z2 * (D1 : Nat)) = cmpR ((z1 : Rat) / (D1 : Rat)) ((z2 : Rat) / (D2 : Rat)) := by
  have e1 : (0 : Rat) < (D1 : Rat) := by first | exact Rat.natCast_pos.2 h1 | (rw [← Rat.intCast_natCast]; exact Rat.intCast_pos.2 (by omega))
  have e2 : (0 : Rat) < (D2 : Rat) := by first | exact Rat.natCast_pos.2 h2 | (rw [← Rat.intCast_natCast]; exact Rat.intCast_pos.2 (by omega))
  have a1 : ((z1 : Rat) / (D1 : Rat) < (z2 : Rat) / (D2 : Rat)) ↔ z1 * (D2 : Nat) < z2 * (D1 : Nat) := by
    rw [frac_lt _ _ _ _ e1 e2, ← Rat.intCast_natCast, ← Rat.intCast_natCast, ← Rat.intCast_mul, ← Rat.intCast_mul, Rat.intCast_lt_intCast]
  have a2 : ((z1 : Rat) / (D1 : Rat) = (z2 : Rat) / (D2 : Rat)) ↔ z1 * (D2 : Nat) = z2 * (D1 : Nat) := by
    rw [frac_eq _ _ _ _ e1 e2, ← Rat.intCast_natCast, ← Rat.intCast_natCast, ← Rat.intCast_mul, ← Rat.intCast_mul, Rat.intCast_inj]
  unfold cmpZ cmpR
  simp only [a1, a2]

set_option maxHeartbeats 8000000 in
set_option maxRecDepth 100000 in
theorem rat_Cmp {S T : Nat → Prop} {v u : Value} {p q : Rat} {m n : Nat} (w : World) (hv : RatI S w v p m) (hu : RatI T w u q n) (h1 : 1 ≤ m) (h2 : 1 ≤ n) (hm : m + n ≤ 35184372088828) :
    Calls Try.prog 33 #[v, u] w fun e w' => e = .returned (.int .i64 (cmpR p q)) ∧ Below w.heap.size w w' := by
  obtain ⟨na, u1, e1, a1, t1, rfl, ha1, ht1, hq1, hla1, hlt1⟩ := id hv
  obtain ⟨nb, u2, e2, a2, t2, rfl, ha2, ht2, hq2, hla2, hlt2⟩ := id hu
  obtain ⟨A1, c1, rfl⟩ := ha1.slice
  obtain ⟨B1, d1, rfl⟩ := ht1.slice
  obtain ⟨A2, c2, rfl⟩ := ha2.slice
  obtain ⟨B2, d2, rfl⟩ := ht2.slice
  have hv0 := hv.mono (T := fun k => k < w.heap.size) (fun k _ h2 => h2)
  have hu0 := hu.mono (T := fun k => k < w.heap.size) (fun k _ h2 => h2)
  clear hv hu ha1 ht1 ha2 ht2 hq1 hq2
  go_enter Try.func33, Try.ntmps33
  go_wp2_with fail
  obtain ⟨W, hW⟩ : ∃ W, ((w.alloc (Obj.cells #[Value.bool na, Value.slice A1 a1.length c1, Value.slice B1 t1.length d1] 40)).alloc (Obj.cells #[Value.bool nb, Value.slice A2 a2.length c2, Value.slice B2 t2.length d2] 40)) = W := ⟨_, rfl⟩
  have hs : W.heap.size = w.heap.size + 2 := by rw [← hW]; simp
  have hB : Below w.heap.size w W := by rw [← hW]; exact (((Below.refl _ _).alloc (by simp <;> omega) _).alloc (by simp <;> omega) _)
  have cc0 : W.cell? ⟨w.heap.size, 0, none⟩ = some (.bool na) := by subst hW; simp [go_sem]
  have cc1 : W.cell? ⟨w.heap.size, 1, none⟩ = some (.slice A1 a1.length c1) := by subst hW; simp [go_sem]
  have cc2 : W.cell? ⟨w.heap.size, 2, none⟩ = some (.slice B1 t1.length d1) := by subst hW; simp [go_sem]
  have cc3 : W.cell? ⟨w.heap.size + 1, 0, none⟩ = some (.bool nb) := by subst hW; simp [go_sem]
  have cc4 : W.cell? ⟨w.heap.size + 1, 1, none⟩ = some (.slice A2 a2.length c2) := by subst hW; simp [go_sem]
  have cc5 : W.cell? ⟨w.heap.size + 1, 2, none⟩ = some (.slice B2 t2.length d2) := by subst hW; simp [go_sem]
  rw [hW]
  clear hW
  have hS : W.cell? ⟨w.heap.size, 0, none⟩ = some (.bool na) ∧ W.cell? ⟨w.heap.size, 1, none⟩ = some (.slice A1 a1.length c1) ∧ W.cell? ⟨w.heap.size, 2, none⟩ = some (.slice B1 t1.length d1) ∧ W.cell? ⟨w.heap.size + 1, 0, none⟩ = some (.bool nb) ∧ W.cell? ⟨w.heap.size + 1, 1, none⟩ = some (.slice A2 a2.length c2) ∧ W.cell? ⟨w.heap.size + 1, 2, none⟩ = some (.slice B2 t2.length d2) ∧ Below w.heap.size w W := ⟨cc0, cc1, cc2, cc3, cc4, cc5, hB⟩
  refine (rat_parts _ (hv0.below hB) h1 (by omega)).mono ?_
  rintro e w1 ⟨r1, s1, z1, D1, rfl, hr1, hs1, hD1, hl1, hq1, hb1⟩
  replace hr1 := hr1.mono (T := fun k => k < w.heap.size) (fun k h _ => h)
  obtain ⟨As1, cs1, rfl, hns1⟩ := hs1.pos
  replace hns1 := hns1.mono (T := fun k => w.heap.size + 2 ≤ k ∧ k < w1.heap.size) (fun k h1 h2 => ⟨by have : W.heap.size ≤ k := h1; omega, h2⟩)
  replace hS := (keep_and (keep_and (keep_and (keep_and (keep_and (keep_and (keep_end))))))) hS hb1
  have hz1 : w.heap.size + 2 ≤ w1.heap.size := by have := hb1.size; omega
  clear cc0 cc1 cc2 cc3 cc4 cc5 hB hb1
  obtain ⟨cc0, cc1, cc2, cc3, cc4, cc5, hB⟩ := id hS
  obtain ⟨nr, ur, lr, rfl, hur, hzr, hlr⟩ := id hr1
  obtain ⟨Ar, cr, rfl⟩ := hur.slice
  clear hur hzr hs1
  have l0 : w.heap.size < w1.heap.size := by omega
  have l1 : w.heap.size + 1 < w1.heap.size := by omega
  go_wp2_with fail
  obtain ⟨W2, hW2⟩ : ∃ W2, ((w1.alloc (Obj.cells #[Value.bool nr, Value.slice Ar lr.length cr] 38)).alloc (Obj.cells #[Value.bool false, Value.slice As1 (dig D1).length cs1] 38)) = W2 := ⟨_, rfl⟩
  have hs2 : W2.heap.size = w1.heap.size + 2 := by rw [← hW2]; simp
  have hb12 : Below w1.heap.size w1 W2 := by rw [← hW2]; exact ((Below.refl _ _).alloc (by simp) _).alloc (by simp) _
  have k0 : W2.cell? ⟨w1.heap.size, 0, none⟩ = some (.bool nr) := by subst hW2; simp [go_sem]
  have k1 : W2.cell? ⟨w1.heap.size, 1, none⟩ = some (.slice Ar lr.length cr) := by subst hW2; simp [go_sem]
  have k2 : W2.cell? ⟨w1.heap.size + 1, 0, none⟩ = some (.bool false) := by subst hW2; simp [go_sem]
  have k3 : W2.cell? ⟨w1.heap.size + 1, 1, none⟩ = some (.slice As1 (dig D1).length cs1) := by subst hW2; simp [go_sem]
  rw [hW2]
  clear hW2
  replace hr1 := hr1.below hb12
  replace hns1 := hns1.below hb12
  replace hS := (keep_and (keep_and (keep_and (keep_and (keep_and (keep_and (keep_end))))))) hS hb12
  clear cc0 cc1 cc2 cc3 cc4 cc5 hB hb12
  obtain ⟨cc0, cc1, cc2, cc3, cc4, cc5, hB⟩ := id hS
  refine (rat_parts _ (hu0.below hB) h2 (by omega)).mono ?_
  rintro e w3 ⟨r2, s2, z2, D2, rfl, hr2, hs2', hD2, hl2, hq2, hb3⟩
  replace hr2 := hr2.mono (T := fun k => k < w.heap.size) (fun k h _ => h)
  obtain ⟨As2, cs2, rfl, hns2⟩ := hs2'.pos
  replace hns2 := hns2.mono (T := fun k => w.heap.size + 2 ≤ k ∧ k < w3.heap.size) (fun k h1 h2 => ⟨by have : W2.heap.size ≤ k := h1; omega, h2⟩)
  replace hS := (keep_and (keep_and (keep_and (keep_and (keep_and (keep_and (keep_end))))))) hS hb3
  have hk := (keep_and (keep_and (keep_and keep_cell))) ⟨k0, k1, k2, k3⟩ hb3
  replace hr1 := hr1.below hb3
  replace hns1 := hns1.below hb3
  have l3 : w1.heap.size + 2 ≤ w3.heap.size := by have := hb3.size; omega
  clear cc0 cc1 cc2 cc3 cc4 cc5 hB hb3 k0 k1 k2 k3 hs2 hs2'
  obtain ⟨cc0, cc1, cc2, cc3, cc4, cc5, hB⟩ := id hS
  obtain ⟨k0, k1, k2, k3⟩ := id hk
  obtain ⟨nr2, ur2, lr2, rfl, hur2, hzr2, hlr2⟩ := id hr2
  obtain ⟨Ar2, cr2, rfl⟩ := hur2.slice
  clear hur2 hzr2
  go_wp2_with fail
  obtain ⟨W4, hW4⟩ : ∃ W4, ((w3.alloc (Obj.cells #[Value.bool nr2, Value.slice Ar2 lr2.length cr2] 38)).alloc (Obj.cells #[Value.bool false, Value.slice As2 (dig D2).length cs2] 38)) = W4 := ⟨_, rfl⟩
  have hb34 : Below w3.heap.size w3 W4 := by rw [← hW4]; exact ((Below.refl _ _).alloc (by simp) _).alloc (by simp) _
  have k4 : W4.cell? ⟨w3.heap.size, 0, none⟩ = some (.bool nr2) := by subst hW4; simp [go_sem]
  have k5 : W4.cell? ⟨w3.heap.size, 1, none⟩ = some (.slice Ar2 lr2.length cr2) := by subst hW4; simp [go_sem]
  have k6 : W4.cell? ⟨w3.heap.size + 1, 0, none⟩ = some (.bool false) := by subst hW4; simp [go_sem]
  have k7 : W4.cell? ⟨w3.heap.size + 1, 1, none⟩ = some (.slice As2 (dig D2).length cs2) := by subst hW4; simp [go_sem]
  rw [hW4]
  clear hW4
  replace hr1 := hr1.below hb34
  replace hns1 := hns1.below hb34
  replace hr2 := hr2.below hb34
  replace hns2 := hns2.below hb34
  replace hS := (keep_and (keep_and (keep_and (keep_and (keep_and (keep_and (keep_end))))))) hS hb34
  replace hk := (keep_and (keep_and (keep_and keep_cell))) hk hb34
  clear cc0 cc1 cc2 cc3 cc4 cc5 hB hb34 k0 k1 k2 k3
  obtain ⟨cc0, cc1, cc2, cc3, cc4, cc5, hB⟩ := id hS
  obtain ⟨k0, k1, k2, k3⟩ := id hk
  clear cc0 cc1 cc2 cc3 cc4 cc5 hS hk l0 l1
  generalize w1.heap.size = N1 at *
  generalize w3.heap.size = N2 at *
  have hmn : m + n ≤ 35184372088830 := by omega
  have hnm : n + m ≤ 35184372088830 := by omega
  have hs1 : sz (z1 * (D2 : Nat)) ≤ 35184372088829 := by have := sz_mul z1 (D2 : Nat); have := hr1.sz; have : sz ((D2 : Nat) : Int) = (dig D2).length := rfl; omega
  have hs2 : sz (z2 * (D1 : Nat)) ≤ 35184372088829 := by have := sz_mul z2 (D1 : Nat); have := hr2.sz; have : sz ((D1 : Nat) : Int) = (dig D1).length := rfl; omega
  have hQ : As (cmpZ (z1 * (D2 : Nat)) (z2 * (D1 : Nat)) = cmpR p q) := ⟨by rw [cmp_frac _ _ _ _ hD1 hD2, hq1, hq2]⟩
  go_region_held3 (fun w' => w'.cell? ⟨N1, 0, none⟩ = some (.bool nr) ∧ w'.cell? ⟨N1, 1, none⟩ = some (.slice Ar lr.length cr) ∧ w'.cell? ⟨N1 + 1, 0, none⟩ = some (.bool false) ∧ w'.cell? ⟨N1 + 1, 1, none⟩ = some (.slice As1 (dig D1).length cs1) ∧ w'.cell? ⟨N2, 0, none⟩ = some (.bool nr2) ∧ w'.cell? ⟨N2, 1, none⟩ = some (.slice Ar2 lr2.length cr2) ∧ w'.cell? ⟨N2 + 1, 0, none⟩ = some (.bool false) ∧ w'.cell? ⟨N2 + 1, 1, none⟩ = some (.slice As2 (dig D2).length cs2) ∧ IntI (fun k => k < w.heap.size) w' (Value.agg #[Value.bool nr, Value.slice Ar lr.length cr]) z1 m ∧ IntI (fun k => k < w.heap.size) w' (Value.agg #[Value.bool nr2, Value.slice Ar2 lr2.length cr2]) z2 n ∧ NumV (fun k => w.heap.size + 2 ≤ k ∧ k < N1) w' (Value.slice As1 (dig D1).length cs1) (dig D1) ∧ NumV (fun k => w.heap.size + 2 ≤ k ∧ k < N2) w' (Value.slice As2 (dig D2).length cs2) (dig D2) ∧ Below w.heap.size w w')
    ((first
      | exact (keep_and (keep_and (keep_and (keep_and (keep_and (keep_and (keep_and (keep_and (keep_p IntI.below (keep_p IntI.below (keep_p NumV.below (keep_p NumV.below (keep_end))))))))))))) ⟨k0, k1, k2, k3, k4, k5, k6, k7, hr1, hr2, hns1, hns2, hB⟩ (below_drew _)
      | exact (keep_and (keep_and (keep_and (keep_and (keep_and (keep_and (keep_and (keep_and (keep_p IntI.below (keep_p IntI.below (keep_p NumV.below (keep_p NumV.below (keep_end))))))))))))) (by assumption) (below_drew _)
      | exact (keep_and (keep_and (keep_and (keep_and (keep_and (keep_and (keep_and (keep_and (keep_p IntI.below (keep_p IntI.below (keep_p NumV.below (keep_p NumV.below (keep_end))))))))))))) (by assumption) (by assumption)))
    (first
      | (go_at_call 56; obtain ⟨_, _, _, _, _, _, _, _, hI1, hI2, hN1, hN2, hB1⟩ := ‹(_ = some _) ∧ (_ = some _) ∧ (_ = some _) ∧ (_ = some _) ∧ (_ = some _) ∧ (_ = some _) ∧ (_ = some _) ∧ (_ = some _) ∧ IntI _ _ _ _ _ ∧ IntI _ _ _ _ _ ∧ NumV _ _ _ _ ∧ NumV _ _ _ _ ∧ Below _ _ _›; first | (with_reducible refine (int_mul _ hI1 (hN2.posI hl2) hmn).mono ?_; rintro e w5 ⟨r5, rfl, hM1, hb⟩; (try replace hM2 := hM2.below hb)) | (with_reducible refine (int_mul _ hI2 (hN1.posI hl1) hnm).mono ?_; rintro e w5 ⟨r5, rfl, hM2, hb⟩; (try replace hM1 := hM1.below hb)))
      | (go_at_call 65; obtain ⟨_, _, _, _, _, _, _, _, hI1, hI2, hN1, hN2, hB1⟩ := ‹(_ = some _) ∧ (_ = some _) ∧ (_ = some _) ∧ (_ = some _) ∧ (_ = some _) ∧ (_ = some _) ∧ (_ = some _) ∧ (_ = some _) ∧ IntI _ _ _ _ _ ∧ IntI _ _ _ _ _ ∧ NumV _ _ _ _ ∧ NumV _ _ _ _ ∧ Below _ _ _›; refine (int_Cmp _ hM1.i hM2.i hs1 hs2).mono ?_; rintro e w5 ⟨rfl, hb⟩))
  all_goals
    go_wp2_with fail
    go_ret
    exact ⟨ret_int hQ.out, hB1.after hB1.size hb⟩
end Go.Proofs.Ytdbpjnjgjmfomaa
