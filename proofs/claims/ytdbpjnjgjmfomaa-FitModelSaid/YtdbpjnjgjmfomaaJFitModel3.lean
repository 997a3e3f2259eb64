/- Joined texts: Rat6, Rat7, Rat8, Cls1, Cls2, RatSz, Cov, Cls3, Tab, OwnI, AlphaPure, AlphaSum, Alpha1, Mix, RatSg, Cel, RsV, HeavyB, FitCk. -/
import Derived.Test.YtdbpjnjgjmfomaaJFitModel2
/- The program's ratios, sixth part: Cmp. -/
namespace Go.Proofs.Ytdbpjnjgjmfomaa
open Go.RowKit

def cmpR (p q : Rat) : Int := if p < q then -1 else if p = q then 0 else 1
theorem frac_lt (a b c d : Rat) (hc : 0 < c) (hd : 0 < d) : a / c < b / d ↔ a * d < b * c := by
  rw [Rat.div_lt_iff hc]
  rw [show b / d * c = (b * c) / d by grind, Rat.lt_div_iff hd]
theorem frac_eq (a b c d : Rat) (hc : 0 < c) (hd : 0 < d) : a / c = b / d ↔ a * d = b * c := by
  have h1 : c ≠ 0 := by grind
  have h2 : d ≠ 0 := by grind
  constructor <;> intro h <;> grind
theorem cmp_frac (z1 z2 : Int) (D1 D2 : Nat) (h1 : 0 < D1) (h2 : 0 < D2) : cmpZ (z1 * (D2 : Nat)) (z2 * (D1 : Nat)) = cmpR ((z1 : Rat) / (D1 : Rat)) ((z2 : Rat) / (D2 : Rat)) := by
  have e1 : (0 : Rat) < (D1 : Rat) := by first | exact Rat.natCast_pos.2 h1 | (rw [← Rat.intCast_natCast]; exact Rat.intCast_pos.2 (by omega))
  have e2 : (0 : Rat) < (D2 : Rat) := by first | exact Rat.natCast_pos.2 h2 | (rw [← Rat.intCast_natCast]; exact Rat.intCast_pos.2 (by omega))
  have a1 : ((z1 : Rat) / (D1 : Rat) < (z2 : Rat) / (D2 : Rat)) ↔ z1 * (D2 : Nat) < z2 * (D1 : Nat) := by
    rw [frac_lt _ _ _ _ e1 e2, ← Rat.intCast_natCast, ← Rat.intCast_natCast, ← Rat.intCast_mul, ← Rat.intCast_mul, Rat.intCast_lt_intCast]
  have a2 : ((z1 : Rat) / (D1 : Rat) = (z2 : Rat) / (D2 : Rat)) ↔ z1 * (D2 : Nat) = z2 * (D1 : Nat) := by
    rw [frac_eq _ _ _ _ e1 e2, ← Rat.intCast_natCast, ← Rat.intCast_natCast, ← Rat.intCast_mul, ← Rat.intCast_mul, Rat.intCast_inj]
  unfold cmpZ cmpR
  simp only [a1, a2]

set_option maxHeartbeats 8000000 in
set_option maxRecDepth 100000 in
theorem rat_Cmp {S T : Nat → Prop} {v u : Value} {p q : Rat} {m n : Nat} (w : World) (hv : RatI S w v p m) (hu : RatI T w u q n) (h1 : 1 ≤ m) (h2 : 1 ≤ n) (hm : m + n ≤ 35184372088828) :
    Calls Try.prog 33 #[v, u] w fun e w' => e = .returned (.int .i64 (cmpR p q)) ∧ Below w.heap.size w w' := by
  obtain ⟨na, u1, e1, a1, t1, rfl, ha1, ht1, hq1, hla1, hlt1⟩ := id hv
  obtain ⟨nb, u2, e2, a2, t2, rfl, ha2, ht2, hq2, hla2, hlt2⟩ := id hu
  obtain ⟨A1, c1, rfl⟩ := ha1.slice
  obtain ⟨B1, d1, rfl⟩ := ht1.slice
  obtain ⟨A2, c2, rfl⟩ := ha2.slice
  obtain ⟨B2, d2, rfl⟩ := ht2.slice
  have hv0 := hv.mono (T := fun k => k < w.heap.size) (fun k _ h2 => h2)
  have hu0 := hu.mono (T := fun k => k < w.heap.size) (fun k _ h2 => h2)
  clear hv hu ha1 ht1 ha2 ht2 hq1 hq2
  go_enter Try.func33, Try.ntmps33
  go_wp2_with fail
  obtain ⟨W, hW⟩ : ∃ W, ((w.alloc (Obj.cells #[Value.bool na, Value.slice A1 a1.length c1, Value.slice B1 t1.length d1] 40)).alloc (Obj.cells #[Value.bool nb, Value.slice A2 a2.length c2, Value.slice B2 t2.length d2] 40)) = W := ⟨_, rfl⟩
  have hs : W.heap.size = w.heap.size + 2 := by rw [← hW]; simp
  have hB : Below w.heap.size w W := by rw [← hW]; exact (((Below.refl _ _).alloc (by simp <;> omega) _).alloc (by simp <;> omega) _)
  have cc0 : W.cell? ⟨w.heap.size, 0, none⟩ = some (.bool na) := by subst hW; simp [go_sem]
  have cc1 : W.cell? ⟨w.heap.size, 1, none⟩ = some (.slice A1 a1.length c1) := by subst hW; simp [go_sem]
  have cc2 : W.cell? ⟨w.heap.size, 2, none⟩ = some (.slice B1 t1.length d1) := by subst hW; simp [go_sem]
  have cc3 : W.cell? ⟨w.heap.size + 1, 0, none⟩ = some (.bool nb) := by subst hW; simp [go_sem]
  have cc4 : W.cell? ⟨w.heap.size + 1, 1, none⟩ = some (.slice A2 a2.length c2) := by subst hW; simp [go_sem]
  have cc5 : W.cell? ⟨w.heap.size + 1, 2, none⟩ = some (.slice B2 t2.length d2) := by subst hW; simp [go_sem]
  rw [hW]
  clear hW
  have hS : W.cell? ⟨w.heap.size, 0, none⟩ = some (.bool na) ∧ W.cell? ⟨w.heap.size, 1, none⟩ = some (.slice A1 a1.length c1) ∧ W.cell? ⟨w.heap.size, 2, none⟩ = some (.slice B1 t1.length d1) ∧ W.cell? ⟨w.heap.size + 1, 0, none⟩ = some (.bool nb) ∧ W.cell? ⟨w.heap.size + 1, 1, none⟩ = some (.slice A2 a2.length c2) ∧ W.cell? ⟨w.heap.size + 1, 2, none⟩ = some (.slice B2 t2.length d2) ∧ Below w.heap.size w W := ⟨cc0, cc1, cc2, cc3, cc4, cc5, hB⟩
  refine (rat_parts _ (hv0.below hB) h1 (by omega)).mono ?_
  rintro e w1 ⟨r1, s1, z1, D1, rfl, hr1, hs1, hD1, hl1, hq1, hb1⟩
  replace hr1 := hr1.mono (T := fun k => k < w.heap.size) (fun k h _ => h)
  obtain ⟨As1, cs1, rfl, hns1⟩ := hs1.pos
  replace hns1 := hns1.mono (T := fun k => w.heap.size + 2 ≤ k ∧ k < w1.heap.size) (fun k h1 h2 => ⟨by have : W.heap.size ≤ k := h1; omega, h2⟩)
  replace hS := (keep_and (keep_and (keep_and (keep_and (keep_and (keep_and (keep_end))))))) hS hb1
  have hz1 : w.heap.size + 2 ≤ w1.heap.size := by have := hb1.size; omega
  clear cc0 cc1 cc2 cc3 cc4 cc5 hB hb1
  obtain ⟨cc0, cc1, cc2, cc3, cc4, cc5, hB⟩ := id hS
  obtain ⟨nr, ur, lr, rfl, hur, hzr, hlr⟩ := id hr1
  obtain ⟨Ar, cr, rfl⟩ := hur.slice
  clear hur hzr hs1
  have l0 : w.heap.size < w1.heap.size := by omega
  have l1 : w.heap.size + 1 < w1.heap.size := by omega
  go_wp2_with fail
  obtain ⟨W2, hW2⟩ : ∃ W2, ((w1.alloc (Obj.cells #[Value.bool nr, Value.slice Ar lr.length cr] 38)).alloc (Obj.cells #[Value.bool false, Value.slice As1 (dig D1).length cs1] 38)) = W2 := ⟨_, rfl⟩
  have hs2 : W2.heap.size = w1.heap.size + 2 := by rw [← hW2]; simp
  have hb12 : Below w1.heap.size w1 W2 := by rw [← hW2]; exact ((Below.refl _ _).alloc (by simp) _).alloc (by simp) _
  have k0 : W2.cell? ⟨w1.heap.size, 0, none⟩ = some (.bool nr) := by subst hW2; simp [go_sem]
  have k1 : W2.cell? ⟨w1.heap.size, 1, none⟩ = some (.slice Ar lr.length cr) := by subst hW2; simp [go_sem]
  have k2 : W2.cell? ⟨w1.heap.size + 1, 0, none⟩ = some (.bool false) := by subst hW2; simp [go_sem]
  have k3 : W2.cell? ⟨w1.heap.size + 1, 1, none⟩ = some (.slice As1 (dig D1).length cs1) := by subst hW2; simp [go_sem]
  rw [hW2]
  clear hW2
  replace hr1 := hr1.below hb12
  replace hns1 := hns1.below hb12
  replace hS := (keep_and (keep_and (keep_and (keep_and (keep_and (keep_and (keep_end))))))) hS hb12
  clear cc0 cc1 cc2 cc3 cc4 cc5 hB hb12
  obtain ⟨cc0, cc1, cc2, cc3, cc4, cc5, hB⟩ := id hS
  refine (rat_parts _ (hu0.below hB) h2 (by omega)).mono ?_
  rintro e w3 ⟨r2, s2, z2, D2, rfl, hr2, hs2', hD2, hl2, hq2, hb3⟩
  replace hr2 := hr2.mono (T := fun k => k < w.heap.size) (fun k h _ => h)
  obtain ⟨As2, cs2, rfl, hns2⟩ := hs2'.pos
  replace hns2 := hns2.mono (T := fun k => w.heap.size + 2 ≤ k ∧ k < w3.heap.size) (fun k h1 h2 => ⟨by have : W2.heap.size ≤ k := h1; omega, h2⟩)
  replace hS := (keep_and (keep_and (keep_and (keep_and (keep_and (keep_and (keep_end))))))) hS hb3
  have hk := (keep_and (keep_and (keep_and keep_cell))) ⟨k0, k1, k2, k3⟩ hb3
  replace hr1 := hr1.below hb3
  replace hns1 := hns1.below hb3
  have l3 : w1.heap.size + 2 ≤ w3.heap.size := by have := hb3.size; omega
  clear cc0 cc1 cc2 cc3 cc4 cc5 hB hb3 k0 k1 k2 k3 hs2 hs2'
  obtain ⟨cc0, cc1, cc2, cc3, cc4, cc5, hB⟩ := id hS
  obtain ⟨k0, k1, k2, k3⟩ := id hk
  obtain ⟨nr2, ur2, lr2, rfl, hur2, hzr2, hlr2⟩ := id hr2
  obtain ⟨Ar2, cr2, rfl⟩ := hur2.slice
  clear hur2 hzr2
  go_wp2_with fail
  obtain ⟨W4, hW4⟩ : ∃ W4, ((w3.alloc (Obj.cells #[Value.bool nr2, Value.slice Ar2 lr2.length cr2] 38)).alloc (Obj.cells #[Value.bool false, Value.slice As2 (dig D2).length cs2] 38)) = W4 := ⟨_, rfl⟩
  have hb34 : Below w3.heap.size w3 W4 := by rw [← hW4]; exact ((Below.refl _ _).alloc (by simp) _).alloc (by simp) _
  have k4 : W4.cell? ⟨w3.heap.size, 0, none⟩ = some (.bool nr2) := by subst hW4; simp [go_sem]
  have k5 : W4.cell? ⟨w3.heap.size, 1, none⟩ = some (.slice Ar2 lr2.length cr2) := by subst hW4; simp [go_sem]
  have k6 : W4.cell? ⟨w3.heap.size + 1, 0, none⟩ = some (.bool false) := by subst hW4; simp [go_sem]
  have k7 : W4.cell? ⟨w3.heap.size + 1, 1, none⟩ = some (.slice As2 (dig D2).length cs2) := by subst hW4; simp [go_sem]
  rw [hW4]
  clear hW4
  replace hr1 := hr1.below hb34
  replace hns1 := hns1.below hb34
  replace hr2 := hr2.below hb34
  replace hns2 := hns2.below hb34
  replace hS := (keep_and (keep_and (keep_and (keep_and (keep_and (keep_and (keep_end))))))) hS hb34
  replace hk := (keep_and (keep_and (keep_and keep_cell))) hk hb34
  clear cc0 cc1 cc2 cc3 cc4 cc5 hB hb34 k0 k1 k2 k3
  obtain ⟨cc0, cc1, cc2, cc3, cc4, cc5, hB⟩ := id hS
  obtain ⟨k0, k1, k2, k3⟩ := id hk
  clear cc0 cc1 cc2 cc3 cc4 cc5 hS hk l0 l1
  generalize w1.heap.size = N1 at *
  generalize w3.heap.size = N2 at *
  have hmn : m + n ≤ 35184372088830 := by omega
  have hnm : n + m ≤ 35184372088830 := by omega
  have hs1 : sz (z1 * (D2 : Nat)) ≤ 35184372088829 := by have := sz_mul z1 (D2 : Nat); have := hr1.sz; have : sz ((D2 : Nat) : Int) = (dig D2).length := rfl; omega
  have hs2 : sz (z2 * (D1 : Nat)) ≤ 35184372088829 := by have := sz_mul z2 (D1 : Nat); have := hr2.sz; have : sz ((D1 : Nat) : Int) = (dig D1).length := rfl; omega
  have hQ : As (cmpZ (z1 * (D2 : Nat)) (z2 * (D1 : Nat)) = cmpR p q) := ⟨by rw [cmp_frac _ _ _ _ hD1 hD2, hq1, hq2]⟩
  go_region_held3 (fun w' => w'.cell? ⟨N1, 0, none⟩ = some (.bool nr) ∧ w'.cell? ⟨N1, 1, none⟩ = some (.slice Ar lr.length cr) ∧ w'.cell? ⟨N1 + 1, 0, none⟩ = some (.bool false) ∧ w'.cell? ⟨N1 + 1, 1, none⟩ = some (.slice As1 (dig D1).length cs1) ∧ w'.cell? ⟨N2, 0, none⟩ = some (.bool nr2) ∧ w'.cell? ⟨N2, 1, none⟩ = some (.slice Ar2 lr2.length cr2) ∧ w'.cell? ⟨N2 + 1, 0, none⟩ = some (.bool false) ∧ w'.cell? ⟨N2 + 1, 1, none⟩ = some (.slice As2 (dig D2).length cs2) ∧ IntI (fun k => k < w.heap.size) w' (Value.agg #[Value.bool nr, Value.slice Ar lr.length cr]) z1 m ∧ IntI (fun k => k < w.heap.size) w' (Value.agg #[Value.bool nr2, Value.slice Ar2 lr2.length cr2]) z2 n ∧ NumV (fun k => w.heap.size + 2 ≤ k ∧ k < N1) w' (Value.slice As1 (dig D1).length cs1) (dig D1) ∧ NumV (fun k => w.heap.size + 2 ≤ k ∧ k < N2) w' (Value.slice As2 (dig D2).length cs2) (dig D2) ∧ Below w.heap.size w w')
    ((first
      | exact (keep_and (keep_and (keep_and (keep_and (keep_and (keep_and (keep_and (keep_and (keep_p IntI.below (keep_p IntI.below (keep_p NumV.below (keep_p NumV.below (keep_end))))))))))))) ⟨k0, k1, k2, k3, k4, k5, k6, k7, hr1, hr2, hns1, hns2, hB⟩ (below_drew _)
      | exact (keep_and (keep_and (keep_and (keep_and (keep_and (keep_and (keep_and (keep_and (keep_p IntI.below (keep_p IntI.below (keep_p NumV.below (keep_p NumV.below (keep_end))))))))))))) (by assumption) (below_drew _)
      | exact (keep_and (keep_and (keep_and (keep_and (keep_and (keep_and (keep_and (keep_and (keep_p IntI.below (keep_p IntI.below (keep_p NumV.below (keep_p NumV.below (keep_end))))))))))))) (by assumption) (by assumption)))
    (first
      | (go_at_call 56; obtain ⟨_, _, _, _, _, _, _, _, hI1, hI2, hN1, hN2, hB1⟩ := ‹(_ = some _) ∧ (_ = some _) ∧ (_ = some _) ∧ (_ = some _) ∧ (_ = some _) ∧ (_ = some _) ∧ (_ = some _) ∧ (_ = some _) ∧ IntI _ _ _ _ _ ∧ IntI _ _ _ _ _ ∧ NumV _ _ _ _ ∧ NumV _ _ _ _ ∧ Below _ _ _›; first | (with_reducible refine (int_mul _ hI1 (hN2.posI hl2) hmn).mono ?_; rintro e w5 ⟨r5, rfl, hM1, hb⟩; (try replace hM2 := hM2.below hb)) | (with_reducible refine (int_mul _ hI2 (hN1.posI hl1) hnm).mono ?_; rintro e w5 ⟨r5, rfl, hM2, hb⟩; (try replace hM1 := hM1.below hb)))
      | (go_at_call 65; obtain ⟨_, _, _, _, _, _, _, _, hI1, hI2, hN1, hN2, hB1⟩ := ‹(_ = some _) ∧ (_ = some _) ∧ (_ = some _) ∧ (_ = some _) ∧ (_ = some _) ∧ (_ = some _) ∧ (_ = some _) ∧ (_ = some _) ∧ IntI _ _ _ _ _ ∧ IntI _ _ _ _ _ ∧ NumV _ _ _ _ ∧ NumV _ _ _ _ ∧ Below _ _ _›; refine (int_Cmp _ hM1.i hM2.i hs1 hs2).mono ?_; rintro e w5 ⟨rfl, hb⟩))
  all_goals
    go_wp2_with fail
    go_ret
    exact ⟨ret_int hQ.out, hB1.after hB1.size hb⟩
end Go.Proofs.Ytdbpjnjgjmfomaa

/- The program's ratios, seventh part: Make, Of, Div, Sign. -/
namespace Go.Proofs.Ytdbpjnjgjmfomaa
open Go.RowKit

theorem make_eq (na nb : Bool) (a b : List Int) : ((iv (!na == nb) a : Int) : Rat) / ((nv b : Nat) : Rat) = ((iv na a : Int) : Rat) / ((iv nb b : Int) : Rat) := by
  unfold iv
  cases na <;> cases nb <;> simp only [Bool.not_false, Bool.not_true, beq_self_eq_true, Bool.true_beq, Bool.false_beq, if_true, Bool.false_eq_true, if_false, Rat.intCast_neg, Rat.intCast_natCast] <;> grind
theorem iv_zero {neg : Bool} {l : List Int} : iv neg l = 0 ↔ nv l = 0 := by unfold iv; split <;> omega

set_option maxHeartbeats 8000000 in
set_option maxRecDepth 100000 in
theorem rat_Make {S T : Nat → Prop} {v u : Value} {x y : Int} {m n : Nat} (w : World) (hv : IntI S w v x m) (hu : IntI T w u y n) (hm : m ≤ 35184372088829) (hn : n ≤ 35184372088829) :
    Calls Try.prog 58 #[v, u] w fun e w' => ∃ r, e = .returned (.tuple #[r, .bool (decide (y ≠ 0))]) ∧ RatV (New w) w' r ((x : Rat) / (y : Rat)) ∧ Below w.heap.size w w' := by
  obtain ⟨na, u1, a, rfl, ha, rfl, hla⟩ := hv
  obtain ⟨nb, u2, b, rfl, hb, rfl, hlb⟩ := hu
  obtain ⟨A, c, rfl⟩ := ha.slice
  obtain ⟨B, d, rfl⟩ := hb.slice
  have hz := @iv_zero nb b
  have hme := make_eq na nb a b
  obtain ⟨q, hq⟩ : ∃ q, ((iv na a : Int) : Rat) / ((iv nb b : Int) : Rat) = q := ⟨_, rfl⟩
  rw [hq] at hme ⊢
  have hq0 : nv b = 0 → q = 0 := fun h => by rw [← hme]; exact low_zero _ _ (.inr h)
  generalize hy : decide (iv nb b ≠ 0) = Y
  replace hq := As.mk hq
  replace hme := As.mk hme
  replace hq0 := As.mk hq0
  have hY : As (Y = decide (nv b ≠ 0)) := ⟨by rw [← hy]; exact decide_eq_decide.2 (not_congr hz)⟩
  clear hy hz
  go_enter Try.func58, Try.ntmps58
  go_wp2_with fail
  obtain ⟨W, hW⟩ : ∃ W, (((w.alloc (Obj.cells #[Value.bool na, Value.slice A a.length c] 38)).alloc (Obj.cells #[Value.bool nb, Value.slice B b.length d] 38)).alloc (Obj.cells #[Value.bool false, Value.slice none 0 0, Value.slice none 0 0] 40)) = W := ⟨_, rfl⟩
  have hs : W.heap.size = w.heap.size + 3 := by rw [← hW]; simp
  have hB : Below w.heap.size w W := by rw [← hW]; exact ((((Below.refl _ _).alloc (by simp <;> omega) _).alloc (by simp <;> omega) _).alloc (by simp <;> omega) _)
  have cc0 : W.cell? ⟨w.heap.size, 0, none⟩ = some (.bool na) := by subst hW; simp [go_sem]
  have cc1 : W.cell? ⟨w.heap.size, 1, none⟩ = some (.slice A a.length c) := by subst hW; simp [go_sem]
  have cc2 : W.cell? ⟨w.heap.size + 1, 0, none⟩ = some (.bool nb) := by subst hW; simp [go_sem]
  have cc3 : W.cell? ⟨w.heap.size + 1, 1, none⟩ = some (.slice B b.length d) := by subst hW; simp [go_sem]
  have hR2 : Res W (w.heap.size + 2) 3 := ⟨by omega, fun i hi => by
    subst hW
    rcases (by omega : i = 0 ∨ i = 1 ∨ i = 2) with rfl | rfl | rfl
    · exact ⟨⟨.bool false, by simp [go_sem]⟩, by simp [go_sem]⟩
    · exact ⟨⟨.slice none 0 0, by simp [go_sem]⟩, by simp [go_sem]⟩
    · exact ⟨⟨.slice none 0 0, by simp [go_sem]⟩, by simp [go_sem]⟩⟩
  rw [hW]
  clear hW
  have hS : W.cell? ⟨w.heap.size, 0, none⟩ = some (.bool na) ∧ W.cell? ⟨w.heap.size, 1, none⟩ = some (.slice A a.length c) ∧ W.cell? ⟨w.heap.size + 1, 0, none⟩ = some (.bool nb) ∧ W.cell? ⟨w.heap.size + 1, 1, none⟩ = some (.slice B b.length d) ∧ Below w.heap.size w W ∧ Res W (w.heap.size + 2) 3 := ⟨cc0, cc1, cc2, cc3, hB, hR2⟩
  clear cc0 cc1 cc2 cc3 hR2
  refine (nat_Bits _ (hb.below hB) (by omega)).mono ?_
  rintro e w1 ⟨k, rfl, hk, ⟨m1, rfl⟩⟩
  replace hS := (keep_and (keep_and (keep_and (keep_and (keep_B (Res.below)))))) hS ((Below.refl _ _).drewsN m1)
  clear hB
  generalize W.drewN m1 = W1 at *
  obtain ⟨cc0, cc1, cc2, cc3, hB, hR2⟩ := id hS
  rcases Nat.eq_zero_or_pos k with rfl | hkp
  · have hb0 := As.mk (hk.1 rfl)
    clear hk
    go_wp2_with fail
    refine (rat_zero _).mono ?_
    rintro e w3 ⟨r, rfl, hL, hb⟩
    obtain ⟨A7, c7, B7, d7, rfl⟩ := hL.slice
    have hst := fun x y z => RatV.stored (x := x) (y := y) (z := z) (show w.heap.size ≤ w.heap.size + 2 by omega) hS.2.2.2.2.2 hL
    replace hS := (keep_and (keep_and (keep_and (keep_and (keep_B (Res.below)))))) hS hb
    obtain ⟨⟨⟨x4, h4⟩, f4⟩, ⟨⟨x5, h5⟩, f5⟩, ⟨x6, h6⟩, f6⟩ := And.intro (hS.2.2.2.2.2.2 0 (by omega)) (And.intro (hS.2.2.2.2.2.2 1 (by omega)) (hS.2.2.2.2.2.2 2 (by omega)))
    have hB9 := As.mk hS.2.2.2.2.1
    replace hst := As.mk hst
    clear hS hL hb
    go_wp2_with fail
    refine bodyPost_ret (v := .tuple #[.agg #[.bool (decide ((0 : Rat).num < 0)), .slice A7 (sz (0 : Rat).num) c7, .slice B7 (dig (0 : Rat).den).length d7], .bool false]) (by simp [results, Try.results58, go_sem, h4, h5, h6]) rfl ?_
    rw [show Y = false from hY.out.trans (decide_eq_false (fun h => h hb0.out)), show q = 0 from hq0.out hb0.out]
    exact ⟨_, rfl, hst.out _ _ _, ((hB9.out.setCell (by simp <;> omega) _).setCell (by simp <;> omega) _).setCell (by simp <;> omega) _⟩
  · have hk0 : ((k : Int) == 0) = false := beq_eq_false_iff_ne.2 (by omega)
    have hbp := As.mk (show nv b ≠ 0 from fun h => by have := hk.2 h; omega)
    replace hk := As.mk hk
    go_wp2_with fail
    have hx : IntI S W1 (.agg #[.bool (!na == nb), .slice A a.length c]) (iv (!na == nb) a) m := ⟨_, _, a, rfl, ha.below hB, rfl, hla⟩
    refine (rat_lowest _ hx (hb.below hB) hm (by omega)).mono ?_
    rintro e w3 ⟨r, rfl, hL, hb⟩
    obtain ⟨A7, c7, B7, d7, rfl⟩ := hL.slice
    have hst := fun x y z => RatV.stored (x := x) (y := y) (z := z) (show w.heap.size ≤ w.heap.size + 2 by omega) hS.2.2.2.2.2 hL
    replace hS := (keep_and (keep_and (keep_and (keep_and (keep_B (Res.below)))))) hS hb
    obtain ⟨⟨⟨x4, h4⟩, f4⟩, ⟨⟨x5, h5⟩, f5⟩, ⟨x6, h6⟩, f6⟩ := And.intro (hS.2.2.2.2.2.2 0 (by omega)) (And.intro (hS.2.2.2.2.2.2 1 (by omega)) (hS.2.2.2.2.2.2 2 (by omega)))
    have hB9 := As.mk hS.2.2.2.2.1
    replace hst := As.mk hst
    clear hS hL hb
    go_wp2_with fail
    refine bodyPost_ret (v := .tuple #[.agg #[.bool (decide ((((iv (!na == nb) a : Int) : Rat) / ((nv b : Nat) : Rat)).num < 0)), .slice A7 (sz (((iv (!na == nb) a : Int) : Rat) / ((nv b : Nat) : Rat)).num) c7, .slice B7 (dig (((iv (!na == nb) a : Int) : Rat) / ((nv b : Nat) : Rat)).den).length d7], .bool true]) (by simp [results, Try.results58, go_sem, h4, h5, h6]) rfl ?_
    rw [show Y = true from hY.out.trans (decide_eq_true hbp.out)]
    have hst2 := hst.out
    rw [hme.out] at hst2 ⊢
    exact ⟨_, rfl, hst2 _ _ _, ((hB9.out.setCell (by simp <;> omega) _).setCell (by simp <;> omega) _).setCell (by simp <;> omega) _⟩
end Go.Proofs.Ytdbpjnjgjmfomaa

/- The program's ratios, eighth part: Of, Div. -/
namespace Go.Proofs.Ytdbpjnjgjmfomaa
open Go.RowKit

theorem sz_small {z : Int} (h : z.natAbs < 18446744073709551616) : sz z ≤ 2 := dig_length_le _ 2 h
theorem rat_div_eq (z1 z2 : Int) (D1 D2 : Nat) (h1 : 0 < D1) (h2 : 0 < D2) : ((z1 * (D2 : Nat) : Int) : Rat) / (((D1 : Nat) * z2 : Int) : Rat) = ((z1 : Rat) / (D1 : Rat)) / ((z2 : Rat) / (D2 : Rat)) := by
  have e1 : (D1 : Rat) ≠ 0 := by simp; omega
  have e2 : (D2 : Rat) ≠ 0 := by simp; omega
  rw [Rat.intCast_mul, Rat.intCast_mul, Rat.intCast_natCast, Rat.intCast_natCast]; grind
theorem rat_ne0 (z : Int) (D : Nat) (h : 0 < D) : ((z : Rat) / (D : Rat)) = 0 ↔ z = 0 := by
  have e1 : (0 : Rat) < (D : Rat) := Rat.natCast_pos.2 h
  have := frac_eq (z : Rat) 0 (D : Rat) 1 e1 (by grind)
  rw [show (0 : Rat) / 1 = 0 by grind] at this
  rw [this, ← Rat.intCast_eq_zero_iff (a := z)]
  constructor <;> intro h <;> grind

set_option maxHeartbeats 8000000 in
set_option maxRecDepth 100000 in
theorem rat_Of (w : World) (x y : Int) (hx0 : -9223372036854775808 ≤ x) (hx1 : x ≤ 9223372036854775807) (hy0 : -9223372036854775808 ≤ y) (hy1 : y ≤ 9223372036854775807) :
    Calls Try.prog 25 #[.int .i64 x, .int .i64 y] w fun e w' => ∃ r, e = .returned (.tuple #[r, .bool (decide (y ≠ 0))]) ∧ RatV (New w) w' r ((x : Rat) / (y : Rat)) ∧ Below w.heap.size w w' := by
  have s1 := sz_small (z := x) (by omega)
  have s2 := sz_small (z := y) (by omega)
  obtain ⟨q, hq⟩ : ∃ q, ((x : Rat) / (y : Rat)) = q := ⟨_, rfl⟩
  replace hq := As.mk hq
  rw [hq.out]
  obtain ⟨Y, hY⟩ : ∃ Y, decide (y ≠ 0) = Y := ⟨_, rfl⟩
  replace hY := As.mk hY
  rw [hY.out]
  go_enter Try.func25, Try.ntmps25
  go_wp2_with fail
  obtain ⟨W, hW⟩ : ∃ W, (w.alloc (Obj.cells #[Value.bool false, Value.slice none 0 0, Value.slice none 0 0] 40)) = W := ⟨_, rfl⟩
  have hB : Below w.heap.size w W := by rw [← hW]; exact (Below.refl _ _).alloc (by simp) _
  have hs : W.heap.size = w.heap.size + 1 := by rw [← hW]; simp
  have hR : Res W w.heap.size 3 := ⟨by omega, fun i hi => by
    subst hW
    rcases (by omega : i = 0 ∨ i = 1 ∨ i = 2) with rfl | rfl | rfl
    · exact ⟨⟨.bool false, by simp [go_sem]⟩, by simp [go_sem]⟩
    · exact ⟨⟨.slice none 0 0, by simp [go_sem]⟩, by simp [go_sem]⟩
    · exact ⟨⟨.slice none 0 0, by simp [go_sem]⟩, by simp [go_sem]⟩⟩
  rw [hW]
  clear hW
  have hS := And.intro hB hR
  clear hB hR
  refine (int_Of x _ hx0 hx1).mono ?_
  rintro e w1 ⟨r1, rfl, hr1, hb1⟩
  replace hS := keep_last hS hb1
  go_wp2_with fail
  refine (int_Of y _ hy0 hy1).mono ?_
  rintro e w2 ⟨r2, rfl, hr2, hb2⟩
  replace hS := keep_last hS hb2
  replace hr1 := hr1.below hb2
  go_wp2_with fail
  refine (rat_Make _ hr1.i hr2.i (by omega) (by omega)).mono ?_
  rintro e w3 ⟨r, rfl, hL, hb⟩
  obtain ⟨A7, c7, B7, d7, rfl⟩ := hL.slice
  have hst := As.mk (fun x y z => RatV.stored (x := x) (y := y) (z := z) (show w.heap.size ≤ w.heap.size by omega) hS.2 hL)
  replace hS := keep_last hS hb
  obtain ⟨⟨⟨x4, h4⟩, f4⟩, ⟨⟨x5, h5⟩, f5⟩, ⟨x6, h6⟩, f6⟩ := And.intro (hS.2.2 0 (by omega)) (And.intro (hS.2.2 1 (by omega)) (hS.2.2 2 (by omega)))
  have hB9 := As.mk hS.1
  clear hS hL hb hr1 hr2 hb1 hb2
  rw [hY.out]
  go_wp2_with fail
  refine bodyPost_ret (v := .tuple #[.agg #[.bool (decide (((x : Rat) / (y : Rat)).num < 0)), .slice A7 (sz ((x : Rat) / (y : Rat)).num) c7, .slice B7 (dig ((x : Rat) / (y : Rat)).den).length d7], .bool Y]) (by simp [results, Try.results25, go_sem, h4, h5, h6]) rfl ?_
  have hst2 := hst.out
  rw [hq.out] at hst2 ⊢
  exact ⟨_, rfl, hst2 _ _ _, ((hB9.out.setCell (by simp <;> omega) _).setCell (by simp <;> omega) _).setCell (by simp <;> omega) _⟩

set_option maxHeartbeats 8000000 in
set_option maxRecDepth 100000 in
theorem rat_Div {S T : Nat → Prop} {v u : Value} {p q : Rat} {m n : Nat} (w : World) (hv : RatI S w v p m) (hu : RatI T w u q n) (h1 : 1 ≤ m) (h2 : 1 ≤ n) (hm : m + n ≤ 35184372088828) :
    Calls Try.prog 26 #[v, u] w fun e w' => ∃ r, e = .returned (.tuple #[r, .bool (decide (q ≠ 0))]) ∧ RatV (New w) w' r (p / q) ∧ Below w.heap.size w w' := by
  obtain ⟨Y, hY⟩ : ∃ Y, decide (q ≠ 0) = Y := ⟨_, rfl⟩
  replace hY := As.mk hY
  rw [hY.out]
  obtain ⟨na, u1, e1, a1, t1, rfl, ha1, ht1, hq1, hla1, hlt1⟩ := id hv
  obtain ⟨nb, u2, e2, a2, t2, rfl, ha2, ht2, hq2, hla2, hlt2⟩ := id hu
  obtain ⟨A1, c1, rfl⟩ := ha1.slice
  obtain ⟨B1, d1, rfl⟩ := ht1.slice
  obtain ⟨A2, c2, rfl⟩ := ha2.slice
  obtain ⟨B2, d2, rfl⟩ := ht2.slice
  have hv0 := hv.mono (T := fun k => k < w.heap.size) (fun k _ h2 => h2)
  have hu0 := hu.mono (T := fun k => k < w.heap.size) (fun k _ h2 => h2)
  clear hv hu ha1 ht1 ha2 ht2 hq1 hq2
  go_enter Try.func26, Try.ntmps26
  go_wp2_with fail
  obtain ⟨W, hW⟩ : ∃ W, (((w.alloc (Obj.cells #[Value.bool na, Value.slice A1 a1.length c1, Value.slice B1 t1.length d1] 40)).alloc (Obj.cells #[Value.bool nb, Value.slice A2 a2.length c2, Value.slice B2 t2.length d2] 40)).alloc (Obj.cells #[Value.bool false, Value.slice none 0 0, Value.slice none 0 0] 40)) = W := ⟨_, rfl⟩
  have hs : W.heap.size = w.heap.size + 3 := by rw [← hW]; simp
  have hB : Below w.heap.size w W := by rw [← hW]; exact ((((Below.refl _ _).alloc (by simp <;> omega) _).alloc (by simp <;> omega) _).alloc (by simp <;> omega) _)
  have cc0 : W.cell? ⟨w.heap.size, 0, none⟩ = some (.bool na) := by subst hW; simp [go_sem]
  have cc1 : W.cell? ⟨w.heap.size, 1, none⟩ = some (.slice A1 a1.length c1) := by subst hW; simp [go_sem]
  have cc2 : W.cell? ⟨w.heap.size, 2, none⟩ = some (.slice B1 t1.length d1) := by subst hW; simp [go_sem]
  have cc3 : W.cell? ⟨w.heap.size + 1, 0, none⟩ = some (.bool nb) := by subst hW; simp [go_sem]
  have cc4 : W.cell? ⟨w.heap.size + 1, 1, none⟩ = some (.slice A2 a2.length c2) := by subst hW; simp [go_sem]
  have cc5 : W.cell? ⟨w.heap.size + 1, 2, none⟩ = some (.slice B2 t2.length d2) := by subst hW; simp [go_sem]
  have hR2 : Res W (w.heap.size + 2) 3 := ⟨by omega, fun i hi => by
    subst hW
    rcases (by omega : i = 0 ∨ i = 1 ∨ i = 2) with rfl | rfl | rfl
    · exact ⟨⟨.bool false, by simp [go_sem]⟩, by simp [go_sem]⟩
    · exact ⟨⟨.slice none 0 0, by simp [go_sem]⟩, by simp [go_sem]⟩
    · exact ⟨⟨.slice none 0 0, by simp [go_sem]⟩, by simp [go_sem]⟩⟩
  rw [hW]
  clear hW
  have hS : W.cell? ⟨w.heap.size, 0, none⟩ = some (.bool na) ∧ W.cell? ⟨w.heap.size, 1, none⟩ = some (.slice A1 a1.length c1) ∧ W.cell? ⟨w.heap.size, 2, none⟩ = some (.slice B1 t1.length d1) ∧ W.cell? ⟨w.heap.size + 1, 0, none⟩ = some (.bool nb) ∧ W.cell? ⟨w.heap.size + 1, 1, none⟩ = some (.slice A2 a2.length c2) ∧ W.cell? ⟨w.heap.size + 1, 2, none⟩ = some (.slice B2 t2.length d2) ∧ Below w.heap.size w W ∧ Res W (w.heap.size + 2) 3 := ⟨cc0, cc1, cc2, cc3, cc4, cc5, hB, hR2⟩
  refine (rat_parts _ (hv0.below hB) h1 (by omega)).mono ?_
  rintro e w1 ⟨r1, s1, z1, D1, rfl, hr1, hs1, hD1, hl1, hq1, hb1⟩
  replace hr1 := hr1.mono (T := fun k => k < w.heap.size) (fun k h _ => h)
  obtain ⟨As1, cs1, rfl, hns1⟩ := hs1.pos
  replace hns1 := hns1.mono (T := fun k => w.heap.size + 3 ≤ k ∧ k < w1.heap.size) (fun k h1 h2 => ⟨by have : W.heap.size ≤ k := h1; omega, h2⟩)
  replace hS := (keep_and (keep_and (keep_and (keep_and (keep_and (keep_and (keep_B (Res.below)))))))) hS hb1
  have hz1 : w.heap.size + 3 ≤ w1.heap.size := by have := hb1.size; omega
  clear cc0 cc1 cc2 cc3 cc4 cc5 hB hb1 hR2
  obtain ⟨cc0, cc1, cc2, cc3, cc4, cc5, hB, hR2⟩ := id hS
  obtain ⟨nr, ur, lr, rfl, hur, hzr, hlr⟩ := id hr1
  obtain ⟨Ar, cr, rfl⟩ := hur.slice
  clear hur hzr hs1
  have l0 : w.heap.size < w1.heap.size := by omega
  have l1 : w.heap.size + 1 < w1.heap.size := by omega
  have l2 : w.heap.size + 2 < w1.heap.size := by omega
  go_wp2_with fail
  obtain ⟨W2, hW2⟩ : ∃ W2, ((w1.alloc (Obj.cells #[Value.bool nr, Value.slice Ar lr.length cr] 38)).alloc (Obj.cells #[Value.bool false, Value.slice As1 (dig D1).length cs1] 38)) = W2 := ⟨_, rfl⟩
  have hs2 : W2.heap.size = w1.heap.size + 2 := by rw [← hW2]; simp
  have hb12 : Below w1.heap.size w1 W2 := by rw [← hW2]; exact ((Below.refl _ _).alloc (by simp) _).alloc (by simp) _
  have k0 : W2.cell? ⟨w1.heap.size, 0, none⟩ = some (.bool nr) := by subst hW2; simp [go_sem]
  have k1 : W2.cell? ⟨w1.heap.size, 1, none⟩ = some (.slice Ar lr.length cr) := by subst hW2; simp [go_sem]
  have k2 : W2.cell? ⟨w1.heap.size + 1, 0, none⟩ = some (.bool false) := by subst hW2; simp [go_sem]
  have k3 : W2.cell? ⟨w1.heap.size + 1, 1, none⟩ = some (.slice As1 (dig D1).length cs1) := by subst hW2; simp [go_sem]
  rw [hW2]
  clear hW2
  replace hr1 := hr1.below hb12
  replace hns1 := hns1.below hb12
  replace hS := (keep_and (keep_and (keep_and (keep_and (keep_and (keep_and (keep_B (Res.below)))))))) hS hb12
  clear cc0 cc1 cc2 cc3 cc4 cc5 hB hb12 hR2
  obtain ⟨cc0, cc1, cc2, cc3, cc4, cc5, hB, hR2⟩ := id hS
  refine (rat_parts _ (hu0.below hB) h2 (by omega)).mono ?_
  rintro e w3 ⟨r2, s2, z2, D2, rfl, hr2, hs2', hD2, hl2, hq2, hb3⟩
  replace hr2 := hr2.mono (T := fun k => k < w.heap.size) (fun k h _ => h)
  obtain ⟨As2, cs2, rfl, hns2⟩ := hs2'.pos
  replace hns2 := hns2.mono (T := fun k => w.heap.size + 3 ≤ k ∧ k < w3.heap.size) (fun k h1 h2 => ⟨by have : W2.heap.size ≤ k := h1; omega, h2⟩)
  replace hS := (keep_and (keep_and (keep_and (keep_and (keep_and (keep_and (keep_B (Res.below)))))))) hS hb3
  have hk := (keep_and (keep_and (keep_and keep_cell))) ⟨k0, k1, k2, k3⟩ hb3
  replace hr1 := hr1.below hb3
  replace hns1 := hns1.below hb3
  have l3 : w1.heap.size + 2 ≤ w3.heap.size := by have := hb3.size; omega
  clear cc0 cc1 cc2 cc3 cc4 cc5 hB hb3 k0 k1 k2 k3 hs2 hR2 hs2'
  obtain ⟨cc0, cc1, cc2, cc3, cc4, cc5, hB, hR2⟩ := id hS
  obtain ⟨k0, k1, k2, k3⟩ := id hk
  obtain ⟨nr2, ur2, lr2, rfl, hur2, hzr2, hlr2⟩ := id hr2
  obtain ⟨Ar2, cr2, rfl⟩ := hur2.slice
  clear hur2 hzr2
  go_wp2_with fail
  obtain ⟨W4, hW4⟩ : ∃ W4, ((w3.alloc (Obj.cells #[Value.bool nr2, Value.slice Ar2 lr2.length cr2] 38)).alloc (Obj.cells #[Value.bool false, Value.slice As2 (dig D2).length cs2] 38)) = W4 := ⟨_, rfl⟩
  have hb34 : Below w3.heap.size w3 W4 := by rw [← hW4]; exact ((Below.refl _ _).alloc (by simp) _).alloc (by simp) _
  have k4 : W4.cell? ⟨w3.heap.size, 0, none⟩ = some (.bool nr2) := by subst hW4; simp [go_sem]
  have k5 : W4.cell? ⟨w3.heap.size, 1, none⟩ = some (.slice Ar2 lr2.length cr2) := by subst hW4; simp [go_sem]
  have k6 : W4.cell? ⟨w3.heap.size + 1, 0, none⟩ = some (.bool false) := by subst hW4; simp [go_sem]
  have k7 : W4.cell? ⟨w3.heap.size + 1, 1, none⟩ = some (.slice As2 (dig D2).length cs2) := by subst hW4; simp [go_sem]
  rw [hW4]
  clear hW4
  replace hr1 := hr1.below hb34
  replace hns1 := hns1.below hb34
  replace hr2 := hr2.below hb34
  replace hns2 := hns2.below hb34
  replace hS := (keep_and (keep_and (keep_and (keep_and (keep_and (keep_and (keep_B (Res.below)))))))) hS hb34
  replace hk := (keep_and (keep_and (keep_and keep_cell))) hk hb34
  clear cc0 cc1 cc2 cc3 cc4 cc5 hB hb34 k0 k1 k2 k3 hR2
  obtain ⟨cc0, cc1, cc2, cc3, cc4, cc5, hB, hR2⟩ := id hS
  obtain ⟨k0, k1, k2, k3⟩ := id hk
  clear cc0 cc1 cc2 cc3 cc4 cc5 hS hk l0 l1
  generalize w1.heap.size = N1 at *
  generalize w3.heap.size = N2 at *
  have hmn : m + n ≤ 35184372088830 := by omega
  have hs1 : sz (z1 * (D2 : Nat)) ≤ 35184372088829 := by have := sz_mul z1 (D2 : Nat); have := hr1.sz; have : sz ((D2 : Nat) : Int) = (dig D2).length := rfl; omega
  have hs2 : sz ((D1 : Nat) * z2) ≤ 35184372088829 := by have := sz_mul (D1 : Nat) z2; have := hr2.sz; have : sz ((D1 : Nat) : Int) = (dig D1).length := rfl; omega
  have hQ : As ((((z1 * (D2 : Nat) : Int) : Rat) / (((D1 : Nat) * z2 : Int) : Rat)) = p / q) := ⟨by rw [rat_div_eq _ _ _ _ hD1 hD2, hq1, hq2]⟩
  have hY2 : As (decide ((D1 : Nat) * z2 ≠ 0) = Y) := ⟨by
    rw [← hY.out, ← hq2]
    refine decide_eq_decide.2 (not_congr ?_)
    rw [rat_ne0 z2 D2 hD2, Int.mul_eq_zero]
    constructor
    · rintro (h | h)
      · omega
      · exact h
    · exact .inr⟩
  go_region_held3 (fun w' => w'.cell? ⟨N1, 0, none⟩ = some (.bool nr) ∧ w'.cell? ⟨N1, 1, none⟩ = some (.slice Ar lr.length cr) ∧ w'.cell? ⟨N1 + 1, 0, none⟩ = some (.bool false) ∧ w'.cell? ⟨N1 + 1, 1, none⟩ = some (.slice As1 (dig D1).length cs1) ∧ w'.cell? ⟨N2, 0, none⟩ = some (.bool nr2) ∧ w'.cell? ⟨N2, 1, none⟩ = some (.slice Ar2 lr2.length cr2) ∧ w'.cell? ⟨N2 + 1, 0, none⟩ = some (.bool false) ∧ w'.cell? ⟨N2 + 1, 1, none⟩ = some (.slice As2 (dig D2).length cs2) ∧ IntI (fun k => k < w.heap.size) w' (Value.agg #[Value.bool nr, Value.slice Ar lr.length cr]) z1 m ∧ IntI (fun k => k < w.heap.size) w' (Value.agg #[Value.bool nr2, Value.slice Ar2 lr2.length cr2]) z2 n ∧ NumV (fun k => w.heap.size + 3 ≤ k ∧ k < N1) w' (Value.slice As1 (dig D1).length cs1) (dig D1) ∧ NumV (fun k => w.heap.size + 3 ≤ k ∧ k < N2) w' (Value.slice As2 (dig D2).length cs2) (dig D2) ∧ Below w.heap.size w w' ∧ Res w' (w.heap.size + 2) 3)
    ((first
      | exact (keep_and (keep_and (keep_and (keep_and (keep_and (keep_and (keep_and (keep_and (keep_p IntI.below (keep_p IntI.below (keep_p NumV.below (keep_p NumV.below (keep_B (Res.below)))))))))))))) ⟨k0, k1, k2, k3, k4, k5, k6, k7, hr1, hr2, hns1, hns2, hB, hR2⟩ (below_drew _)
      | exact (keep_and (keep_and (keep_and (keep_and (keep_and (keep_and (keep_and (keep_and (keep_p IntI.below (keep_p IntI.below (keep_p NumV.below (keep_p NumV.below (keep_B (Res.below)))))))))))))) (by assumption) (below_drew _)
      | exact (keep_and (keep_and (keep_and (keep_and (keep_and (keep_and (keep_and (keep_and (keep_p IntI.below (keep_p IntI.below (keep_p NumV.below (keep_p NumV.below (keep_B (Res.below)))))))))))))) (by assumption) (by assumption)
      | exact (set_held (by simp <;> omega) (set_held (by simp <;> omega) (set_held (by simp <;> omega) (set_held (by simp <;> omega) (set_held (by simp <;> omega) (set_held (by simp <;> omega) (set_held (by simp <;> omega) (set_held (by simp <;> omega) (set_p (set_I (by intro k hk; simp <;> omega)) (set_p (set_I (by intro k hk; simp <;> omega)) (set_p (set_N (by simp <;> omega)) (set_p (set_N (by simp <;> omega)) (set_B (by simp <;> omega) (set_R1)))))))))))))) ((set_held (by simp <;> omega) (set_held (by simp <;> omega) (set_held (by simp <;> omega) (set_held (by simp <;> omega) (set_held (by simp <;> omega) (set_held (by simp <;> omega) (set_held (by simp <;> omega) (set_held (by simp <;> omega) (set_p (set_I (by intro k hk; simp <;> omega)) (set_p (set_I (by intro k hk; simp <;> omega)) (set_p (set_N (by simp <;> omega)) (set_p (set_N (by simp <;> omega)) (set_B (by simp <;> omega) (set_R1)))))))))))))) ((set_held (by simp <;> omega) (set_held (by simp <;> omega) (set_held (by simp <;> omega) (set_held (by simp <;> omega) (set_held (by simp <;> omega) (set_held (by simp <;> omega) (set_held (by simp <;> omega) (set_held (by simp <;> omega) (set_p (set_I (by intro k hk; simp <;> omega)) (set_p (set_I (by intro k hk; simp <;> omega)) (set_p (set_N (by simp <;> omega)) (set_p (set_N (by simp <;> omega)) (set_B (by simp <;> omega) (set_R1)))))))))))))) (by assumption)))))
    (first
      | (go_at_call 56; obtain ⟨_, _, _, _, _, _, _, _, hI1, hI2, hN1, hN2, hB1, hRg13⟩ := ‹(_ = some _) ∧ (_ = some _) ∧ (_ = some _) ∧ (_ = some _) ∧ (_ = some _) ∧ (_ = some _) ∧ (_ = some _) ∧ (_ = some _) ∧ IntI _ _ _ _ _ ∧ IntI _ _ _ _ _ ∧ NumV _ _ _ _ ∧ NumV _ _ _ _ ∧ Below _ _ _ ∧ Res _ _ _›; first | (with_reducible refine (int_mul _ hI1 (hN2.posI hl2) hmn).mono ?_; rintro e w5 ⟨r5, rfl, hM1, hb⟩; (try replace hM2 := hM2.below hb)) | (with_reducible refine (int_mul _ (hN1.posI hl1) hI2 hmn).mono ?_; rintro e w5 ⟨r5, rfl, hM2, hb⟩; (try replace hM1 := hM1.below hb)))
      | (go_at_call 58; obtain ⟨_, _, _, _, _, _, _, _, hI1, hI2, hN1, hN2, hB1, hRg13⟩ := ‹(_ = some _) ∧ (_ = some _) ∧ (_ = some _) ∧ (_ = some _) ∧ (_ = some _) ∧ (_ = some _) ∧ (_ = some _) ∧ (_ = some _) ∧ IntI _ _ _ _ _ ∧ IntI _ _ _ _ _ ∧ NumV _ _ _ _ ∧ NumV _ _ _ _ ∧ Below _ _ _ ∧ Res _ _ _›; refine (rat_Make _ hM1.i hM2.i hs1 hs2).mono ?_; rw [hY2.out]; rintro e w7 ⟨r7, rfl, hL, hb⟩; obtain ⟨A7, c7, B7, d7, rfl⟩ := hL.slice; obtain ⟨⟨⟨x4, h4⟩, f4⟩, ⟨⟨x5, h5⟩, f5⟩, ⟨x6, h6⟩, f6⟩ := And.intro ((hRg13.below hb).2 0 (by omega)) (And.intro ((hRg13.below hb).2 1 (by omega)) ((hRg13.below hb).2 2 (by omega)))))
  all_goals
    go_wp2_with fail
    refine bodyPost_ret (v := .tuple #[.agg #[.bool (decide ((((z1 * (D2 : Nat) : Int) : Rat) / (((D1 : Nat) * z2 : Int) : Rat)).num < 0)), .slice A7 (sz (((z1 * (D2 : Nat) : Int) : Rat) / (((D1 : Nat) * z2 : Int) : Rat)).num) c7, .slice B7 (dig (((z1 * (D2 : Nat) : Int) : Rat) / (((D1 : Nat) * z2 : Int) : Rat)).den).length d7], .bool Y]) (by simp [results, Try.results26, go_sem, h4, h5, h6]) rfl ?_
    have hst := fun x y z => RatV.stored (x := x) (y := y) (z := z) (show w.heap.size ≤ w.heap.size + 2 by omega) hRg13 hL
    rw [hQ.out] at hst ⊢
    exact ⟨_, rfl, hst _ _ _, (((hB1.after hB1.size hb).setCell (by simp <;> omega) _).setCell (by simp <;> omega) _).setCell (by simp <;> omega) _⟩
end Go.Proofs.Ytdbpjnjgjmfomaa

/- classical: fraction, zero, scores. -/
namespace Go.Proofs.Ytdbpjnjgjmfomaa
open Go.RowKit

def i64s (l : List Int) : List Value := l.map (Value.int .i64)
theorem i64s_length (l : List Int) : (i64s l).length = l.length := by simp [i64s]
theorem i64s_get (l : List Int) (j : Nat) (h : j < l.length) : (i64s l)[j]? = some (.int .i64 (l.getD j 0)) := by
  simp [i64s, List.getElem?_eq_getElem h, List.getD_eq_getElem?_getD]
/-- A value of type []int reads as l. -/
def IntsV (S : Nat → Prop) (w : World) (v : Value) (l : List Int) : Prop := ∃ A c, v = .slice A l.length c ∧ l.length ≤ c ∧ Rd S w A (i64s l)
theorem IntsV.step {S : Nat → Prop} {w w1 : World} {v : Value} {l : List Int} (h : IntsV S w v l) (hm : ∀ k, S k → k < w.heap.size → w1.heap[k]? = w.heap[k]?) : IntsV S w1 v l := by
  obtain ⟨A, c, rfl, hc, hr⟩ := h
  exact ⟨A, c, rfl, hc, hr.step hm⟩
theorem IntsV.below {S : Nat → Prop} {w w1 : World} {v : Value} {l : List Int} (h : IntsV S w v l) (hb : Below w.heap.size w w1) : IntsV S w1 v l := h.step (fun k _ hk => hb.block k hk)
theorem IntsV.mono {S T : Nat → Prop} {w : World} {v : Value} {l : List Int} (h : IntsV S w v l) (hm : ∀ k, S k → k < w.heap.size → T k) : IntsV T w v l := by
  obtain ⟨A, c, rfl, hc, hr⟩ := h
  exact ⟨A, c, rfl, hc, hr.mono hm⟩
theorem IntsV.slice {S : Nat → Prop} {w : World} {v : Value} {l : List Int} (h : IntsV S w v l) : ∃ A c, v = .slice A l.length c := by
  obtain ⟨A, c, e, _⟩ := h
  exact ⟨A, c, e⟩
theorem IntsV.cells {S : Nat → Prop} {w : World} {A : Option Addr} {n c : Nat} {l : List Int} (h : IntsV S w (.slice A n c) l) (hl : 0 < l.length) : ∃ ad, A = some ad ∧ ∀ i, i < l.length → w.cell? (ad.add i) = some (.int .i64 (l.getD i 0)) := by
  obtain ⟨A', c', e, hc, hr⟩ := h
  injection e with e1 e2 e3
  subst e1
  obtain ⟨ad, e, _, hc⟩ := hr (fun e => by rw [← List.length_eq_zero_iff, i64s_length] at e; omega)
  exact ⟨ad, e, fun i hi => hc i _ (i64s_get l i hi)⟩

set_option maxHeartbeats 8000000 in
set_option maxRecDepth 100000 in
theorem cls_fraction (w : World) (x y : Int) (hx0 : -9223372036854775808 ≤ x) (hx1 : x ≤ 9223372036854775807) (hy0 : -9223372036854775808 ≤ y) (hy1 : y ≤ 9223372036854775807) :
    Calls Try.prog 50 #[.int .i64 x, .int .i64 y] w fun e w' => ∃ r, e = .returned r ∧ RatV (New w) w' r ((x : Rat) / (y : Rat)) ∧ Below w.heap.size w w' := by
  obtain ⟨q, hq⟩ : ∃ q, ((x : Rat) / (y : Rat)) = q := ⟨_, rfl⟩
  replace hq := As.mk hq
  rw [hq.out]
  go_enter Try.func50, Try.ntmps50
  go_wp2_with fail
  obtain ⟨W, hW⟩ : ∃ W, (w.alloc (Obj.cells #[Value.bool false, Value.slice none 0 0, Value.slice none 0 0] 40)) = W := ⟨_, rfl⟩
  have hB : Below w.heap.size w W := by rw [← hW]; exact (Below.refl _ _).alloc (by simp) _
  have hs : W.heap.size = w.heap.size + 1 := by rw [← hW]; simp
  have hR : Res W w.heap.size 3 := ⟨by omega, fun i hi => by
    subst hW
    rcases (by omega : i = 0 ∨ i = 1 ∨ i = 2) with rfl | rfl | rfl
    · exact ⟨⟨.bool false, by simp [go_sem]⟩, by simp [go_sem]⟩
    · exact ⟨⟨.slice none 0 0, by simp [go_sem]⟩, by simp [go_sem]⟩
    · exact ⟨⟨.slice none 0 0, by simp [go_sem]⟩, by simp [go_sem]⟩⟩
  rw [hW]
  clear hW
  have hS := And.intro hB hR
  clear hB hR
  refine (rat_Of _ x y hx0 hx1 hy0 hy1).mono ?_
  rintro e w3 ⟨r, rfl, hL, hb⟩
  rw [hq.out] at hL
  obtain ⟨A7, c7, B7, d7, rfl⟩ := hL.slice
  have hst := As.mk (fun o x y z => RatV.stored (x := x) (y := y) (z := z) (show w.heap.size ≤ w.heap.size by omega) hS.2 hL |>.below ((Below.refl _ _).alloc (Nat.le_refl _) o))
  have hl0 : w.heap.size < w3.heap.size := by have := hb.size; omega
  replace hS := keep_last hS hb
  have hB9 : As (∀ o x y z, Below w.heap.size w ((((w3.setCell ⟨w.heap.size, 0, none⟩ x).setCell ⟨w.heap.size, 1, none⟩ y).setCell ⟨w.heap.size, 2, none⟩ z).alloc o)) := ⟨fun o x y z => (((hS.1.setCell (Nat.le_refl _) _).setCell (Nat.le_refl _) _).setCell (Nat.le_refl _) _).alloc (by simp [World.setCell]; omega) o⟩
  have hne : w.heap.size ≠ w3.heap.size := by omega
  obtain ⟨⟨⟨x4, h4⟩, f4⟩, ⟨⟨x5, h5⟩, f5⟩, ⟨x6, h6⟩, f6⟩ := And.intro (hS.2.2 0 (by omega)) (And.intro (hS.2.2 1 (by omega)) (hS.2.2 2 (by omega)))
  clear hS hL hb hs
  go_wp2_with fail
  refine bodyPost_ret (v := .agg #[.bool (decide (q.num < 0)), .slice A7 (sz q.num) c7, .slice B7 (dig q.den).length d7]) (by simp [results, Try.results50, go_sem, h4, h5, h6, hl0]) rfl ?_
  exact ⟨_, rfl, hst.out _ _ _ _, hB9.out _ _ _ _⟩

set_option maxHeartbeats 8000000 in
set_option maxRecDepth 100000 in
theorem cls_zero (w : World) :
    Calls Try.prog 49 #[] w fun e w' => ∃ r, e = .returned r ∧ RatV (New w) w' r 0 ∧ Below w.heap.size w w' := by
  have h0 : ((0 : Int) : Rat) / ((1 : Int) : Rat) = 0 := by simp [Rat.div_def]
  replace h0 := As.mk h0
  go_enter Try.func49, Try.ntmps49
  go_wp2_with fail
  obtain ⟨W, hW⟩ : ∃ W, (w.alloc (Obj.cells #[Value.bool false, Value.slice none 0 0, Value.slice none 0 0] 40)) = W := ⟨_, rfl⟩
  have hB : Below w.heap.size w W := by rw [← hW]; exact (Below.refl _ _).alloc (by simp) _
  have hs : W.heap.size = w.heap.size + 1 := by rw [← hW]; simp
  have hR : Res W w.heap.size 3 := ⟨by omega, fun i hi => by
    subst hW
    rcases (by omega : i = 0 ∨ i = 1 ∨ i = 2) with rfl | rfl | rfl
    · exact ⟨⟨.bool false, by simp [go_sem]⟩, by simp [go_sem]⟩
    · exact ⟨⟨.slice none 0 0, by simp [go_sem]⟩, by simp [go_sem]⟩
    · exact ⟨⟨.slice none 0 0, by simp [go_sem]⟩, by simp [go_sem]⟩⟩
  rw [hW]
  clear hW
  have hS := And.intro hB hR
  clear hB hR
  refine (cls_fraction _ 0 1 (by omega) (by omega) (by omega) (by omega)).mono ?_
  rintro e w3 ⟨r, rfl, hL, hb⟩
  rw [h0.out] at hL
  obtain ⟨A7, c7, B7, d7, rfl⟩ := hL.slice
  have hst := As.mk (fun x y z => RatV.stored (x := x) (y := y) (z := z) (show w.heap.size ≤ w.heap.size by omega) hS.2 hL)
  replace hS := keep_last hS hb
  obtain ⟨⟨⟨x4, h4⟩, f4⟩, ⟨⟨x5, h5⟩, f5⟩, ⟨x6, h6⟩, f6⟩ := And.intro (hS.2.2 0 (by omega)) (And.intro (hS.2.2 1 (by omega)) (hS.2.2 2 (by omega)))
  have hB9 := As.mk hS.1
  clear hS hL hb hs
  go_wp2_with fail
  refine bodyPost_ret (v := .agg #[.bool (decide ((0 : Rat).num < 0)), .slice A7 (sz (0 : Rat).num) c7, .slice B7 (dig (0 : Rat).den).length d7]) (by simp [results, Try.results49, go_sem, h4, h5, h6]) rfl ?_
  exact ⟨_, rfl, hst.out _ _ _, ((hB9.out.setCell (by simp <;> omega) _).setCell (by simp <;> omega) _).setCell (by simp <;> omega) _⟩

end Go.Proofs.Ytdbpjnjgjmfomaa

/- classical: scores. -/
namespace Go.Proofs.Ytdbpjnjgjmfomaa
open Go.RowKit

/-- All scores lie within their bounds. -/
def okScores (l : List Int) : Bool := l.all (fun z => decide (-1000000 ≤ z) && decide (z ≤ 1000000))
theorem okScores_at {l : List Int} (h : okScores l = true) (i : Nat) (hi : i < l.length) : -1000000 ≤ l.getD i 0 ∧ l.getD i 0 ≤ 1000000 := by
  have := List.all_eq_true.1 h (l.getD i 0) (by rw [List.getD_eq_getElem?_getD, List.getElem?_eq_getElem hi]; exact List.getElem_mem hi)
  simpa using this

set_option maxHeartbeats 4000000 in
set_option maxRecDepth 100000 in
theorem cls_scores {S : Nat → Prop} {v : Value} {l : List Int} (w : World) (hv : IntsV S w v l) (hm : l.length ≤ 140737488351232) :
    Calls Try.prog 42 #[v] w fun e w' => e = .returned (.bool (okScores l)) ∧ Drawn w w' := by
  obtain ⟨A, c, rfl⟩ := hv.slice
  obtain ⟨n, hn⟩ : ∃ n, l.length = n := ⟨_, rfl⟩
  rw [hn] at hm ⊢
  rw [hn] at hv
  replace hn := As.mk hn
  go_enter Try.func42, Try.ntmps42
  go_wp2_with fail
  go_loopw [4, 7] (fun _ v7 wr => ∃ k : Nat, k ≤ n ∧ v7 = .int .i64 k ∧ As (okScores l = okScores (l.drop k)) ∧ Drawn w wr) (fun _ v7 _ => (n - intOf v7).toNat)
  case atStart => exact ⟨0, by omega, rfl, ⟨by simp⟩, by repeat (first | exact Drawn.refl _ | apply Drawn.step)⟩
  case round =>
    obtain ⟨k, hk, rfl, hI, hd⟩ := hrel
    by_cases hlt : k < n
    · obtain ⟨ad, hA, hc⟩ := (hv.below hd.below).cells (by have := hn.out; omega)
      subst hA
      have hck := hc k (by have := hn.out; omega)
      have hst : As (okScores (l.drop k) = (decide (-1000000 ≤ l.getD k 0) && decide (l.getD k 0 ≤ 1000000) && okScores (l.drop (k + 1)))) := ⟨by
        have hkl : k < l.length := by have := hn.out; omega
        unfold okScores
        rw [List.drop_eq_getElem_cons hkl, List.all_cons, List.getD_eq_getElem?_getD, List.getElem?_eq_getElem hkl]; rfl⟩
      clear hc
      generalize l.getD k 0 = x at *
      by_cases h1 : x < -1000000
      · have R : As (okScores l = false) := ⟨by rw [hI.out, hst.out, decide_eq_false (by omega)]; rfl⟩
        clear hI hst
        go_wp2_with fail
        go_ret
        exact ⟨by rw [R.out]; rfl, by repeat (first | exact hd | apply Drawn.step)⟩
      · by_cases h2 : 1000000 < x
        · have R : As (okScores l = false) := ⟨by rw [hI.out, hst.out, decide_eq_false (show ¬ x ≤ 1000000 by omega)]; simp⟩
          clear hI hst
          go_wp2_with fail
          go_ret
          exact ⟨by rw [R.out]; rfl, by repeat (first | exact hd | apply Drawn.step)⟩
        · have R : As (okScores l = okScores (l.drop (k + 1))) := ⟨by rw [hI.out, hst.out, decide_eq_true (show x ≤ 1000000 by omega), decide_eq_true (show -1000000 ≤ x by omega)]; simp⟩
          clear hI hst
          go_wp2_with fail
          go_roundw
          case rel => exact ⟨k + 1, by omega, by go_num, R, by repeat (first | exact hd | apply Drawn.step)⟩
          case measure => simp [intOf]; omega
    · obtain rfl : k = n := by omega
      have R : As (okScores l = true) := ⟨by rw [hI.out, ← hn.out]; simp [okScores]⟩
      clear hI
      go_wp2_with fail
      go_ret
      exact ⟨by rw [R.out]; rfl, by repeat (first | exact hd | apply Drawn.step)⟩
end Go.Proofs.Ytdbpjnjgjmfomaa

/- How many limbs sums, products and quotients of ratios have. -/
namespace Go.Proofs.Ytdbpjnjgjmfomaa
open Go.RowKit

theorem rz_frac (z : Int) (D : Nat) (hD : 0 < D) : rz ((z : Rat) / (D : Rat)) ≤ max (sz z) (dig D).length := by
  unfold rz sz
  rw [low_num z D hD, low_den z D hD]
  have h1 : ((z.natAbs.gcd D : Nat) : Int) ∣ z := Int.ofNat_dvd_left.2 (Nat.gcd_dvd_left _ _)
  rw [Int.natAbs_ediv_of_dvd h1]
  have h2 := dig_len_mono (Nat.div_le_self z.natAbs ((z.natAbs.gcd D : Nat) : Int).natAbs)
  have h3 := dig_len_mono (Nat.div_le_self D (z.natAbs.gcd D))
  omega
theorem rz_pos (q : Rat) : 1 ≤ rz q := by
  unfold rz
  have h : 0 < (dig q.den).length := by
    rcases Nat.eq_zero_or_pos (dig q.den).length with h | h
    · have := (dig_nil_iff q.den).1 h
      exact absurd this q.den_nz
    · exact h
  omega
theorem rz_parts (q : Rat) : sz q.num ≤ rz q ∧ (dig q.den).length ≤ rz q := ⟨Nat.le_max_left _ _, Nat.le_max_right _ _⟩
theorem den_pos (q : Rat) : 0 < q.den := Nat.pos_of_ne_zero q.den_nz
theorem rz_mul (p q : Rat) : rz (p * q) ≤ rz p + rz q := by
  have e := rat_mul_eq p.num q.num p.den q.den (den_pos p) (den_pos q)
  rw [rat_nd, rat_nd] at e
  rw [← e]
  have h1 := rz_frac (p.num * q.num) (p.den * q.den) (Nat.mul_pos (den_pos p) (den_pos q))
  have h2 := sz_mul p.num q.num
  have h3 := dig_len_mul p.den q.den
  have := rz_parts p; have := rz_parts q
  omega
theorem rz_add (p q : Rat) : rz (p + q) ≤ rz p + rz q + 1 := by
  have e := rat_add_eq p.num q.num p.den q.den (den_pos p) (den_pos q)
  rw [rat_nd, rat_nd] at e
  rw [← e]
  have h1 := rz_frac (p.num * (q.den : Nat) + q.num * (p.den : Nat)) (p.den * q.den) (Nat.mul_pos (den_pos p) (den_pos q))
  have h2 := sz_add (p.num * (q.den : Nat)) (q.num * (p.den : Nat))
  have h4 := sz_mul p.num (q.den : Nat)
  have h5 := sz_mul q.num (p.den : Nat)
  have h6 : sz ((q.den : Nat) : Int) = (dig q.den).length := rfl
  have h7 : sz ((p.den : Nat) : Int) = (dig p.den).length := rfl
  have h3 := dig_len_mul p.den q.den
  have := rz_parts p; have := rz_parts q
  omega
theorem rz_sub (p q : Rat) : rz (p - q) ≤ rz p + rz q + 1 := by
  have e := rat_sub_eq p.num q.num p.den q.den (den_pos p) (den_pos q)
  rw [rat_nd, rat_nd] at e
  rw [← e]
  have h1 := rz_frac (p.num * (q.den : Nat) - q.num * (p.den : Nat)) (p.den * q.den) (Nat.mul_pos (den_pos p) (den_pos q))
  have h2 := sz_sub (p.num * (q.den : Nat)) (q.num * (p.den : Nat))
  have h4 := sz_mul p.num (q.den : Nat)
  have h5 := sz_mul q.num (p.den : Nat)
  have h6 : sz ((q.den : Nat) : Int) = (dig q.den).length := rfl
  have h7 : sz ((p.den : Nat) : Int) = (dig p.den).length := rfl
  have h3 := dig_len_mul p.den q.den
  have := rz_parts p; have := rz_parts q
  omega
theorem rz_int (x y : Int) : rz ((x : Rat) / (y : Rat)) ≤ max (sz x) (max (sz y) 1) := by
  have hx : x = iv (decide (x < 0)) (dig x.natAbs) := (iv_dig x).symm
  have hy : y = iv (decide (y < 0)) (dig y.natAbs) := (iv_dig y).symm
  have e := make_eq (decide (x < 0)) (decide (y < 0)) (dig x.natAbs) (dig y.natAbs)
  rw [iv_dig, iv_dig, nv_dig] at e
  rw [← e]
  rcases Nat.eq_zero_or_pos y.natAbs with h | h
  · rw [h, low_zero _ 0 (.inr rfl)]
    have : rz 0 ≤ 1 := by
      unfold rz
      have h1 : sz (0 : Rat).num = 0 := by show (dig 0).length = 0; exact (dig_nil_iff 0).2 rfl
      have h2 := dig_one_len
      have h3 : (0 : Rat).den = 1 := rfl
      rw [h3]
      omega
    omega
  · have h1 := rz_frac (iv (!decide (x < 0) == decide (y < 0)) (dig x.natAbs)) y.natAbs h
    have h2 : sz (iv (!decide (x < 0) == decide (y < 0)) (dig x.natAbs)) = sz x := by unfold sz; rw [iv_natAbs, nv_dig]
    rw [h2] at h1
    have h3 : sz y = (dig y.natAbs).length := rfl
    omega
theorem rz_small (x y : Int) (hx : x.natAbs < 18446744073709551616) (hy : y.natAbs < 18446744073709551616) : rz ((x : Rat) / (y : Rat)) ≤ 2 := by
  have h1 := rz_int x y
  have h2 := sz_small hx
  have h3 := sz_small hy
  omega
theorem rz_inv (q : Rat) : rz q⁻¹ ≤ rz q := by
  have e : q⁻¹ = ((q.den : Nat) : Int) / (q.num : Rat) := by
    have := rat_nd q
    conv => lhs; rw [← this]
    rw [Rat.intCast_natCast]
    simp only [Rat.div_def, Rat.inv_mul_rev, Rat.inv_inv]
  rw [e]
  have h1 := rz_int ((q.den : Nat) : Int) q.num
  have h2 : sz ((q.den : Nat) : Int) = (dig q.den).length := rfl
  have := rz_parts q; have := rz_pos q
  omega
theorem rz_div (p q : Rat) : rz (p / q) ≤ rz p + rz q := by
  rw [Rat.div_def]
  have := rz_mul p q⁻¹
  have := rz_inv q
  omega
end Go.Proofs.Ytdbpjnjgjmfomaa

/- classical: the covariance of two lists. -/
namespace Go.Proofs.Ytdbpjnjgjmfomaa
open Go.RowKit

def sm (x : List Int) : Nat → Int
  | 0 => 0
  | k + 1 => sm x k + x.getD k 0
def dt (x y : List Int) : Nat → Int
  | 0 => 0
  | k + 1 => dt x y k + x.getD k 0 * y.getD k 0
/-- All numbers lie within 10^8. -/
def Mod (x : List Int) : Prop := ∀ i, -100000000 ≤ x.getD i 0 ∧ x.getD i 0 ≤ 100000000
theorem prod_le {a b : Int} (ha : -100000000 ≤ a ∧ a ≤ 100000000) (hb : -100000000 ≤ b ∧ b ≤ 100000000) : -10000000000000000 ≤ a * b ∧ a * b ≤ 10000000000000000 := by
  have h : (a * b).natAbs ≤ 100000000 * 100000000 := by
    rw [Int.natAbs_mul]; exact Nat.mul_le_mul (by omega) (by omega)
  omega
theorem sm_le {x : List Int} (h : Mod x) (k : Nat) : -(100000000 * (k : Int)) ≤ sm x k ∧ sm x k ≤ 100000000 * (k : Int) := by
  induction k with
  | zero => simp [sm]
  | succ k ih => rw [sm]; have := h k; omega
theorem dt_le {x y : List Int} (h : Mod x) (h' : Mod y) (k : Nat) : -(10000000000000000 * (k : Int)) ≤ dt x y k ∧ dt x y k ≤ 10000000000000000 * (k : Int) := by
  induction k with
  | zero => simp [dt]
  | succ k ih => rw [dt]; have := prod_le (h k) (h' k); omega
/-- The covariance. -/
def covR (x y : List Int) : Rat := ((dt x y x.length : Int) : Rat) / ((x.length : Int) : Rat) - ((sm x x.length : Int) : Rat) / ((x.length : Int) : Rat) * (((sm y x.length : Int) : Rat) / ((x.length : Int) : Rat))
theorem rz_covR (x y : List Int) (hx : Mod x) (hy : Mod y) (hn : x.length ≤ 200) : rz (covR x y) ≤ 7 := by
  have h1 := sm_le hx x.length
  have h2 := sm_le hy x.length
  have h3 := dt_le hx hy x.length
  have a1 := rz_small (dt x y x.length) (x.length : Int) (by omega) (by omega)
  have a2 := rz_small (sm x x.length) (x.length : Int) (by omega) (by omega)
  have a3 := rz_small (sm y x.length) (x.length : Int) (by omega) (by omega)
  have a4 := rz_mul (((sm x x.length : Int) : Rat) / ((x.length : Int) : Rat)) (((sm y x.length : Int) : Rat) / ((x.length : Int) : Rat))
  have a5 := rz_sub (((dt x y x.length : Int) : Rat) / ((x.length : Int) : Rat)) (((sm x x.length : Int) : Rat) / ((x.length : Int) : Rat) * (((sm y x.length : Int) : Rat) / ((x.length : Int) : Rat)))
  unfold covR
  omega

set_option maxHeartbeats 8000000 in
set_option maxRecDepth 100000 in
theorem cls_cov {S T : Nat → Prop} {v u : Value} {x y : List Int} (w : World) (hv : IntsV S w v x) (hu : IntsV T w u y) (hx : Mod x) (hy : Mod y) (hn : x.length ≤ 200) (hxy : y.length = x.length) :
    Calls Try.prog 52 #[v, u] w fun e w' => ∃ r, e = .returned r ∧ RatV (New w) w' r (covR x y) ∧ Below w.heap.size w w' := by
  obtain ⟨A, c, rfl⟩ := hv.slice
  obtain ⟨B, d, rfl⟩ := hu.slice
  obtain ⟨Q, hQ⟩ : ∃ Q, covR x y = Q := ⟨_, rfl⟩
  rw [hQ]
  replace hQ := As.mk hQ
  rw [hxy] at hu ⊢
  obtain ⟨n, hln⟩ : ∃ n, x.length = n := ⟨_, rfl⟩
  rw [hln] at hn hv hu ⊢
  replace hln := As.mk hln
  replace hxy := As.mk hxy
  go_enter Try.func52, Try.ntmps52
  go_wp2_with fail
  obtain ⟨W, hW⟩ : ∃ W, (w.alloc (Obj.cells #[Value.bool false, Value.slice none 0 0, Value.slice none 0 0] 40)) = W := ⟨_, rfl⟩
  have hB : Below w.heap.size w W := by rw [← hW]; exact (Below.refl _ _).alloc (by simp) _
  have hs : W.heap.size = w.heap.size + 1 := by rw [← hW]; simp
  have hR : Res W w.heap.size 3 := ⟨by omega, fun i hi => by
    subst hW
    rcases (by omega : i = 0 ∨ i = 1 ∨ i = 2) with rfl | rfl | rfl
    · exact ⟨⟨.bool false, by simp [go_sem]⟩, by simp [go_sem]⟩
    · exact ⟨⟨.slice none 0 0, by simp [go_sem]⟩, by simp [go_sem]⟩
    · exact ⟨⟨.slice none 0 0, by simp [go_sem]⟩, by simp [go_sem]⟩⟩
  rw [hW]
  clear hW
  have hS := And.intro hB hR
  clear hB hR
  go_loopw [6, 7, 8, 9, 14] (fun v6 v7 v8 _ v14 wr => ∃ k : Nat, k ≤ n ∧ v14 = .int .i64 k ∧ v6 = .int .i64 (sm x k) ∧ v7 = .int .i64 (sm y k) ∧ v8 = .int .i64 (dt x y k) ∧ Drawn W wr) (fun _ _ _ _ v14 _ => (n - intOf v14).toNat)
  case atStart => exact ⟨0, by omega, rfl, rfl, rfl, rfl, by repeat (first | exact Drawn.refl _ | apply Drawn.step)⟩
  case round =>
    obtain ⟨k, hk, rfl, rfl, rfl, rfl, hd⟩ := hrel
    by_cases hlt : k < n
    · obtain ⟨ad, hA, hca⟩ := (hv.below (hS.1.after hS.1.size hd.below)).cells (by have := hln.out; omega)
      subst hA
      obtain ⟨bd, hA, hcb⟩ := (hu.below (hS.1.after hS.1.size hd.below)).cells (by have := hln.out; have := hxy.out; omega)
      subst hA
      have hX := hca k (by have := hln.out; omega)
      have hY := hcb k (by have := hln.out; have := hxy.out; omega)
      have h1 := sm_le hx k
      have h2 := sm_le hy k
      have h3 := dt_le hx hy k
      have h4 := prod_le (hx k) (hy k)
      have h5 := hx k
      have h6 := hy k
      have e1 := As.mk (show sm x (k + 1) = sm x k + x.getD k 0 from rfl)
      have e2 := As.mk (show sm y (k + 1) = sm y k + y.getD k 0 from rfl)
      have e3 := As.mk (show dt x y (k + 1) = dt x y k + x.getD k 0 * y.getD k 0 from rfl)
      clear hca hcb
      generalize x.getD k 0 = X at *
      generalize y.getD k 0 = Y at *
      generalize sm x k = sx at *
      generalize sm y k = sy at *
      generalize dt x y k = sd at *
      obtain ⟨P, hP⟩ : ∃ P, X * Y = P := ⟨_, rfl⟩
      rw [hP] at h4 e3
      have w1 : IntKind.i64.wrap (X * Y) = P := by rw [hP]; exact IntWalk.i64_in _ (by omega)
      have w2 : IntKind.i64.wrap (sd + P) = sd + P := IntWalk.i64_in _ (by omega)
      have b2 : ((k : Int) < (n : Int)) = True := eq_true (by omega)
      have b3 : (0 ≤ (k : Int)) = True := eq_true (by omega)
      replace hP := As.mk hP
      go_wp2_with fail
      go_quiet (fail)
      go_wp2_with fail
      go_roundw
      case rel => exact ⟨k + 1, by omega, by go_num, by rw [e1.out], by rw [e2.out], by rw [e3.out], by repeat (first | exact hd | apply Drawn.step)⟩
      case measure => simp [intOf]; omega
    · obtain rfl : k = n := by omega
      have h1 := sm_le hx k
      have h2 := sm_le hy k
      have h3 := dt_le hx hy k
      have a1 := rz_small (dt x y k) (k : Int) (by omega) (by omega)
      have a2 := rz_small (sm x k) (k : Int) (by omega) (by omega)
      have a3 := rz_small (sm y k) (k : Int) (by omega) (by omega)
      have a4 := rz_mul (((sm x k : Int) : Rat) / ((k : Int) : Rat)) (((sm y k : Int) : Rat) / ((k : Int) : Rat))
      have p1 := rz_pos (((dt x y k : Int) : Rat) / ((k : Int) : Rat))
      have p2 := rz_pos (((sm x k : Int) : Rat) / ((k : Int) : Rat))
      have p3 := rz_pos (((sm y k : Int) : Rat) / ((k : Int) : Rat))
      have p4 := rz_pos (((sm x k : Int) : Rat) / ((k : Int) : Rat) * (((sm y k : Int) : Rat) / ((k : Int) : Rat)))
      have hfin : As (((dt x y k : Int) : Rat) / ((k : Int) : Rat) - ((sm x k : Int) : Rat) / ((k : Int) : Rat) * (((sm y k : Int) : Rat) / ((k : Int) : Rat)) = Q) := ⟨by rw [← hQ.out]; unfold covR; rw [hln.out]⟩
      clear hQ
      generalize sm x k = sx at *
      generalize sm y k = sy at *
      generalize dt x y k = sd at *
      replace hS := keep_last hS hd.below
      clear hd hv hu
      go_wp2_with fail
      refine (cls_fraction _ sd k (by omega) (by omega) (by omega) (by omega)).mono ?_
      rintro e w1 ⟨r1, rfl, hr1, hb1⟩
      replace hS := keep_last hS hb1
      go_wp2_with fail
      refine (cls_fraction _ sx k (by omega) (by omega) (by omega) (by omega)).mono ?_
      rintro e w2 ⟨r2, rfl, hr2, hb2⟩
      replace hS := keep_last hS hb2
      replace hr1 := hr1.below hb2
      go_wp2_with fail
      refine (cls_fraction _ sy k (by omega) (by omega) (by omega) (by omega)).mono ?_
      rintro e w3 ⟨r3, rfl, hr3, hb3⟩
      replace hS := keep_last hS hb3
      replace hr1 := hr1.below hb3
      replace hr2 := hr2.below hb3
      generalize ((sd : Int) : Rat) / ((k : Int) : Rat) = q1 at *
      generalize ((sx : Int) : Rat) / ((k : Int) : Rat) = q2 at *
      generalize ((sy : Int) : Rat) / ((k : Int) : Rat) = q3 at *
      go_wp2_with fail
      refine (rat_Mul _ hr2.i hr3.i (by omega) (by omega) (by omega)).mono ?_
      rintro e w4 ⟨r4, rfl, hr4, hb4⟩
      replace hS := keep_last hS hb4
      replace hr1 := hr1.below hb4
      go_wp2_with fail
      refine (rat_Sub _ hr1.i hr4.i (by omega) (by omega) (by omega)).mono ?_
      rintro e w5 ⟨r5, rfl, hL, hb5⟩
      rw [hfin.out] at hL
      obtain ⟨A7, c7, B7, d7, rfl⟩ := hL.slice
      have hst := As.mk (fun x y z => RatV.stored (x := x) (y := y) (z := z) (show w.heap.size ≤ w.heap.size by omega) hS.2 hL)
      replace hS := keep_last hS hb5
      obtain ⟨⟨⟨x4, h4⟩, f4⟩, ⟨⟨x5, h5⟩, f5⟩, ⟨x6, h6⟩, f6⟩ := And.intro (hS.2.2 0 (by omega)) (And.intro (hS.2.2 1 (by omega)) (hS.2.2 2 (by omega)))
      have hB9 := As.mk hS.1
      clear hS hL hb1 hb2 hb3 hb4 hb5 hr1 hr2 hr3 hr4 hs
      go_wp2_with fail
      refine bodyPost_ret (v := .agg #[.bool (decide (Q.num < 0)), .slice A7 (sz Q.num) c7, .slice B7 (dig Q.den).length d7]) (by simp [results, Try.results52, go_sem, h4, h5, h6]) rfl ?_
      exact ⟨_, rfl, hst.out _ _ _, ((hB9.out.setCell (by simp <;> omega) _).setCell (by simp <;> omega) _).setCell (by simp <;> omega) _⟩
end Go.Proofs.Ytdbpjnjgjmfomaa

/- classical: lists and Covariance, where the lists are in order. -/
namespace Go.Proofs.Ytdbpjnjgjmfomaa
open Go.RowKit

theorem okScores_mod {l : List Int} (h : okScores l = true) : Mod l := fun i => by
  rcases Nat.lt_or_ge i l.length with hi | hi
  · have := okScores_at h i hi; omega
  · rw [List.getD_eq_getElem?_getD, List.getElem?_eq_none hi]; simp

set_option maxHeartbeats 4000000 in
set_option maxRecDepth 100000 in
theorem cls_lists {S T : Nat → Prop} {v u : Value} {x y : List Int} (w : World) (hv : IntsV S w v x) (hu : IntsV T w u y) (hx : okScores x = true) (hy : okScores y = true) (hn : x.length ≤ 200) (h0 : 0 < x.length) (hxy : y.length = x.length) :
    Calls Try.prog 51 #[v, u] w fun e w' => e = .returned (.int .i64 0) ∧ Drawn w w' := by
  obtain ⟨A, c, rfl⟩ := hv.slice
  obtain ⟨B, d, rfl⟩ := hu.slice
  have s1 := fun m => cls_scores (w.drewN m) (hv.below ((Below.refl _ _).drewsN m)) (by omega)
  have s2 := fun m => cls_scores (w.drewN m) (hu.below ((Below.refl _ _).drewsN m)) (by omega)
  have s0 := cls_scores w hv (by omega)
  rw [hx] at s1 s0
  rw [hy] at s2
  rw [hxy] at s2 ⊢
  clear hv hu hx hy
  replace hxy := As.mk hxy
  obtain ⟨n, hnn⟩ : ∃ n, x.length = n := ⟨_, rfl⟩
  rw [hnn] at s0 s1 s2 hn h0 ⊢
  replace hnn := As.mk hnn
  replace s0 := As.mk s0
  replace s1 := As.mk s1
  replace s2 := As.mk s2
  have l2 : ((n : Int) == 0) = false := beq_eq_false_iff_ne.2 (by omega)
  go_enter Try.func51, Try.ntmps51
  go_wp2_with fail
  refine s0.out.mono ?_
  rintro e w' ⟨rfl, ⟨m1, rfl⟩⟩
  go_wp2_with fail
  refine (s2.out _).mono ?_
  rintro e w' ⟨rfl, ⟨m2, rfl⟩⟩
  go_wp2_with fail
  go_ret
  exact ⟨rfl, by repeat (first | exact Drawn.refl _ | apply Drawn.step)⟩

set_option maxHeartbeats 4000000 in
set_option maxRecDepth 100000 in
theorem cls_Covariance {S T : Nat → Prop} {v u : Value} {x y : List Int} (w : World) (hv : IntsV S w v x) (hu : IntsV T w u y) (hx : okScores x = true) (hy : okScores y = true) (hn : x.length ≤ 200) (h0 : 0 < x.length) (hxy : y.length = x.length) :
    Calls Try.prog 23 #[v, u] w fun e w' => ∃ r, e = .returned (.tuple #[r, .int .i64 0]) ∧ RatV (New w) w' r (covR x y) ∧ Below w.heap.size w w' := by
  obtain ⟨A, c, rfl⟩ := hv.slice
  obtain ⟨B, d, rfl⟩ := hu.slice
  obtain ⟨Q, hQ⟩ : ∃ Q, covR x y = Q := ⟨_, rfl⟩
  rw [hQ]
  replace hQ := As.mk hQ
  have H1 : As (∀ W, Below w.heap.size w W → Calls Try.prog 51 #[.slice A x.length c, .slice B y.length d] W fun e w' => e = .returned (.int .i64 0) ∧ Drawn W w') := ⟨fun W hb => cls_lists W (hv.below hb) (hu.below hb) hx hy hn h0 hxy⟩
  have H2 : As (∀ W, Below w.heap.size w W → Calls Try.prog 52 #[.slice A x.length c, .slice B y.length d] W fun e w' => ∃ r, e = .returned r ∧ RatV (New W) w' r Q ∧ Below W.heap.size W w') := ⟨fun W hb => by
    rw [← hQ.out]
    exact cls_cov W (hv.below hb) (hu.below hb) (okScores_mod hx) (okScores_mod hy) hn hxy⟩
  clear hv hu hx hy hn h0 hxy hQ
  go_enter Try.func23, Try.ntmps23
  go_wp2_with fail
  obtain ⟨W, hW⟩ : ∃ W, (w.alloc (Obj.cells #[Value.bool false, Value.slice none 0 0, Value.slice none 0 0] 40)) = W := ⟨_, rfl⟩
  have hB : Below w.heap.size w W := by rw [← hW]; exact (Below.refl _ _).alloc (by simp) _
  have hs : W.heap.size = w.heap.size + 1 := by rw [← hW]; simp
  have hR : Res W w.heap.size 3 := ⟨by omega, fun i hi => by
    subst hW
    rcases (by omega : i = 0 ∨ i = 1 ∨ i = 2) with rfl | rfl | rfl
    · exact ⟨⟨.bool false, by simp [go_sem]⟩, by simp [go_sem]⟩
    · exact ⟨⟨.slice none 0 0, by simp [go_sem]⟩, by simp [go_sem]⟩
    · exact ⟨⟨.slice none 0 0, by simp [go_sem]⟩, by simp [go_sem]⟩⟩
  rw [hW]
  clear hW
  have hS := And.intro hB hR
  clear hB hR
  refine (H1.out _ hS.1).mono ?_
  rintro e w1 ⟨rfl, hd⟩
  replace hS := keep_last hS hd.below
  clear hd
  go_wp2_with fail
  refine (H2.out _ hS.1).mono ?_
  rintro e w5 ⟨r5, rfl, hL, hb5⟩
  obtain ⟨A7, c7, B7, d7, rfl⟩ := hL.slice
  have hst := As.mk (fun x y z => RatV.stored (x := x) (y := y) (z := z) (show w.heap.size ≤ w.heap.size by omega) hS.2 hL)
  replace hS := keep_last hS hb5
  obtain ⟨⟨⟨x4, h4⟩, f4⟩, ⟨⟨x5, h5⟩, f5⟩, ⟨x6, h6⟩, f6⟩ := And.intro (hS.2.2 0 (by omega)) (And.intro (hS.2.2 1 (by omega)) (hS.2.2 2 (by omega)))
  have hB9 := As.mk hS.1
  clear hS hL hb5 hs
  go_wp2_with fail
  refine bodyPost_ret (v := .tuple #[.agg #[.bool (decide (Q.num < 0)), .slice A7 (sz Q.num) c7, .slice B7 (dig Q.den).length d7], .int .i64 0]) (by simp [results, Try.results23, go_sem, h4, h5, h6]) rfl ?_
  exact ⟨_, rfl, hst.out _ _ _, ((hB9.out.setCell (by simp <;> omega) _).setCell (by simp <;> omega) _).setCell (by simp <;> omega) _⟩
end Go.Proofs.Ytdbpjnjgjmfomaa

/- classical: the error of a table of rows. -/
namespace Go.Proofs.Ytdbpjnjgjmfomaa
open Go.RowKit

/-- A value of type [][]int reads as these rows. -/
def RowsV (S : Nat → Prop) (w : World) (v : Value) (rows : List (List Int)) : Prop :=
  ∃ A c, v = .slice A rows.length c ∧ rows.length ≤ c ∧ (rows ≠ [] → ∃ ad, A = some ad ∧ S ad.block ∧ ∀ i, i < rows.length → ∃ u, w.cell? (ad.add i) = some u ∧ IntsV S w u (rows.getD i []))
theorem add_block (ad : Addr) (i : Nat) : (ad.add i).block = ad.block := by unfold Addr.add; split <;> rfl
theorem RowsV.step {S : Nat → Prop} {w w1 : World} {v : Value} {rows : List (List Int)} (h : RowsV S w v rows) (hm : ∀ k, S k → k < w.heap.size → w1.heap[k]? = w.heap[k]?) : RowsV S w1 v rows := by
  obtain ⟨A, c, rfl, hc, hr⟩ := h
  refine ⟨A, c, rfl, hc, fun hn => ?_⟩
  obtain ⟨ad, e, hs, hcell⟩ := hr hn
  refine ⟨ad, e, hs, fun i hi => ?_⟩
  obtain ⟨u, h1, h2⟩ := hcell i hi
  refine ⟨u, (World.cell?_of_block (hm _ (by rw [add_block]; exact hs) (World.block_lt_of_cell? w _ h1))).trans h1, h2.step hm⟩
theorem RowsV.below {S : Nat → Prop} {w w1 : World} {v : Value} {rows : List (List Int)} (h : RowsV S w v rows) (hb : Below w.heap.size w w1) : RowsV S w1 v rows := h.step (fun k _ hk => hb.block k hk)
theorem RowsV.mono {S T : Nat → Prop} {w : World} {v : Value} {rows : List (List Int)} (h : RowsV S w v rows) (hm : ∀ k, S k → k < w.heap.size → T k) : RowsV T w v rows := by
  obtain ⟨A, c, rfl, hc, hr⟩ := h
  refine ⟨A, c, rfl, hc, fun hn => ?_⟩
  obtain ⟨ad, e, hs, hcell⟩ := hr hn
  have h0 := hcell 0 (List.length_pos_iff.2 hn)
  obtain ⟨u0, h01, _⟩ := h0
  refine ⟨ad, e, hm _ hs (by have := World.block_lt_of_cell? w _ h01; rwa [add_block] at this), fun i hi => ?_⟩
  obtain ⟨u, h1, h2⟩ := hcell i hi
  exact ⟨u, h1, h2.mono hm⟩
theorem RowsV.slice {S : Nat → Prop} {w : World} {v : Value} {rows : List (List Int)} (h : RowsV S w v rows) : ∃ A c, v = .slice A rows.length c := by
  obtain ⟨A, c, e, _⟩ := h
  exact ⟨A, c, e⟩
theorem RowsV.row {S : Nat → Prop} {w : World} {A : Option Addr} {n c : Nat} {rows : List (List Int)} (h : RowsV S w (.slice A n c) rows) (hl : 0 < rows.length) : ∃ ad, A = some ad ∧ ∀ i, i < rows.length → ∃ B d, w.cell? (ad.add i) = some (.slice B (rows.getD i []).length d) ∧ IntsV S w (.slice B (rows.getD i []).length d) (rows.getD i []) := by
  obtain ⟨A', c', e, hc, hr⟩ := h
  injection e with e1 e2 e3
  subst e1
  obtain ⟨ad, e, _, hcell⟩ := hr (fun e => by simp [e] at hl)
  refine ⟨ad, e, fun i hi => ?_⟩
  obtain ⟨u, h1, h2⟩ := hcell i hi
  obtain ⟨B, d, rfl⟩ := h2.slice
  exact ⟨B, d, h1, h2⟩

theorem addr_zero (ad : Addr) : ad.add 0 = ad := by unfold Addr.add; simp
theorem any_drop {α : Type} (l : List α) (p : α → Bool) (d : α) (k : Nat) (h : k < l.length) : (l.drop k).any p = (p (l.getD k d) || (l.drop (k + 1)).any p) := by
  rw [List.drop_eq_getElem_cons h, List.any_cons, List.getD_eq_getElem?_getD, List.getElem?_eq_getElem h]; rfl
def long (r : List Int) : Bool := decide (60 < r.length)
def wild (r : List Int) : Bool := !okScores r
def odd (n : Nat) (r : List Int) : Bool := decide (r.length < 2) || decide (r.length ≠ n)
def tableE (rows : List (List Int)) : Int :=
  if 200 < rows.length then 5 else if rows.any long then 5 else if rows.any wild then 3 else if rows.any (odd (rows.getD 0 []).length) then 1 else if rows.length = 0 then 20 else 0

set_option maxHeartbeats 8000000 in
set_option maxRecDepth 100000 in
theorem cls_table {S : Nat → Prop} {v : Value} {rows : List (List Int)} (w : World) (hv : RowsV S w v rows) (hm : rows.length ≤ 140737488351232) (hr : ∀ i, (rows.getD i []).length ≤ 140737488351232) :
    Calls Try.prog 83 #[v] w fun e w' => e = .returned (.int .i64 (tableE rows)) ∧ Drawn w w' := by
  obtain ⟨A, c, rfl⟩ := hv.slice
  obtain ⟨n, hn⟩ : ∃ n, rows.length = n := ⟨_, rfl⟩
  rw [hn] at hm hv ⊢
  have hE : As (tableE rows = if 200 < n then 5 else if rows.any long then 5 else if rows.any wild then 3 else if rows.any (odd (rows.getD 0 []).length) then 1 else if n = 0 then 20 else 0) := ⟨by unfold tableE; rw [hn]⟩
  generalize tableE rows = E at *
  replace hn := As.mk hn
  have hrow : As (∀ W, Drawn w W → ∀ k, k < n → ∃ ad, A = some ad ∧ ∃ B d, W.cell? (ad.add k) = some (.slice B (rows.getD k []).length d) ∧ IntsV S W (.slice B (rows.getD k []).length d) (rows.getD k [])) := ⟨fun W hd k hk => by
    obtain ⟨ad, e, h⟩ := (hv.below hd.below).row (by rw [hn.out]; omega)
    exact ⟨ad, e, h k (by rw [hn.out]; exact hk)⟩⟩
  have hsc : As (∀ W B d k, IntsV S W (.slice B (rows.getD k []).length d) (rows.getD k []) → Calls Try.prog 42 #[.slice B (rows.getD k []).length d] W fun e w' => e = .returned (.bool (okScores (rows.getD k []))) ∧ Drawn W w') := ⟨fun W B d k h => cls_scores W h (hr k)⟩
  have hdr : As (∀ p k, k < n → (rows.drop k).any p = (p (rows.getD k []) || (rows.drop (k + 1)).any p)) := ⟨fun p k hk => any_drop rows p [] k (by rw [hn.out]; exact hk)⟩
  have hdn : As (∀ p, (rows.drop n).any p = false) := ⟨fun p => by rw [← hn.out]; simp⟩
  replace hr := As.mk hr
  clear hv
  go_enter Try.func83, Try.ntmps83
  by_cases hbig : 200 < n
  · have hE2 := As.mk (show E = 5 by rw [hE.out, if_pos hbig])
    clear hE
    go_wp2_with fail
    go_ret
    exact ⟨ret_int hE2.out.symm, by repeat (first | exact Drawn.refl _ | apply Drawn.step)⟩
  replace hE := As.mk (hE.out.trans (if_neg hbig))
  go_wp2_with fail
  go_loopw [4, 14] (fun _ v14 wr => ∃ k : Nat, k ≤ n ∧ v14 = .int .i64 k ∧ As (rows.any long = (rows.drop k).any long) ∧ Drawn w wr) (fun _ v14 _ => (n - intOf v14).toNat)
  case atStart => exact ⟨0, by omega, rfl, ⟨by simp⟩, by repeat (first | exact Drawn.refl _ | apply Drawn.step)⟩
  case round =>
    obtain ⟨k, hk, rfl, hI, hd⟩ := hrel
    by_cases hlt : k < n
    · obtain ⟨ad, hA, B, d, hcell, _⟩ := hrow.out _ hd k hlt
      subst hA
      have hst := As.mk (hdr.out long k hlt)
      have hlr := hr.out k
      obtain ⟨L, hL⟩ : ∃ L, (rows.getD k []).length = L := ⟨_, rfl⟩
      rw [hL] at hcell hlr
      have hp : As (long (rows.getD k []) = decide (60 < L)) := ⟨by rw [← hL]; rfl⟩
      replace hL := As.mk hL
      by_cases h60 : 60 < L
      · have R := As.mk (show E = 5 by rw [hE.out, if_pos (by rw [hI.out, hst.out, hp.out, decide_eq_true h60]; rfl)])
        clear hE hI hst
        go_wp2_with fail
        go_ret
        exact ⟨ret_int R.out.symm, by repeat (first | exact hd | apply Drawn.step)⟩
      · have R : As (rows.any long = (rows.drop (k + 1)).any long) := ⟨by rw [hI.out, hst.out, hp.out, decide_eq_false h60]; rfl⟩
        clear hI hst
        go_wp2_with fail
        go_roundw
        case rel => exact ⟨k + 1, by omega, by go_num, R, by repeat (first | exact hd | apply Drawn.step)⟩
        case measure => simp [intOf]; omega
    · obtain rfl : k = n := by omega
      replace hE := As.mk (hE.out.trans (if_neg (by rw [hI.out, hdn.out]; simp)))
      clear hI
      go_wp2_with fail
      go_loopw [6, 24] (fun _ v24 wr => ∃ j : Nat, j ≤ k ∧ v24 = .int .i64 j ∧ As (rows.any wild = (rows.drop j).any wild) ∧ Drawn w wr) (fun _ v24 _ => (k - intOf v24).toNat)
      case atStart => exact ⟨0, by omega, rfl, ⟨by simp⟩, by repeat (first | exact hd | apply Drawn.step)⟩
      case round =>
        clear hd
        obtain ⟨j, hj, rfl, hI, hd⟩ := hrel
        by_cases hlt : j < k
        · obtain ⟨ad, hA, B, d, hcell, hiv⟩ := hrow.out _ hd j hlt
          subst hA
          have hst := As.mk (hdr.out wild j hlt)
          have H := As.mk (hsc.out _ _ _ _ hiv)
          clear hiv
          have hlr := hr.out j
          have hp : As (wild (rows.getD j []) = !okScores (rows.getD j [])) := ⟨rfl⟩
          generalize (rows.getD j []).length = L at *
          generalize okScores (rows.getD j []) = O at *
          have b0 : ((j : Int) < (k : Int)) = True := eq_true (by omega)
          go_wp2_with fail
          refine H.out.mono ?_
          rintro e w1 ⟨rfl, ⟨m1, rfl⟩⟩
          cases O
          · have R := As.mk (show E = 3 by rw [hE.out, if_pos (by rw [hI.out, hst.out, hp.out]; rfl)])
            clear hE hI hst H
            go_wp2_with fail
            go_ret
            exact ⟨ret_int R.out.symm, by repeat (first | exact hd | apply Drawn.step)⟩
          · have R : As (rows.any wild = (rows.drop (j + 1)).any wild) := ⟨by rw [hI.out, hst.out, hp.out]; rfl⟩
            clear hI hst H
            go_wp2_with fail
            go_roundw
            case rel => exact ⟨j + 1, by omega, by go_num, R, by repeat (first | exact hd | apply Drawn.step)⟩
            case measure => simp [intOf]; omega
        · obtain rfl : j = k := by omega
          replace hE := As.mk (hE.out.trans (if_neg (by rw [hI.out, hdn.out]; simp)))
          clear hI hsc
          go_wp2_with fail
          go_loopw [8, 34] (fun _ v34 wr => ∃ i : Nat, i ≤ j ∧ v34 = .int .i64 i ∧ As (rows.any (odd (rows.getD 0 []).length) = (rows.drop i).any (odd (rows.getD 0 []).length)) ∧ Drawn w wr) (fun _ v34 _ => (j - intOf v34).toNat)
          case atStart => exact ⟨0, by omega, rfl, ⟨by simp⟩, by repeat (first | exact hd | apply Drawn.step)⟩
          case round =>
            clear hd
            obtain ⟨i, hi, rfl, hI, hd⟩ := hrel
            by_cases hlt : i < j
            · obtain ⟨ad0, hA0, B0, d0, hcell0, _⟩ := hrow.out _ hd 0 (by omega)
              obtain ⟨ad, hA, B, d, hcell, _⟩ := hrow.out _ hd i hlt
              obtain rfl : ad0 = ad := by rw [hA0] at hA; injection hA
              subst hA0
              rw [addr_zero] at hcell0
              have hst := As.mk (hdr.out (odd (rows.getD 0 []).length) i hlt)
              have hlr := hr.out i
              have hlr0 := hr.out 0
              have hp : As (odd (rows.getD 0 []).length (rows.getD i []) = (decide ((rows.getD i []).length < 2) || decide ((rows.getD i []).length ≠ (rows.getD 0 []).length))) := ⟨rfl⟩
              obtain ⟨L, hL⟩ : ∃ L, (rows.getD i []).length = L := ⟨_, rfl⟩
              obtain ⟨L0, hL0⟩ : ∃ L0, (rows.getD 0 []).length = L0 := ⟨_, rfl⟩
              have hp2 := hp.out
              rw [hL, hL0] at hp2
              rw [hL] at hcell hlr
              rw [hL0] at hcell0 hlr0 hI hst hE ⊢
              replace hL := As.mk hL
              replace hL0 := As.mk hL0
              replace hp2 := As.mk hp2
              have b0 : ((i : Int) < (j : Int)) = True := eq_true (by omega)
              have b1 : (0 < (j : Int)) = True := eq_true (by omega)
              by_cases h2 : L < 2
              · have R := As.mk (show E = 1 by rw [hE.out, if_pos (by rw [hI.out, hst.out, hp2.out, decide_eq_true h2]; rfl)])
                clear hE hI hst
                go_wp2_with fail
                go_ret
                exact ⟨ret_int R.out.symm, by repeat (first | exact hd | apply Drawn.step)⟩
              · by_cases h3 : L = L0
                · have R : As (rows.any (odd L0) = (rows.drop (i + 1)).any (odd L0)) := ⟨by rw [hI.out, hst.out, hp2.out, decide_eq_false h2, decide_eq_false (not_not_intro h3)]; rfl⟩
                  subst h3
                  clear hI hst hE
                  go_wp2_with fail
                  go_roundw
                  case rel => exact ⟨i + 1, by omega, by go_num, R, by repeat (first | exact hd | apply Drawn.step)⟩
                  case measure => simp [intOf]; omega
                · have R := As.mk (show E = 1 by rw [hE.out, if_pos (by rw [hI.out, hst.out, hp2.out, decide_eq_true h3]; simp)])
                  have b2 : ((L : Int) == (L0 : Int)) = false := beq_eq_false_iff_ne.2 (by omega)
                  have b3 : ((L : Int) != (L0 : Int)) = true := bne_iff_ne.2 (by omega)
                  clear hE hI hst
                  go_wp2_with fail
                  go_ret
                  exact ⟨ret_int R.out.symm, by repeat (first | exact hd | apply Drawn.step)⟩
            · obtain rfl : i = j := by omega
              replace hE := As.mk (hE.out.trans (if_neg (by rw [hI.out, hdn.out]; simp)))
              clear hI
              rcases Nat.eq_zero_or_pos i with h0 | h0
              · have R := As.mk (show E = 20 by rw [hE.out, if_pos h0])
                have b2 : ((i : Int) == 0) = true := beq_iff_eq.2 (by omega)
                replace h0 := As.mk h0
                clear hE
                go_wp2_with fail
                go_ret
                exact ⟨ret_int R.out.symm, by repeat (first | exact hd | apply Drawn.step)⟩
              · have R := As.mk (show E = 0 by rw [hE.out, if_neg (by omega)])
                have b2 : ((i : Int) == 0) = false := beq_eq_false_iff_ne.2 (by omega)
                clear hE
                go_wp2_with fail
                go_ret
                exact ⟨ret_int R.out.symm, by repeat (first | exact hd | apply Drawn.step)⟩
end Go.Proofs.Ytdbpjnjgjmfomaa

/- Rows of ints of the call's own. -/
namespace Go.Proofs.Ytdbpjnjgjmfomaa
open Go.RowKit

theorem i64s_append (a b : List Int) : i64s (a ++ b) = i64s a ++ i64s b := by simp [i64s]
abbrev OwnI (w : World) (B : Nat) (v : Value) (l : List Int) : Prop := w.ownsRow B 3 1 v l.length (i64s l)
theorem OwnI.ints {w : World} {B : Nat} {v : Value} {l : List Int} (h : OwnI w B v l) : IntsV (fun k => B ≤ k ∧ k < w.heap.size ∧ v.ownBlock = some k) w v l := by
  rcases h.2 with ⟨rfl, h0⟩ | ⟨g, cap, cur, rfl, hB, hh, hn, hm, hs, ht⟩
  · rw [List.length_eq_zero_iff] at h0; subst h0
    exact ⟨none, 0, rfl, Nat.le_refl _, Rd.nil _ _ _⟩
  · refine ⟨some ⟨g, 0, none⟩, cap, rfl, hn, fun _ => ⟨⟨g, 0, none⟩, rfl, ⟨hB, (Array.getElem?_eq_some_iff.1 hh).1, rfl⟩, fun j v hj => h.cells (g := g) rfl j v hj⟩⟩
theorem OwnI.kept {w w1 : World} {B : Nat} {v : Value} {l : List Int} (h : OwnI w B v l) (hm : ∀ k, v.ownBlock = some k → w1.heap[k]? = w.heap[k]?) : OwnI w1 B v l := by
  refine ⟨h.1, ?_⟩
  rcases h.2 with h2 | ⟨g, cap, cur, rfl, hg, hh, r⟩
  · exact .inl h2
  · exact .inr ⟨g, cap, cur, rfl, hg, (hm g rfl).trans hh, r⟩
theorem OwnI.below {w w1 : World} {B : Nat} {v : Value} {l : List Int} (h : OwnI w B v l) (hb : Below w.heap.size w w1) : OwnI w1 B v l :=
  h.kept (fun k hk => hb.block k (World.ownsRow.lt h k hk).2)
theorem OwnI.drewN {w : World} {B : Nat} {v : Value} {l : List Int} (h : OwnI w B v l) (n : Nat) : OwnI (w.drewN n) B v l := h.below ((Below.refl _ _).drewsN n)
theorem OwnI.lower {w : World} {B B' : Nat} {v : Value} {l : List Int} (h : OwnI w B v l) (hb : B' ≤ B) : OwnI w B' v l := by
  refine ⟨h.1, ?_⟩
  rcases h.2 with h2 | ⟨g, cap, cur, rfl, hg, r⟩
  · exact .inl h2
  · exact .inr ⟨g, cap, cur, rfl, Nat.le_trans hb hg, r⟩
theorem OwnI.lit (w : World) (B : Nat) (l : List Int) (hb : B ≤ w.heap.size) (hm : l.length ≤ 9223372036854775807) : OwnI (w.alloc (.cells (i64s l).toArray 3)) B (.slice (some ⟨w.heap.size, 0, none⟩) l.length l.length) l := by
  have h := World.ownsRow_lit (base := B) (e := 3) (size := 1) w (i64s l).toArray l.length hb (by simpa [maxLen] using hm) (by simp [i64s])
  simpa using h
theorem OwnI.made (w : World) (B n : Nat) (hb : B ≤ w.heap.size) (hm : n ≤ 9223372036854775807) : OwnI (w.alloc (.cells (madeCells #[.int .i64 0] n) 3)) B (.slice (some ⟨w.heap.size, 0, none⟩) n n) (List.replicate n 0) := by
  have h := World.ownsRow_lit (base := B) (e := 3) (size := 1) w (madeCells #[.int .i64 0] n) n hb (by simpa [maxLen] using hm) (by simp [size_madeCells])
  rw [toList_madeCells_one] at h
  have e : List.replicate n (Value.int .i64 0) = i64s (List.replicate n 0) := by simp [i64s]
  rw [e] at h
  simpa [OwnI] using h
theorem OwnI.room (w : World) (B n : Nat) (hb : B ≤ w.heap.size) (hm : n ≤ 9223372036854775807) : OwnI (w.alloc (.cells (madeCells #[.int .i64 0] n) 3)) B (.slice (some ⟨w.heap.size, 0, none⟩) 0 n) [] := by
  have h := World.ownsRow_made (base := B) (e := 3) (size := 1) w (madeCells #[.int .i64 0] n) n hb (by simpa [maxLen] using hm) (by simp [size_madeCells])
  simpa [OwnI, i64s] using h
theorem make_ints {P : Program} (t : TypeId) (ht : P.underlying t = some (.slice 3)) (hinfo : (P.info? 3).map (fun i => (i.zero, i.size, i.bytes)) = some (some (.int .i64 0), 1, 8)) (l c : Nat) (hlc : l ≤ c) (hb : c ≤ 17592186044416) (W : World) :
    (Instr.makeSlice t (.int .i64 (l : Int)) (.int .i64 (c : Int))).run P W = .ok (.slice (some ⟨W.heap.size, 0, none⟩) l c) (W.alloc (.cells (madeCells #[.int .i64 0] c) 3)) := by
  obtain ⟨i0, hi, hzz⟩ := Option.map_eq_some_iff.1 hinfo
  simp only [Prod.mk.injEq] at hzz
  obtain ⟨hz0, hz1, hz2⟩ := hzz
  have := run_make (P := P) W t 3 i0 (.int .i64 0) ht hi hz0 .i64 .i64 (l : Int) (c : Int) (by omega) (by omega) (by rw [hz2]; omega) (by omega)
  rw [this, hz1]
  simp [Value.cells]
/-- A row of one limb and more lies in a block of its own. -/
theorem OwnI.form {w : World} {B : Nat} {v : Value} {l : List Int} (h : OwnI w B v l) (h0 : 0 < l.length) : ∃ g cap, v = .slice (some ⟨g, 0, none⟩) l.length cap ∧ B ≤ g ∧ g < w.heap.size := by
  rcases h.2 with ⟨rfl, h1⟩ | ⟨g, cap, cur, rfl, hB, hh, _⟩
  · omega
  · exact ⟨g, cap, rfl, hB, (Array.getElem?_eq_some_iff.1 hh).1⟩
theorem OwnI.slice {w : World} {B : Nat} {v : Value} {l : List Int} (h : OwnI w B v l) : ∃ A c, v = .slice A l.length c := by
  rcases h.2 with ⟨rfl, h1⟩ | ⟨g, cap, cur, rfl, _⟩
  · exact ⟨none, 0, by rw [h1]⟩
  · exact ⟨_, cap, rfl⟩
theorem OwnI.cell {w : World} {B g cap n : Nat} {l : List Int} (h : OwnI w B (.slice (some ⟨g, 0, none⟩) n cap) l) (i : Nat) (hi : i < l.length) : w.cell? ⟨g, i, none⟩ = some (.int .i64 (l.getD i 0)) ∧ w.frozen? ⟨g, i, none⟩ = false := by
  rcases h.2 with ⟨h', _⟩ | ⟨g', cap', cur, h', hB, hh, hn, hm, hs, ht⟩
  · cases h'
  · injection h' with h1 h2 h3
    injection h1 with h1
    injection h1 with h1
    subst h1 h2 h3
    have h' : OwnI w B (.slice (some ⟨g, 0, none⟩) l.length cap) l := ⟨h.1, .inr ⟨g, cap, cur, rfl, hB, hh, hn, hm, hs, ht⟩⟩
    refine ⟨?_, World.ownsRow.frozenAt h' i⟩
    rw [World.ownsRow.cellAt h' i (by omega), i64s_get l i hi]
theorem OwnI.store {w : World} {B g cap n : Nat} {l : List Int} (h : OwnI w B (.slice (some ⟨g, 0, none⟩) n cap) l) (i : Nat) (x : Int) : OwnI (w.setCell ⟨g, i, none⟩ (.int .i64 x)) B (.slice (some ⟨g, 0, none⟩) n cap) (l.set i x) := by
  obtain ⟨A, c, e⟩ := OwnI.slice h
  injection e with e1 e2 e3
  subst e2
  have := (World.ownsRow.stored h i (.int .i64 x)).1
  rw [show (i64s l).set i (.int .i64 x) = i64s (l.set i x) from by simp [i64s, List.map_set]] at this
  simpa [OwnI] using this
end Go.Proofs.Ytdbpjnjgjmfomaa

/- The reliability coefficient in plain Lean: columns, totals, and that the covariances of all columns add up to the variance of the totals. -/
namespace Go.Proofs.Ytdbpjnjgjmfomaa
open Go.RowKit

def col (rows : List (List Int)) (i : Nat) : List Int := rows.map (fun r => r.getD i 0)
/-- The sum of the first k numbers of a row, of each row. -/
def totp (rows : List (List Int)) (k : Nat) : List Int := rows.map (fun r => sm r k)
theorem col_length (rows : List (List Int)) (i : Nat) : (col rows i).length = rows.length := by simp [col]
theorem totp_length (rows : List (List Int)) (k : Nat) : (totp rows k).length = rows.length := by simp [totp]
theorem col_get (rows : List (List Int)) (i p : Nat) : (col rows i).getD p 0 = (rows.getD p []).getD i 0 := by
  unfold col
  rcases Nat.lt_or_ge p rows.length with h | h
  · simp [List.getD_eq_getElem?_getD, List.getElem?_eq_getElem h]
  · simp [List.getD_eq_getElem?_getD, List.getElem?_eq_none h]
theorem sm_nil (k : Nat) : sm [] k = 0 := by
  induction k with
  | zero => rfl
  | succ k ih => rw [sm, ih]; simp
theorem totp_get (rows : List (List Int)) (k p : Nat) : (totp rows k).getD p 0 = sm (rows.getD p []) k := by
  unfold totp
  rcases Nat.lt_or_ge p rows.length with h | h
  · simp [List.getD_eq_getElem?_getD, List.getElem?_eq_getElem h]
  · simp [List.getD_eq_getElem?_getD, List.getElem?_eq_none h, sm_nil]
theorem totp_succ (rows : List (List Int)) (k p : Nat) : (totp rows (k + 1)).getD p 0 = (totp rows k).getD p 0 + (col rows k).getD p 0 := by
  rw [totp_get, totp_get, col_get, sm]

/-- The sum of the columns' variances, of the first k. -/
def partR (rows : List (List Int)) : Nat → Rat
  | 0 => 0
  | k + 1 => partR rows k + covR (col rows k) (col rows k)
def allR (rows : List (List Int)) (k : Nat) : Rat := covR (totp rows k) (totp rows k)

structure InOrder (rows : List (List Int)) (k : Nat) : Prop where
  few : rows.length ≤ 200
  some : 0 < rows.length
  len : ∀ p, p < rows.length → (rows.getD p []).length = k
  two : 2 ≤ k
  sixty : k ≤ 60
  ok : ∀ p, p < rows.length → okScores (rows.getD p []) = true
theorem any_false {α : Type} {l : List α} {p : α → Bool} (h : l.any p = false) (d : α) (i : Nat) (hi : i < l.length) : p (l.getD i d) = false := by
  have := List.any_eq_false.1 h (l.getD i d) (by rw [List.getD_eq_getElem?_getD, List.getElem?_eq_getElem hi]; exact List.getElem_mem hi)
  simpa using this
theorem table_zero {rows : List (List Int)} (h : tableE rows = 0) : InOrder rows (rows.getD 0 []).length := by
  unfold tableE at h
  by_cases h1 : 200 < rows.length
  · rw [if_pos h1] at h; omega
  rw [if_neg h1] at h
  cases h2 : rows.any long
  · rw [h2] at h
    rw [if_neg (by simp)] at h
    cases h3 : rows.any wild
    · rw [h3] at h
      rw [if_neg (by simp)] at h
      cases h4 : rows.any (odd (rows.getD 0 []).length)
      · rw [h4] at h
        rw [if_neg (by simp)] at h
        by_cases h5 : rows.length = 0
        · rw [if_pos h5] at h; omega
        · have hp : 0 < rows.length := by omega
          have e0 := any_false h4 [] 0 hp
          have e1 := any_false h2 [] 0 hp
          simp [odd] at e0
          simp [long] at e1
          refine ⟨by omega, hp, fun p hp => ?_, by simpa using e0, by simpa using e1, fun p hp => ?_⟩
          · have := any_false h4 [] p hp
            simp [odd] at this
            simpa using this.2
          · have := any_false h3 [] p hp
            simpa [wild] using this
      · rw [h4] at h; simp at h
    · rw [h3] at h; simp at h
  · rw [h2] at h; simp at h
theorem InOrder.score {rows : List (List Int)} {k : Nat} (h : InOrder rows k) (p i : Nat) : -1000000 ≤ (rows.getD p []).getD i 0 ∧ (rows.getD p []).getD i 0 ≤ 1000000 := by
  rcases Nat.lt_or_ge p rows.length with hp | hp
  · rcases Nat.lt_or_ge i (rows.getD p []).length with hi | hi
    · exact okScores_at (h.ok p hp) i hi
    · rw [List.getD_eq_getElem?_getD (l := rows.getD p []), List.getElem?_eq_none hi]; simp
  · rw [List.getD_eq_getElem?_getD (l := rows), List.getElem?_eq_none hp]; simp
theorem sm_small {x : List Int} (h : ∀ i, -1000000 ≤ x.getD i 0 ∧ x.getD i 0 ≤ 1000000) (k : Nat) : -(1000000 * (k : Int)) ≤ sm x k ∧ sm x k ≤ 1000000 * (k : Int) := by
  induction k with
  | zero => simp [sm]
  | succ k ih => rw [sm]; have := h k; omega
theorem InOrder.colmod {rows : List (List Int)} {k : Nat} (h : InOrder rows k) (i : Nat) : Mod (col rows i) := fun p => by
  rw [col_get]; have := h.score p i; omega
theorem InOrder.totmod {rows : List (List Int)} {k : Nat} (h : InOrder rows k) (j : Nat) (hj : j ≤ 60) : Mod (totp rows j) := fun p => by
  rw [totp_get]; have := sm_small (fun i => h.score p i) j; omega
theorem rz_part {rows : List (List Int)} {k : Nat} (h : InOrder rows k) (j : Nat) : rz (partR rows j) ≤ 8 * j + 1 := by
  induction j with
  | zero =>
    have := rz_small 0 1 (by decide) (by decide)
    have e : ((0 : Int) : Rat) / ((1 : Int) : Rat) = 0 := by simp [Rat.div_def]
    rw [partR]
    have h1 := rz_int 0 1
    rw [e] at h1
    have h2 : sz (0 : Int) = 0 := (dig_nil_iff 0).2 rfl
    have h3 : sz (1 : Int) ≤ 1 := dig_one_len
    omega
  | succ j ih =>
    rw [partR]
    have h1 := rz_add (partR rows j) (covR (col rows j) (col rows j))
    have h2 := rz_covR _ _ (h.colmod j) (h.colmod j) (by rw [col_length]; exact h.few)
    omega
end Go.Proofs.Ytdbpjnjgjmfomaa

/- The covariances of all columns add up to the variance of the totals. -/
namespace Go.Proofs.Ytdbpjnjgjmfomaa
open Go.RowKit

theorem sm_sum {x y z : List Int} (h : ∀ p, x.getD p 0 = y.getD p 0 + z.getD p 0) (m : Nat) : sm x m = sm y m + sm z m := by
  induction m with
  | zero => rfl
  | succ m ih => rw [sm, sm, sm, ih, h]; omega
theorem dt_suml {x y z : List Int} (u : List Int) (h : ∀ p, x.getD p 0 = y.getD p 0 + z.getD p 0) (m : Nat) : dt x u m = dt y u m + dt z u m := by
  induction m with
  | zero => rfl
  | succ m ih => rw [dt, dt, dt, ih, h, Int.add_mul]; omega
theorem dt_comm (x y : List Int) (m : Nat) : dt x y m = dt y x m := by
  induction m with
  | zero => rfl
  | succ m ih => rw [dt, dt, ih, Int.mul_comm]
theorem cov_suml {x y z : List Int} (u : List Int) (h : ∀ p, x.getD p 0 = y.getD p 0 + z.getD p 0) (hy : y.length = x.length) (hz : z.length = x.length) : covR x u = covR y u + covR z u := by
  unfold covR
  rw [hy, hz, dt_suml u h, sm_sum h, Rat.intCast_add, Rat.intCast_add]
  grind
theorem cov_comm {x y : List Int} (h : y.length = x.length) : covR x y = covR y x := by
  unfold covR
  rw [h, dt_comm]
  grind
/-- The sum of the first m covariances with column i; of the first m of these sums. -/
def crossR (rows : List (List Int)) (i : Nat) : Nat → Rat
  | 0 => 0
  | j + 1 => crossR rows i j + covR (col rows i) (col rows j)
theorem sm_zero {x : List Int} (h : ∀ p, x.getD p 0 = 0) (m : Nat) : sm x m = 0 := by
  induction m with
  | zero => rfl
  | succ m ih => rw [sm, ih, h]; rfl
theorem dt_zerol {x : List Int} (u : List Int) (h : ∀ p, x.getD p 0 = 0) (m : Nat) : dt x u m = 0 := by
  induction m with
  | zero => rfl
  | succ m ih => rw [dt, ih, h]; simp
theorem cov_zerol {x : List Int} (u : List Int) (h : ∀ p, x.getD p 0 = 0) : covR x u = 0 := by
  unfold covR
  rw [sm_zero h, dt_zerol u h]
  grind
theorem totp_zero (rows : List (List Int)) (p : Nat) : (totp rows 0).getD p 0 = 0 := by rw [totp_get]; rfl
theorem cross_eq (rows : List (List Int)) (i j : Nat) : crossR rows i j = covR (totp rows j) (col rows i) := by
  induction j with
  | zero => rw [crossR, cov_zerol _ (totp_zero rows)]
  | succ j ih =>
    rw [crossR, ih, cov_suml (x := totp rows (j + 1)) (col rows i) (fun p => totp_succ rows j p) (by simp [totp_length]) (by simp [totp_length, col_length])]
    rw [cov_comm (x := col rows i) (y := col rows j) (by simp [col_length])]
def sumR (rows : List (List Int)) (k : Nat) : Nat → Rat
  | 0 => 0
  | i + 1 => sumR rows k i + crossR rows i k
theorem sum_eq (rows : List (List Int)) (k m : Nat) : sumR rows k m = covR (totp rows m) (totp rows k) := by
  induction m with
  | zero => rw [sumR, cov_zerol _ (totp_zero rows)]
  | succ m ih =>
    rw [sumR, ih, cross_eq, cov_suml (x := totp rows (m + 1)) (totp rows k) (fun p => totp_succ rows m p) (by simp [totp_length]) (by simp [totp_length, col_length])]
    rw [cov_comm (x := totp rows k) (y := col rows m) (by simp [totp_length, col_length])]
theorem all_eq (rows : List (List Int)) (k : Nat) : sumR rows k k = allR rows k := sum_eq rows k k
end Go.Proofs.Ytdbpjnjgjmfomaa

/- classical.alpha where the table is not in order. -/
namespace Go.Proofs.Ytdbpjnjgjmfomaa
open Go.RowKit

/-- A ratio behind three stores into another block. -/
theorem RatV.set3 {S : Nat → Prop} {w : World} {v x y z : Value} {q : Rat} {b : Nat} (h : RatV S w v q) (hb : ¬ S b) : RatV S (((w.setCell ⟨b, 0, none⟩ x).setCell ⟨b, 1, none⟩ y).setCell ⟨b, 2, none⟩ z) v q := by
  obtain ⟨u, d, e, hu, hd⟩ := h
  exact ⟨u, d, e, ((hu.stored hb _).stored hb _).stored hb _, ((hd.stored hb _).stored hb _).stored hb _⟩
theorem Below.set3 {w W : World} {b : Nat} {x y z : Value} (h : Below w.heap.size w W) (hb : w.heap.size ≤ b) : Below w.heap.size w (((W.setCell ⟨b, 0, none⟩ x).setCell ⟨b, 1, none⟩ y).setCell ⟨b, 2, none⟩ z) :=
  ((h.setCell hb _).setCell hb _).setCell hb _
theorem Res.cells3 {w : World} {b : Nat} (h : Res w b 3) : (∃ x, w.cell? ⟨b, 0, none⟩ = some x) ∧ (∃ x, w.cell? ⟨b, 1, none⟩ = some x) ∧ (∃ x, w.cell? ⟨b, 2, none⟩ = some x) ∧ w.frozen? ⟨b, 0, none⟩ = false ∧ w.frozen? ⟨b, 1, none⟩ = false ∧ w.frozen? ⟨b, 2, none⟩ = false :=
  ⟨(h.2 0 (by omega)).1, (h.2 1 (by omega)).1, (h.2 2 (by omega)).1, (h.2 0 (by omega)).2, (h.2 1 (by omega)).2, (h.2 2 (by omega)).2⟩

set_option maxHeartbeats 8000000 in
set_option maxRecDepth 100000 in
theorem cls_alpha_no {S : Nat → Prop} {v : Value} {rows : List (List Int)} (w : World) (hv : RowsV S w v rows) (hm : rows.length ≤ 140737488351232) (hr : ∀ i, (rows.getD i []).length ≤ 140737488351232) (hE : tableE rows ≠ 0) :
    Calls Try.prog 48 #[v] w fun e w' => ∃ r s, e = .returned (.tuple #[r, s, .int .i64 (tableE rows)]) ∧ RatV (New w) w' r 0 ∧ RatV (New w) w' s 0 ∧ Below w.heap.size w w' := by
  obtain ⟨A, c, rfl⟩ := hv.slice
  obtain ⟨E, hEE⟩ : ∃ E, tableE rows = E := ⟨_, rfl⟩
  have HT : As (∀ W, Below w.heap.size w W → Calls Try.prog 83 #[.slice A rows.length c] W fun e w' => e = .returned (.int .i64 E) ∧ Drawn W w') := ⟨fun W hb => by
    rw [← hEE]
    exact cls_table W (hv.below hb) hm hr⟩
  rw [hEE] at hE ⊢
  have hEb : (E == 0) = false := beq_eq_false_iff_ne.2 hE
  clear hv hm hr hEE
  generalize rows.length = n at *
  go_enter Try.func48, Try.ntmps48
  go_wp2_with fail
  obtain ⟨W, hW⟩ : ∃ W, ((w.alloc (Obj.cells #[Value.bool false, Value.slice none 0 0, Value.slice none 0 0] 40)).alloc (Obj.cells #[Value.bool false, Value.slice none 0 0, Value.slice none 0 0] 40)) = W := ⟨_, rfl⟩
  have hs : W.heap.size = w.heap.size + 2 := by rw [← hW]; simp
  have hB : Below w.heap.size w W := by rw [← hW]; exact (((Below.refl _ _).alloc (by simp <;> omega) _).alloc (by simp <;> omega) _)
  have hR0 : Res W (w.heap.size) 3 := ⟨by omega, fun i hi => by
    subst hW
    rcases (by omega : i = 0 ∨ i = 1 ∨ i = 2) with rfl | rfl | rfl
    · exact ⟨⟨.bool false, by simp [go_sem]⟩, by simp [go_sem]⟩
    · exact ⟨⟨.slice none 0 0, by simp [go_sem]⟩, by simp [go_sem]⟩
    · exact ⟨⟨.slice none 0 0, by simp [go_sem]⟩, by simp [go_sem]⟩⟩
  have hR1 : Res W (w.heap.size + 1) 3 := ⟨by omega, fun i hi => by
    subst hW
    rcases (by omega : i = 0 ∨ i = 1 ∨ i = 2) with rfl | rfl | rfl
    · exact ⟨⟨.bool false, by simp [go_sem]⟩, by simp [go_sem]⟩
    · exact ⟨⟨.slice none 0 0, by simp [go_sem]⟩, by simp [go_sem]⟩
    · exact ⟨⟨.slice none 0 0, by simp [go_sem]⟩, by simp [go_sem]⟩⟩
  rw [hW]
  clear hW
  have hS : Below w.heap.size w W ∧ Res W w.heap.size 3 ∧ Res W (w.heap.size + 1) 3 := ⟨hB, hR0, hR1⟩
  clear hR0 hR1
  refine (HT.out _ hB).mono ?_
  rintro e w1 ⟨rfl, ⟨m1, rfl⟩⟩
  replace hS := (keep_B (keep_R (Res.below))) hS ((Below.refl _ _).drewsN m1)
  have hlW : w.heap.size + 2 ≤ W.heap.size := by omega
  clear hB HT
  generalize hW1 : W.drewN m1 = W1 at *
  have hlW1 : w.heap.size + 2 ≤ W1.heap.size := by rw [← hW1]; exact hlW
  clear hW1 hs hlW
  go_wp2_with fail
  refine (cls_zero _).mono ?_
  rintro e w2 ⟨r1, rfl, hr1, hb2⟩
  have hR9 := hS.2
  replace hS := (keep_B (keep_R (Res.below))) hS hb2
  have hlw2 := hb2.size
  go_wp2_with fail
  refine (cls_zero _).mono ?_
  rintro e w3 ⟨r2, rfl, hr2, hb3⟩
  replace hS := (keep_B (keep_R (Res.below))) hS hb3
  replace hr1 := hr1.below hb3
  obtain ⟨A1, c1, B1, d1, rfl⟩ := hr1.slice
  obtain ⟨A2, c2, B2, d2, rfl⟩ := hr2.slice
  obtain ⟨⟨x0, g0⟩, ⟨x1, g1⟩, ⟨x2, g2⟩, f0, f1, f2⟩ := hS.2.1.cells3
  obtain ⟨⟨y0, k0⟩, ⟨y1, k1⟩, ⟨y2, k2⟩, l0, l1, l2⟩ := hS.2.2.cells3
  have hst1 : As (∀ x y z x' y' z', RatV (New w) ((((((w3.setCell ⟨w.heap.size, 0, none⟩ x).setCell ⟨w.heap.size, 1, none⟩ y).setCell ⟨w.heap.size, 2, none⟩ z).setCell ⟨w.heap.size + 1, 0, none⟩ x').setCell ⟨w.heap.size + 1, 1, none⟩ y').setCell ⟨w.heap.size + 1, 2, none⟩ z') (.agg #[.bool (decide ((0 : Rat).num < 0)), .slice A1 (sz (0 : Rat).num) c1, .slice B1 (dig (0 : Rat).den).length d1]) 0) := ⟨fun x y z x' y' z' =>
    ((hr1.set3 (by show ¬ W1.heap.size ≤ _; omega)).set3 (by show ¬ W1.heap.size ≤ _; omega)).mono (fun k hk _ => by have : W1.heap.size ≤ k := hk; show w.heap.size ≤ k; omega)⟩
  have hst2 : As (∀ x y z x' y' z', RatV (New w) ((((((w3.setCell ⟨w.heap.size, 0, none⟩ x).setCell ⟨w.heap.size, 1, none⟩ y).setCell ⟨w.heap.size, 2, none⟩ z).setCell ⟨w.heap.size + 1, 0, none⟩ x').setCell ⟨w.heap.size + 1, 1, none⟩ y').setCell ⟨w.heap.size + 1, 2, none⟩ z') (.agg #[.bool (decide ((0 : Rat).num < 0)), .slice A2 (sz (0 : Rat).num) c2, .slice B2 (dig (0 : Rat).den).length d2]) 0) := ⟨fun x y z x' y' z' =>
    ((hr2.set3 (by show ¬ w2.heap.size ≤ _; omega)).set3 (by show ¬ w2.heap.size ≤ _; omega)).mono (fun k hk _ => by have : w2.heap.size ≤ k := hk; show w.heap.size ≤ k; omega)⟩
  have hB9 := As.mk hS.1
  clear hS hR9 hr1 hr2 hb2 hb3
  go_wp2_with fail
  refine bodyPost_ret (v := .tuple #[.agg #[.bool (decide ((0 : Rat).num < 0)), .slice A1 (sz (0 : Rat).num) c1, .slice B1 (dig (0 : Rat).den).length d1], .agg #[.bool (decide ((0 : Rat).num < 0)), .slice A2 (sz (0 : Rat).num) c2, .slice B2 (dig (0 : Rat).den).length d2], .int .i64 E]) (by simp [results, Try.results48, go_sem, g0, g1, g2, k0, k1, k2]) rfl ?_
  exact ⟨_, _, rfl, hst1.out _ _ _ _ _ _, hst2.out _ _ _ _ _ _, Below.set3 (Below.set3 hB9.out (Nat.le_refl _)) (by omega)⟩
end Go.Proofs.Ytdbpjnjgjmfomaa

/- A list whose first p numbers are of one list, the others of another. -/
namespace Go.Proofs.Ytdbpjnjgjmfomaa
open Go.RowKit

def mix (a b : List Int) (p : Nat) : List Int := a.take p ++ b.drop p
theorem mix_length {a b : List Int} (h : a.length = b.length) (p : Nat) : (mix a b p).length = b.length := by
  unfold mix; rw [List.length_append, List.length_take, List.length_drop]; omega
theorem mix_zero (a b : List Int) : mix a b 0 = b := by simp [mix]
theorem mix_full {a b : List Int} (h : a.length = b.length) : mix a b b.length = a := by simp [mix, ← h]
theorem mix_get {a b : List Int} (h : a.length = b.length) (p : Nat) (hp : p < b.length) : (mix a b p).getD p 0 = b.getD p 0 := by
  unfold mix
  rw [List.getD_eq_getElem?_getD, List.getElem?_append_right (by rw [List.length_take]; omega), List.length_take, List.getElem?_drop, List.getD_eq_getElem?_getD]
  rw [show p + (p - min p a.length) = p by omega]
theorem mix_set {a b : List Int} (h : a.length = b.length) (p : Nat) (hp : p < b.length) : (mix a b p).set p (a.getD p 0) = mix a b (p + 1) := by
  unfold mix
  apply List.ext_getElem?
  intro i
  rw [List.getElem?_set]
  by_cases hi : p = i
  · subst hi
    rw [if_pos rfl, if_pos (by rw [List.length_append, List.length_take, List.length_drop]; omega)]
    rw [List.getElem?_append_left (by rw [List.length_take]; omega), List.getElem?_take, if_pos (by omega)]
    rw [List.getD_eq_getElem?_getD, List.getElem?_eq_getElem (by omega)]; rfl
  · rw [if_neg hi]
    rcases Nat.lt_or_ge i p with h1 | h1
    · rw [List.getElem?_append_left (by rw [List.length_take]; omega), List.getElem?_append_left (by rw [List.length_take]; omega), List.getElem?_take, List.getElem?_take, if_pos h1, if_pos (by omega)]
    · rw [List.getElem?_append_right (by rw [List.length_take]; omega), List.getElem?_append_right (by rw [List.length_take]; omega), List.length_take, List.length_take, List.getElem?_drop, List.getElem?_drop]
      congr 1; omega
end Go.Proofs.Ytdbpjnjgjmfomaa

/- The sign of a ratio; fit.whole. -/
namespace Go.Proofs.Ytdbpjnjgjmfomaa
open Go.RowKit

theorem sign_cmp (z : Int) (D : Nat) (hD : 0 < D) : z.sign = cmpR ((z : Rat) / ((D : Nat) : Rat)) 0 := by
  have h := cmp_frac z 0 D 1 hD (by omega)
  rw [rat_one0] at h
  rw [← h]
  unfold cmpZ
  rcases sign_cases z with ⟨h1, h2⟩ | ⟨h1, h2⟩ | ⟨h1, h2⟩
  · rw [h2, if_pos (by simpa using h1)]
  · rw [h2, if_neg (by simp; omega), if_pos (by simp; omega)]
  · rw [h2, if_neg (by simp; omega), if_neg (by simp; omega)]
theorem IntI.letters {S : Nat → Prop} {w : World} {v : Value} {z : Int} {n : Nat} (h : IntI S w v z n) : ∃ N A k c, v = .agg #[.bool N, .slice A k c] := by
  obtain ⟨N, u, l, rfl, hu, _⟩ := h
  obtain ⟨A, c, rfl⟩ := hu.slice
  exact ⟨N, A, _, c, rfl⟩
theorem RatI.letters {S : Nat → Prop} {w : World} {v : Value} {q : Rat} {n : Nat} (h : RatI S w v q n) : ∃ N A k c B m d, v = .agg #[.bool N, .slice A k c, .slice B m d] := by
  obtain ⟨N, u, d, l, t, rfl, hu, hd, _⟩ := h
  obtain ⟨A, c, rfl⟩ := hu.slice
  obtain ⟨B, e, rfl⟩ := hd.slice
  exact ⟨N, A, _, c, B, _, e, rfl⟩

set_option maxHeartbeats 8000000 in
set_option maxRecDepth 100000 in
theorem rat_Sign {S : Nat → Prop} {v : Value} {q : Rat} {n : Nat} (w : World) (hv : RatI S w v q n) (h1 : 1 ≤ n) (hm : n ≤ 35184372088829) :
    Calls Try.prog 32 #[v] w fun e w' => e = .returned (.int .i64 (cmpR q 0)) ∧ Below w.heap.size w w' := by
  obtain ⟨N0, A1, k1, c1, B1, k2, d1, rfl⟩ := hv.letters
  have HP : As (∀ W, Below w.heap.size w W → Calls Try.prog 53 #[.agg #[.bool N0, .slice A1 k1 c1, .slice B1 k2 d1]] W fun e w' => ∃ r s z D, e = .returned (.tuple #[r, s]) ∧ IntI S w' r z n ∧ IntV (New W) w' s (D : Nat) ∧ 0 < D ∧ (dig D).length ≤ n ∧ ((z : Int) : Rat) / ((D : Nat) : Rat) = q ∧ Below W.heap.size W w') := ⟨fun W hb => rat_parts W (hv.below hb) h1 hm⟩
  clear hv
  go_enter Try.func32, Try.ntmps32
  go_wp2_with fail
  have hb1 := (Below.refl w.heap.size w).alloc (Nat.le_refl _) (Obj.cells #[.bool N0, .slice A1 k1 c1, .slice B1 k2 d1] 40)
  refine (HP.out _ hb1).mono ?_
  rintro e w3 ⟨r, s, z, D, rfl, hr, hs, hD, _, hz, hb⟩
  have hsg := sign_cmp z D hD
  rw [hz] at hsg
  replace hsg := As.mk hsg
  have hS := hb1.after (by simp) hb
  obtain ⟨N2, A2, k3, c2, rfl⟩ := hr.letters
  obtain ⟨N3, A3, k4, c3, rfl⟩ := hs.i.letters
  have HS : As (∀ o1 o2, Calls Try.prog 64 #[.agg #[.bool N2, .slice A2 k3 c2]] ((w3.alloc o1).alloc o2) fun e w' => e = .returned (.int .i64 z.sign) ∧ Below w.heap.size w w') := ⟨fun o1 o2 => by
    have hb2 := ((Below.refl w3.heap.size w3).alloc (Nat.le_refl _) o1).alloc (by simp) o2
    refine (int_Sign _ (hr.below hb2) (by omega)).mono ?_
    rintro e w' ⟨he, hb'⟩
    have h2 := hS.after hS.size hb2
    exact ⟨he, h2.after h2.size hb'⟩⟩
  clear HP hb1 hr hs hb hS hz
  generalize z.sign = sg at *
  go_wp2_with fail
  refine (HS.out _ _).mono ?_
  rintro e w5 ⟨rfl, hb5⟩
  go_wp2_with fail
  go_ret
  exact ⟨ret_int hsg.out, hb5⟩

set_option maxHeartbeats 8000000 in
set_option maxRecDepth 100000 in
theorem fit_whole (w : World) (x : Int) (hx0 : -9223372036854775808 ≤ x) (hx1 : x ≤ 9223372036854775807) :
    Calls Try.prog 63 #[.int .i64 x] w fun e w' => ∃ r, e = .returned r ∧ RatV (New w) w' r ((x : Rat) / ((1 : Int) : Rat)) ∧ Below w.heap.size w w' := by
  obtain ⟨q, hq⟩ : ∃ q, ((x : Rat) / ((1 : Int) : Rat)) = q := ⟨_, rfl⟩
  replace hq := As.mk hq
  rw [hq.out]
  go_enter Try.func63, Try.ntmps63
  go_wp2_with fail
  obtain ⟨W, hW⟩ : ∃ W, (w.alloc (Obj.cells #[Value.bool false, Value.slice none 0 0, Value.slice none 0 0] 40)) = W := ⟨_, rfl⟩
  have hB : Below w.heap.size w W := by rw [← hW]; exact (Below.refl _ _).alloc (by simp) _
  have hs : W.heap.size = w.heap.size + 1 := by rw [← hW]; simp
  have hR : Res W w.heap.size 3 := ⟨by omega, fun i hi => by
    subst hW
    rcases (by omega : i = 0 ∨ i = 1 ∨ i = 2) with rfl | rfl | rfl
    · exact ⟨⟨.bool false, by simp [go_sem]⟩, by simp [go_sem]⟩
    · exact ⟨⟨.slice none 0 0, by simp [go_sem]⟩, by simp [go_sem]⟩
    · exact ⟨⟨.slice none 0 0, by simp [go_sem]⟩, by simp [go_sem]⟩⟩
  rw [hW]
  clear hW
  have hS := And.intro hB hR
  clear hB hR
  refine (rat_Of _ x 1 hx0 hx1 (by omega) (by omega)).mono ?_
  rintro e w3 ⟨r, rfl, hL, hb⟩
  rw [hq.out] at hL
  obtain ⟨A7, c7, B7, d7, rfl⟩ := hL.slice
  have hst := As.mk (fun o x y z => RatV.stored (x := x) (y := y) (z := z) (show w.heap.size ≤ w.heap.size by omega) hS.2 hL |>.below ((Below.refl _ _).alloc (Nat.le_refl _) o))
  have hl0 : w.heap.size < w3.heap.size := by have := hb.size; omega
  replace hS := keep_last hS hb
  have hB9 : As (∀ o x y z, Below w.heap.size w ((((w3.setCell ⟨w.heap.size, 0, none⟩ x).setCell ⟨w.heap.size, 1, none⟩ y).setCell ⟨w.heap.size, 2, none⟩ z).alloc o)) := ⟨fun o x y z => (((hS.1.setCell (Nat.le_refl _) _).setCell (Nat.le_refl _) _).setCell (Nat.le_refl _) _).alloc (by simp [World.setCell]; omega) o⟩
  have hne : w.heap.size ≠ w3.heap.size := by omega
  obtain ⟨⟨⟨x4, h4⟩, f4⟩, ⟨⟨x5, h5⟩, f5⟩, ⟨x6, h6⟩, f6⟩ := And.intro (hS.2.2 0 (by omega)) (And.intro (hS.2.2 1 (by omega)) (hS.2.2 2 (by omega)))
  clear hS hL hb hs
  go_wp2_with fail
  refine bodyPost_ret (v := .agg #[.bool (decide (q.num < 0)), .slice A7 (sz q.num) c7, .slice B7 (dig q.den).length d7]) (by simp [results, Try.results63, go_sem, h4, h5, h6, hl0]) rfl ?_
  exact ⟨_, rfl, hst.out _ _ _ _, hB9.out _ _ _ _⟩

end Go.Proofs.Ytdbpjnjgjmfomaa

/- Cells and blocks that stay as they are. -/
namespace Go.Proofs.Ytdbpjnjgjmfomaa
open Go.RowKit

theorem cell_below {W W' : World} {a : Addr} {v : Value} (h : W.cell? a = some v) (hb : Below W.heap.size W W') : W'.cell? a = some v :=
  (World.cell?_of_block (hb.block _ (World.block_lt_of_cell? W _ h))).trans h
theorem below_own {G : Nat} {w W W' : World} (hG : G ≤ w.heap.size) (h : Below G w W) (hb : Below W.heap.size W W') : Below G w W' := h.after (Nat.le_trans hG h.size) hb
end Go.Proofs.Ytdbpjnjgjmfomaa

/- Lists of ratios as they come in. -/
namespace Go.Proofs.Ytdbpjnjgjmfomaa
open Go.RowKit

/-- A ratio as it lies in memory: its sign, the limbs of its numerator, of its denominator. -/
abbrev Rt := Bool × List Int × List Int
def rt0 : Rt := (false, [], [])
/-- What it reads as. -/
def qe (e : Rt) : Rat := ((iv e.1 e.2.1 : Int) : Rat) / ((nv e.2.2 : Nat) : Rat)
/-- From A on lie these ratios. -/
def RsV (S : Nat → Prop) (w : World) (A : Option Addr) (es : List Rt) : Prop :=
  es ≠ [] → ∃ ad, A = some ad ∧ S ad.block ∧ ∀ i, i < es.length → ∃ U c B d, w.cell? (ad.add (i * 3)) = some (.bool (es.getD i rt0).1) ∧ w.cell? ⟨(ad.add (i * 3)).block, (ad.add (i * 3)).off + 1, none⟩ = some (.slice U (es.getD i rt0).2.1.length c) ∧ w.cell? ⟨(ad.add (i * 3)).block, (ad.add (i * 3)).off + 2, none⟩ = some (.slice B (es.getD i rt0).2.2.length d) ∧
    NumV S w (.slice U (es.getD i rt0).2.1.length c) (es.getD i rt0).2.1 ∧ NumV S w (.slice B (es.getD i rt0).2.2.length d) (es.getD i rt0).2.2
theorem RsV.step {S : Nat → Prop} {w w1 : World} {A : Option Addr} {es : List Rt} (h : RsV S w A es) (hm : ∀ k, S k → k < w.heap.size → w1.heap[k]? = w.heap[k]?) : RsV S w1 A es := fun hn => by
  obtain ⟨ad, e, hs, hc⟩ := h hn
  refine ⟨ad, e, hs, fun i hi => ?_⟩
  obtain ⟨U, c, B, d, h0, h1, h2, h3, h4⟩ := hc i hi
  have lift : ∀ (a : Addr) v, a.block = ad.block → w.cell? a = some v → w1.cell? a = some v := fun a v ha hv =>
    (World.cell?_of_block (hm _ (by rw [ha]; exact hs) (World.block_lt_of_cell? w _ hv))).trans hv
  exact ⟨U, c, B, d, lift _ _ (add_block _ _) h0, lift _ _ (add_block _ _) h1, lift _ _ (add_block _ _) h2, h3.step hm, h4.step hm⟩
theorem RsV.below {S : Nat → Prop} {w w1 : World} {A : Option Addr} {es : List Rt} (h : RsV S w A es) (hb : Below w.heap.size w w1) : RsV S w1 A es := h.step (fun k _ hk => hb.block k hk)
/-- One of them. -/
theorem RsV.at {S : Nat → Prop} {w : World} {A : Option Addr} {es : List Rt} (h : RsV S w A es) (i : Nat) (hi : i < es.length) : ∃ ad, A = some ad ∧ ∃ N U k c B m d, w.cell? (ad.add (i * 3)) = some (.bool N) ∧ w.cell? ⟨(ad.add (i * 3)).block, (ad.add (i * 3)).off + 1, none⟩ = some (.slice U k c) ∧ w.cell? ⟨(ad.add (i * 3)).block, (ad.add (i * 3)).off + 2, none⟩ = some (.slice B m d) ∧ k = (es.getD i rt0).2.1.length ∧ m = (es.getD i rt0).2.2.length ∧
    RatI S w (.agg #[.bool N, .slice U k c, .slice B m d]) (qe (es.getD i rt0)) (max (es.getD i rt0).2.1.length (es.getD i rt0).2.2.length) := by
  obtain ⟨ad, e, hs, hc⟩ := h (fun e => by rw [e] at hi; simp at hi)
  obtain ⟨U, c, B, d, h0, h1, h2, h3, h4⟩ := hc i hi
  exact ⟨ad, e, _, U, _, c, B, _, d, h0, h1, h2, rfl, rfl, _, _, _, _, _, rfl, h3, h4, rfl, Nat.le_max_left _ _, Nat.le_max_right _ _⟩
theorem RsV.addr {S : Nat → Prop} {w : World} {A : Option Addr} {es : List Rt} (h : RsV S w A es) (h0 : 0 < es.length) : ∃ ad, A = some ad := by
  obtain ⟨ad, e, _⟩ := h (fun e => by rw [e] at h0; simp at h0)
  exact ⟨ad, e⟩
def badE (e : Rt) : Bool := decide (qe e < 0) || decide (1 < qe e)
/-- The first error of a list of probabilities. -/
def ckE (es : List Rt) : Int := if 20 < es.length then 5 else if es.any badE then 3 else 0
/-- Short enough to be reckoned with, where there are at most 20. -/
def Short (es : List Rt) : Prop := es.length ≤ 20 → ∀ i, i < es.length → (es.getD i rt0).2.1.length ≤ 1000 ∧ (es.getD i rt0).2.2.length ≤ 1000
theorem one_fr : ((1 : Int) : Rat) / ((1 : Int) : Rat) = 1 := by grind
theorem rz_on : rz 1 ≤ 2 := by rw [← one_fr]; exact rz_small 1 1 (by decide) (by decide)
theorem cmpR_neg {p q : Rat} (h : p < q) : cmpR p q = -1 := by unfold cmpR; rw [if_pos h]
theorem cmpR_nonneg {p q : Rat} (h : ¬ p < q) : 0 ≤ cmpR p q := by unfold cmpR; rw [if_neg h]; split <;> omega
theorem cmpR_pos {p q : Rat} (h : q < p) : cmpR p q = 1 := by
  unfold cmpR
  rw [if_neg (Rat.not_lt.2 (Rat.le_of_lt h)), if_neg (fun e => by rw [e] at h; exact Rat.lt_irrefl h)]
theorem cmpR_nonpos {p q : Rat} (h : ¬ q < p) : cmpR p q ≤ 0 := by
  unfold cmpR
  split
  · omega
  · next h2 => rw [if_pos (Rat.le_antisymm (Rat.not_lt.1 h) (Rat.not_lt.1 h2))]; omega
end Go.Proofs.Ytdbpjnjgjmfomaa

/- The law's own helper heavy over chapter 31. -/
namespace Go.Proofs.Ytdbpjnjgjmfomaa
open Go.RowKit

def longE (e : Rt) : Bool := decide (2 < e.2.1.length) || decide (2 < e.2.2.length)
def heavyB (es : List Rt) : Bool := if 20 < es.length then false else es.any longE || decide (8 < es.length)
theorem any_dropR (es : List Rt) (f : Rt → Bool) (k : Nat) (hk : k < es.length) : (es.drop k).any f = (f (es.getD k rt0) || (es.drop (k + 1)).any f) := by
  rw [List.drop_eq_getElem_cons hk, List.any_cons, List.getD_eq_getElem?_getD, List.getElem?_eq_getElem hk]; rfl

set_option maxHeartbeats 8000000 in
set_option maxRecDepth 100000 in
theorem law_heavy {S : Nat → Prop} {A : Option Addr} {c : Nat} {es : List Rt} (w : World) (hv : RsV S w A es) (hm : es.length ≤ 140737488351232) :
    Calls Try.prog 30 #[.slice A es.length c] w fun e w' => e = .returned (.bool (heavyB es)) ∧ Below w.heap.size w w' := by
  obtain ⟨n, hn⟩ : ∃ n, es.length = n := ⟨_, rfl⟩
  by_cases h20 : 20 < n
  · have R : As (heavyB es = false) := ⟨by unfold heavyB; rw [hn, if_pos h20]⟩
    have b1 : (20 < (n : Int)) = True := eq_true (by omega)
    rw [hn] at hm ⊢
    clear hv hn
    go_enter Try.func30, Try.ntmps30
    go_wp2_with fail
    go_ret
    exact ⟨by rw [R.out]; rfl, Below.refl _ _⟩
  · have R : As (heavyB es = (es.any longE || decide (8 < n))) := ⟨by unfold heavyB; rw [hn, if_neg h20]⟩
    have b1 : (20 < (n : Int)) = False := eq_false (by omega)
    have hdr : As (∀ k, k < n → (es.drop k).any longE = (longE (es.getD k rt0) || (es.drop (k + 1)).any longE)) := ⟨fun k hk => any_dropR es longE k (by omega)⟩
    have hdn : As ((es.drop n).any longE = false) := ⟨by rw [← hn]; simp⟩
    have hat : As (∀ W, Below w.heap.size w W → ∀ k, k < n → ∃ ad, A = some ad ∧ ∃ U l c B m d, W.cell? ⟨(ad.add (k * 3)).block, (ad.add (k * 3)).off + 1, none⟩ = some (.slice U l c) ∧ W.cell? ⟨(ad.add (k * 3)).block, (ad.add (k * 3)).off + 2, none⟩ = some (.slice B m d) ∧ longE (es.getD k rt0) = (decide (2 < l) || decide (2 < m))) := ⟨fun W hb k hk => by
      obtain ⟨ad, e, N, U, l, c, B, m, d, h0, h1, h2, e1, e2, _⟩ := (hv.below hb).at k (by omega)
      exact ⟨ad, e, U, l, c, B, m, d, h1, h2, by unfold longE; rw [e1, e2]⟩⟩
    rw [hn] at hm ⊢
    clear hv hn
    go_enter Try.func30, Try.ntmps30
    go_wp2_with fail
    go_loopw [3] (fun v3 wr => ∃ k : Nat, k ≤ n ∧ v3 = .int .i64 k ∧ As (es.any longE = (es.drop k).any longE) ∧ Below w.heap.size w wr) (fun v3 _ => (n - intOf v3).toNat)
    case atStart => exact ⟨0, by omega, rfl, ⟨by simp⟩, Below.refl _ _⟩
    case round =>
      obtain ⟨k, hk, rfl, hI, hB⟩ := hrel
      by_cases hlt : k < n
      · have bk : ((k : Int) < (n : Int)) = True := eq_true (by omega)
        have bk0 : (0 ≤ (k : Int)) = True := eq_true (by omega)
        obtain ⟨ad, rfl, U, l, c', B, m, d, h1, h2, hE⟩ := hat.out wr hB k hlt
        have hst := As.mk (hdr.out k hlt)
        rw [hE] at hst
        clear hE hdr hat
        by_cases hl : 2 < l
        · have R2 : As (heavyB es = true) := ⟨by rw [R.out, hI.out, hst.out, decide_eq_true hl]; rfl⟩
          have c1 : (2 < (l : Int)) = True := eq_true (by omega)
          clear R hI hst
          go_wp2_with fail
          go_ret
          exact ⟨by rw [R2.out]; rfl, hB⟩
        · have c1 : (2 < (l : Int)) = False := eq_false (by omega)
          by_cases hm' : 2 < m
          · have R2 : As (heavyB es = true) := ⟨by rw [R.out, hI.out, hst.out, decide_eq_true hm']; simp⟩
            have c2 : (2 < (m : Int)) = True := eq_true (by omega)
            clear R hI hst
            go_wp2_with fail
            go_ret
            exact ⟨by rw [R2.out]; rfl, hB⟩
          · have c2 : (2 < (m : Int)) = False := eq_false (by omega)
            have R2 : As (es.any longE = (es.drop (k + 1)).any longE) := ⟨by rw [hI.out, hst.out, decide_eq_false hl, decide_eq_false hm']; rfl⟩
            clear R hI hst
            go_wp2_with fail
            go_roundw
            case rel => exact ⟨k + 1, by omega, by go_num, R2, hB⟩
            case measure => simp [intOf]; omega
      · obtain rfl : n = k := by omega
        have bk : ((n : Int) < (n : Int)) = False := eq_false (by omega)
        have R2 : As (heavyB es = decide (8 < n)) := ⟨by rw [R.out, hI.out, hdn.out]; rfl⟩
        clear R hI hdn hdr hat
        go_wp2_with fail
        go_ret
        exact ⟨by rw [R2.out]; simp; omega, hB⟩
end Go.Proofs.Ytdbpjnjgjmfomaa

/- fit.check; fit.Null where it refuses. -/
namespace Go.Proofs.Ytdbpjnjgjmfomaa
open Go.RowKit

set_option maxHeartbeats 8000000 in
set_option maxRecDepth 100000 in
theorem fit_check {S : Nat → Prop} {A : Option Addr} {c : Nat} {es : List Rt} (w : World) (hv : RsV S w A es) (hm : es.length ≤ 140737488351232) (hl : Short es) :
    Calls Try.prog 62 #[.slice A es.length c] w fun e w' => e = .returned (.int .i64 (ckE es)) ∧ Below w.heap.size w w' := by
  obtain ⟨n, hn⟩ : ∃ n, es.length = n := ⟨_, rfl⟩
  obtain ⟨E, hE⟩ : ∃ E, ckE es = E := ⟨_, rfl⟩
  have hE1 : E = if 20 < n then 5 else if es.any badE then 3 else 0 := by rw [← hE, ← hn]; rfl
  have HR : As (∀ W, Below w.heap.size w W → ∀ k, k < n → ∃ ad, A = some ad ∧ ∃ N U k' c B m d, W.cell? (ad.add (k * 3)) = some (.bool N) ∧ W.cell? ⟨(ad.add (k * 3)).block, (ad.add (k * 3)).off + 1, none⟩ = some (.slice U k' c) ∧ W.cell? ⟨(ad.add (k * 3)).block, (ad.add (k * 3)).off + 2, none⟩ = some (.slice B m d) ∧ (n ≤ 20 → RatI S W (.agg #[.bool N, .slice U k' c, .slice B m d]) (qe (es.getD k rt0)) 1000)) := ⟨fun W hb k hk => by
    obtain ⟨ad, e, N, U, k', c, B, m, d, h0, h1, h2, _, _, h3⟩ := (hv.below hb).at k (by omega)
    refine ⟨ad, e, N, U, k', c, B, m, d, h0, h1, h2, fun h20 => h3.le ?_⟩
    have := hl (by omega) k (by omega)
    omega⟩
  have hdr : As (∀ k, k < n → (es.drop k).any badE = (badE (es.getD k rt0) || (es.drop (k + 1)).any badE)) := ⟨fun k hk => any_drop es badE rt0 k (by omega)⟩
  have hdn : As ((es.drop n).any badE = false) := ⟨by rw [← hn]; simp⟩
  rw [hn] at hm ⊢
  rw [hE]
  clear hv hl hE hn
  go_enter Try.func62, Try.ntmps62
  by_cases hbig : 20 < n
  · have hE2 := As.mk (show E = 5 by rw [hE1, if_pos hbig])
    clear hE1
    go_wp2_with fail
    go_ret
    exact ⟨ret_int hE2.out.symm, Below.refl _ _⟩
  rw [if_neg hbig] at hE1
  replace hE1 := As.mk hE1
  go_wp2_with fail
  go_loopw [4, 10] (fun _ v10 wr => ∃ k : Nat, k ≤ n ∧ v10 = .int .i64 k ∧ As (es.any badE = (es.drop k).any badE) ∧ Below w.heap.size w wr) (fun _ v10 _ => (n - intOf v10).toNat)
  case atStart => exact ⟨0, by omega, rfl, ⟨by simp⟩, Below.refl _ _⟩
  case round =>
    obtain ⟨k, hk, rfl, hI, hd⟩ := hrel
    by_cases hlt : k < n
    · obtain ⟨ad, hA, ppN, ppA, ppk, ppc, ppB, ppm, ppd, h0, h1, h2, hI0⟩ := HR.out _ hd k hlt
      subst hA
      replace hI0 := hI0 (by omega)
      have hst := As.mk (hdr.out k hlt)
      have hbe : As (badE (es.getD k rt0) = (decide (qe (es.getD k rt0) < 0) || decide (1 < qe (es.getD k rt0)))) := ⟨rfl⟩
      generalize qe (es.getD k rt0) = q at *
      have p1 := eq_true (show 0 ≤ (k : Int) by omega)
      have p2 := eq_true (show (k : Int) < (n : Int) by omega)
      have hb6 := (Below.refl wr.heap.size wr).alloc (Nat.le_refl _) (Obj.cells #[.bool ppN, .slice ppA ppk ppc, .slice ppB ppm ppd] 40)
      go_wp2_with fail
      obtain ⟨W6, hW6⟩ : ∃ W6, wr.alloc (Obj.cells #[.bool ppN, .slice ppA ppk ppc, .slice ppB ppm ppd] 40) = W6 := ⟨_, rfl⟩
      rw [hW6] at hb6 ⊢
      have c0 : W6.cell? ⟨wr.heap.size, 0, none⟩ = some (.bool ppN) := by subst hW6; simp [go_sem]
      have c1 : W6.cell? ⟨wr.heap.size, 1, none⟩ = some (.slice ppA ppk ppc) := by subst hW6; simp [go_sem]
      have c2 : W6.cell? ⟨wr.heap.size, 2, none⟩ = some (.slice ppB ppm ppd) := by subst hW6; simp [go_sem]
      have hB := hd.after hd.size hb6
      replace hI0 := hI0.below hb6
      clear hW6 hb6 h0 h1 h2
      have hdr6 := (Below.refl W6.heap.size W6).drew
      replace c0 := cell_below c0 hdr6
      replace c1 := cell_below c1 hdr6
      replace c2 := cell_below c2 hdr6
      replace hI0 := hI0.below hdr6
      replace hB := hB.after hB.size hdr6
      clear hdr6
      generalize wr.heap.size = g4 at *
      have hsz : 1000 + rz 1 ≤ 35184372088828 := by have := rz_on; omega
      by_cases hneg : q < 0
      · obtain ⟨s, hs⟩ : ∃ s, cmpR q 0 = s := ⟨_, rfl⟩
        have hs0 : (s < 0) = True := eq_true (by rw [← hs, cmpR_neg hneg]; omega)
        replace hs := As.mk hs
        have ht : As (cmpR q 1 = cmpR q 1) := ⟨rfl⟩
        have R := As.mk (show E = 3 by rw [hE1.out, hI.out, hst.out, hbe.out, decide_eq_true hneg]; rfl)
        clear hE1 hI hst hbe hneg
        go_region_with (first
          | (go_at_call 32; refine (rat_Sign _ hI0 (by omega) (by omega)).mono ?_; rw [hs.out]; rintro e w7 ⟨rfl, hb⟩; have c0' := cell_below c0 hb; have c1' := cell_below c1 hb; have c2' := cell_below c2 hb; have hI1 := hI0.below hb; have hB7 := hB.after hB.size hb; clear hb)
          | (go_at_call 63; refine (fit_whole _ 1 (by omega) (by omega)).mono ?_; rw [one_fr]; rintro e w8 ⟨r8, rfl, hW, hb⟩; have c0'' := cell_below c0' hb; have c1'' := cell_below c1' hb; have c2'' := cell_below c2' hb; have hI2 := hI1.below hb; have hB8 := hB7.after hB7.size hb; clear hb)
          | (go_at_call 33; refine (rat_Cmp _ hI2 hW.i (by omega) (rz_pos _) hsz).mono ?_; rw [ht.out]; rintro e w9 ⟨rfl, hb⟩; have hB9 := hB8.after hB8.size hb))
        all_goals
          go_wp2_with fail
          go_ret
          exact ⟨ret_int R.out.symm, hB7⟩
      · obtain ⟨s, hs⟩ : ∃ s, cmpR q 0 = s := ⟨_, rfl⟩
        have hs0 : (s < 0) = False := eq_false (by rw [← hs]; exact Int.not_lt.2 (cmpR_nonneg hneg))
        replace hs := As.mk hs
        by_cases hbig1 : 1 < q
        · have ht : As (cmpR q 1 = 1) := ⟨cmpR_pos hbig1⟩
          have R := As.mk (show E = 3 by rw [hE1.out, hI.out, hst.out, hbe.out, decide_eq_true hbig1, Bool.or_true]; rfl)
          clear hE1 hI hst hbe hneg hbig1
          go_region_with (first
            | (go_at_call 32; refine (rat_Sign _ hI0 (by omega) (by omega)).mono ?_; rw [hs.out]; rintro e w7 ⟨rfl, hb⟩; have c0' := cell_below c0 hb; have c1' := cell_below c1 hb; have c2' := cell_below c2 hb; have hI1 := hI0.below hb; have hB7 := hB.after hB.size hb; clear hb)
            | (go_at_call 63; refine (fit_whole _ 1 (by omega) (by omega)).mono ?_; rw [one_fr]; rintro e w8 ⟨r8, rfl, hW, hb⟩; have c0'' := cell_below c0' hb; have c1'' := cell_below c1' hb; have c2'' := cell_below c2' hb; have hI2 := hI1.below hb; have hB8 := hB7.after hB7.size hb; clear hb)
            | (go_at_call 33; refine (rat_Cmp _ hI2 hW.i (by omega) (rz_pos _) hsz).mono ?_; rw [ht.out]; rintro e w9 ⟨rfl, hb⟩; have hB9 := hB8.after hB8.size hb))
          all_goals
            go_wp2_with fail
            go_ret
            exact ⟨ret_int R.out.symm, hB9⟩
        · obtain ⟨u, ht⟩ : ∃ u, cmpR q 1 = u := ⟨_, rfl⟩
          have ht0 : (0 < u) = False := eq_false (by rw [← ht]; exact Int.not_lt.2 (cmpR_nonpos hbig1))
          replace ht := As.mk ht
          have R : As (es.any badE = (es.drop (k + 1)).any badE) := ⟨by rw [hI.out, hst.out, hbe.out, decide_eq_false hneg, decide_eq_false hbig1]; rfl⟩
          clear hI hst hbe hneg hbig1
          go_region_with (first
            | (go_at_call 32; refine (rat_Sign _ hI0 (by omega) (by omega)).mono ?_; rw [hs.out]; rintro e w7 ⟨rfl, hb⟩; have c0' := cell_below c0 hb; have c1' := cell_below c1 hb; have c2' := cell_below c2 hb; have hI1 := hI0.below hb; have hB7 := hB.after hB.size hb; clear hb)
            | (go_at_call 63; refine (fit_whole _ 1 (by omega) (by omega)).mono ?_; rw [one_fr]; rintro e w8 ⟨r8, rfl, hW, hb⟩; have c0'' := cell_below c0' hb; have c1'' := cell_below c1' hb; have c2'' := cell_below c2' hb; have hI2 := hI1.below hb; have hB8 := hB7.after hB7.size hb; clear hb)
            | (go_at_call 33; refine (rat_Cmp _ hI2 hW.i (by omega) (rz_pos _) hsz).mono ?_; rw [ht.out]; rintro e w9 ⟨rfl, hb⟩; have hB9 := hB8.after hB8.size hb))
          all_goals
            go_wp2_with fail
            go_roundw
            case rel => exact ⟨k + 1, by omega, by go_num, R, hB9⟩
            case measure => simp [intOf]; omega
    · obtain rfl : k = n := by omega
      have R := As.mk (show E = 0 by rw [hE1.out, hI.out, hdn.out]; rfl)
      clear hE1 hI
      go_wp2_with fail
      go_ret
      exact ⟨ret_int R.out.symm, hd⟩

set_option maxHeartbeats 8000000 in
set_option maxRecDepth 100000 in
theorem fit_Null_no {S : Nat → Prop} {A : Option Addr} {c : Nat} {es : List Rt} (w : World) (hv : RsV S w A es) (hm : es.length ≤ 140737488351232) (hl : Short es) (hE : ckE es ≠ 0) :
    Calls Try.prog 31 #[.slice A es.length c] w fun e w' => e = .returned (.tuple #[.slice none 0 0, .int .i64 (ckE es)]) ∧ Below w.heap.size w w' := by
  have HC := As.mk (fit_check (c := c) w hv hm hl)
  generalize ckE es = E at *
  have hEb : (E == 0) = false := beq_eq_false_iff_ne.2 hE
  clear hv hm hl
  generalize es.length = n at *
  go_enter Try.func31, Try.ntmps31
  go_wp2_with fail
  refine HC.out.mono ?_
  rintro e w1 ⟨rfl, hb⟩
  go_wp2_with fail
  go_ret2
  exact ⟨rfl, hb⟩
end Go.Proofs.Ytdbpjnjgjmfomaa
