/- The program's ratios, second part: lowest terms. -/
import Derived.Test.YtdbpjnjgjmfomaaRat1
namespace Go.Proofs.Ytdbpjnjgjmfomaa
open Go.RowKit

theorem low_num (z : Int) (D : Nat) (hD : 0 < D) : (((z : Int) : Rat) / ((D : Nat) : Rat)).num = z / ((z.natAbs.gcd D : Nat) : Int) := by
  rw [← Rat.mkRat_eq_div, Rat.num_mkRat, if_neg (by omega), Nat.gcd_comm]
theorem low_den (z : Int) (D : Nat) (hD : 0 < D) : (((z : Int) : Rat) / ((D : Nat) : Rat)).den = D / z.natAbs.gcd D := by
  rw [← Rat.mkRat_eq_div, Rat.den_mkRat, if_neg (by omega), Nat.gcd_comm]
theorem low_zero (z : Int) (D : Nat) (h : z = 0 ∨ D = 0) : (((z : Int) : Rat) / ((D : Nat) : Rat)) = 0 := by
  rcases h with rfl | rfl
  · simp [Rat.div_def, Rat.zero_mul]
  · simp [Rat.div_def, Rat.mul_zero]
theorem iv_div (neg : Bool) (l : List Int) (g : Nat) (hg : g ∣ nv l) : iv neg (dig (nv l / g)) = iv neg l / (g : Int) := by
  unfold iv; rw [nv_dig]
  cases neg
  · simp
  · simp only [if_true]
    rw [Int.neg_ediv_of_dvd (Int.natCast_dvd_natCast.2 hg), Int.natCast_ediv]

theorem RatV.stored {w w1 w2 : World} {b : Nat} {q : Rat} {v x y z : Value} (hb : w.heap.size ≤ b) (hR : Res w1 b 3) (h : RatV (New w1) w2 v q) :
    RatV (New w) (((w2.setCell ⟨b, 0, none⟩ x).setCell ⟨b, 1, none⟩ y).setCell ⟨b, 2, none⟩ z) v q := by
  obtain ⟨u, d, e, hu, hd⟩ := h
  have := hR.1
  have hp : ¬ New w1 b := by show ¬ w1.heap.size ≤ b; omega
  exact ⟨u, d, e, (((hu.stored hp _).stored hp _).stored hp _).mono (fun k hk _ => by have : w1.heap.size ≤ k := hk; show w.heap.size ≤ k; omega), (((hd.stored hp _).stored hp _).stored hp _).mono (fun k hk _ => by have : w1.heap.size ≤ k := hk; show w.heap.size ≤ k; omega)⟩

set_option maxHeartbeats 4000000 in
set_option maxRecDepth 100000 in
theorem rat_lowest {S T : Nat → Prop} {v u : Value} {z : Int} {t : List Int} {m : Nat} (w : World) (hv : IntI S w v z m) (hu : NumV T w u t) (hm : m ≤ 35184372088829) (hm' : t.length ≤ 35184372088829) :
    Calls Try.prog 54 #[v, u] w fun e w' => ∃ r, e = .returned r ∧ RatV (New w) w' r (((z : Int) : Rat) / ((nv t : Nat) : Rat)) ∧ Below w.heap.size w w' := by
  obtain ⟨neg, x, a, rfl, ha, rfl, hla⟩ := hv
  obtain ⟨A, c, rfl⟩ := ha.slice
  obtain ⟨B, d, rfl⟩ := hu.slice
  have hna := iv_natAbs neg a
  obtain ⟨q, hq⟩ : ∃ q, (((iv neg a : Int) : Rat) / ((nv t : Nat) : Rat)) = q := ⟨_, rfl⟩
  have hz0 : nv a = 0 ∨ nv t = 0 → q = 0 := fun h => by rw [← hq]; exact low_zero _ _ (h.imp (fun h => by omega) id)
  have hgd : Nat.gcd (nv a) (nv t) ∣ nv a := Nat.gcd_dvd_left _ _
  have hzn : 0 < nv t → q.num = iv neg (dig (nv a / Nat.gcd (nv a) (nv t))) := fun h => by rw [← hq, low_num _ _ h, hna, iv_div _ _ _ hgd]
  have hzd : 0 < nv t → q.den = nv t / Nat.gcd (nv a) (nv t) := fun h => by rw [← hq, low_den _ _ h, hna]
  have hlg : (dig (Nat.gcd (nv a) (nv t))).length ≤ 35184372088829 ∨ (nv a = 0 ∨ nv t = 0) := by
    rcases Nat.eq_zero_or_pos (nv a) with h | h
    · exact .inr (.inl h)
    · left; have := dig_len_mono (Nat.le_of_dvd h hgd); have := dig_len_le ha.1; omega
  have hgp : 0 < nv a → 0 < Nat.gcd (nv a) (nv t) := fun h => Nat.gcd_pos_of_pos_left _ h
  have hlq : (dig (nv a / Nat.gcd (nv a) (nv t))).length ≤ 35184372088830 := by
    have := dig_len_mono (Nat.div_le_self (nv a) (Nat.gcd (nv a) (nv t))); have := dig_len_le ha.1; omega
  rw [hq]
  generalize hG : Nat.gcd (nv a) (nv t) = G at *
  replace hG := As.mk hG
  replace hq := As.mk hq
  replace hna := As.mk hna
  replace hz0 := As.mk hz0
  replace hzn := As.mk hzn
  replace hzd := As.mk hzd
  replace hlg := As.mk hlg
  replace hgp := As.mk hgp
  go_enter Try.func54, Try.ntmps54
  go_wp2_with fail
  obtain ⟨W, hW⟩ : ∃ W, ((w.alloc (Obj.cells #[Value.bool neg, Value.slice A a.length c] 38)).alloc (Obj.cells #[Value.bool false, Value.slice none 0 0, Value.slice none 0 0] 40)) = W := ⟨_, rfl⟩
  have hs : W.heap.size = w.heap.size + 2 := by rw [← hW]; simp
  have hB : Below w.heap.size w W := by rw [← hW]; exact (((Below.refl _ _).alloc (by simp <;> omega) _).alloc (by simp <;> omega) _)
  have cc0 : W.cell? ⟨w.heap.size, 0, none⟩ = some (.bool neg) := by subst hW; simp [go_sem]
  have cc1 : W.cell? ⟨w.heap.size, 1, none⟩ = some (.slice A a.length c) := by subst hW; simp [go_sem]
  have d0 : W.cell? ⟨w.heap.size + 1, 0, none⟩ = some (.bool false) := by subst hW; simp [go_sem]
  have f0 : W.frozen? ⟨w.heap.size + 1, 0, none⟩ = false := by subst hW; simp [go_sem]
  have d1 : W.cell? ⟨w.heap.size + 1, 1, none⟩ = some (.slice none 0 0) := by subst hW; simp [go_sem]
  have f1 : W.frozen? ⟨w.heap.size + 1, 1, none⟩ = false := by subst hW; simp [go_sem]
  have d2 : W.cell? ⟨w.heap.size + 1, 2, none⟩ = some (.slice none 0 0) := by subst hW; simp [go_sem]
  have f2 : W.frozen? ⟨w.heap.size + 1, 2, none⟩ = false := by subst hW; simp [go_sem]
  have hR : Res W (w.heap.size + 1) 3 := ⟨by omega, fun i hi => by
    rcases (by omega : i = 0 ∨ i = 1 ∨ i = 2) with rfl | rfl | rfl
    · exact ⟨⟨_, d0⟩, f0⟩
    · exact ⟨⟨_, d1⟩, f1⟩
    · exact ⟨⟨_, d2⟩, f2⟩⟩
  rw [hW]
  clear hW
  have hS : (W.cell? ⟨w.heap.size, 0, none⟩ = some (.bool neg) ∧ W.cell? ⟨w.heap.size, 1, none⟩ = some (.slice A a.length c) ∧ Below w.heap.size w W ∧ Res W (w.heap.size + 1) 3) := ⟨cc0, cc1, hB, hR⟩
  clear d0 d1 d2 f0 f1 f2
  refine (nat_Gcd _ (ha.below hB) (hu.below hB) (by omega) (by omega)).mono ?_
  rintro e w1 ⟨g, rfl, hg, hb1⟩
  rw [hG.out] at hg
  replace hS := keep_and (keep_and keep_last) hS hb1
  clear cc0 cc1 hB hR
  obtain ⟨cc0, cc1, hB, hR⟩ := id hS
  go_wp2_with fail
  refine (nat_Bits _ (hu.below hB) (by omega)).mono ?_
  rintro e w2 ⟨k, rfl, hk, ⟨m2, rfl⟩⟩
  replace hS := keep_and (keep_and keep_last) hS ((Below.refl _ _).drewsN m2)
  replace hg := hg.drewN m2
  clear cc0 cc1 hB hR hb1
  generalize w1.drewN m2 = W2 at *
  obtain ⟨cc0, cc1, hB, hR⟩ := id hS
  rcases Nat.eq_zero_or_pos k with rfl | hkp
  · have ht0 := As.mk (hk.1 rfl)
    clear hk
    go_wp2_with fail
    refine (rat_zero _).mono ?_
    rintro e w3 ⟨r, rfl, hr, hb3⟩
    have hst := As.mk (fun x y z => RatV.stored (x := x) (y := y) (z := z) (show w.heap.size ≤ w.heap.size + 1 by omega) hS.2.2.2 hr)
    replace hS := keep_and (keep_and keep_last) hS hb3
    obtain ⟨A3, c3, B3, d3, rfl⟩ := hr.slice
    obtain ⟨⟨⟨x4, h4⟩, f4⟩, ⟨⟨x5, h5⟩, f5⟩, ⟨x6, h6⟩, f6⟩ := And.intro (hS.2.2.2.2 0 (by omega)) (And.intro (hS.2.2.2.2 1 (by omega)) (hS.2.2.2.2 2 (by omega)))
    have hB := As.mk hS.2.2.1
    clear hS hr hb3
    go_wp2_with fail
    refine bodyPost_ret (v := .agg #[.bool (decide ((0 : Rat).num < 0)), .slice A3 (sz (0 : Rat).num) c3, .slice B3 (dig (0 : Rat).den).length d3]) (by simp [results, Try.results54, go_sem, h4, h5, h6]) rfl ?_
    rw [show q = 0 from hz0.out (.inr ht0.out)]
    exact ⟨_, rfl, hst.out _ _ _, ((hB.out.setCell (by simp) _).setCell (by simp) _).setCell (by simp) _⟩
  have hk0 : ((k : Int) == 0) = false := beq_eq_false_iff_ne.2 (by omega)
  have htp : 0 < nv t := Nat.pos_of_ne_zero (fun h => by have := hk.2 h; omega)
  replace htp := As.mk htp
  replace hk := As.mk hk
  go_wp2_with fail
  refine (nat_Bits _ (ha.below hB) (by omega)).mono ?_
  rintro e w2 ⟨k2, rfl, hk2, ⟨m3, rfl⟩⟩
  replace hS := keep_and (keep_and keep_last) hS ((Below.refl _ _).drewsN m3)
  replace hg := hg.drewN m3
  clear cc0 cc1 hB hR
  generalize W2.drewN m3 = W3 at *
  obtain ⟨cc0, cc1, hB, hR⟩ := id hS
  rcases Nat.eq_zero_or_pos k2 with rfl | hkp2
  · have ha0 := As.mk (hk2.1 rfl)
    clear hk2
    go_wp2_with fail
    refine (rat_zero _).mono ?_
    rintro e w3 ⟨r, rfl, hr, hb3⟩
    have hst := As.mk (fun x y z => RatV.stored (x := x) (y := y) (z := z) (show w.heap.size ≤ w.heap.size + 1 by omega) hS.2.2.2 hr)
    replace hS := keep_and (keep_and keep_last) hS hb3
    obtain ⟨A3, c3, B3, d3, rfl⟩ := hr.slice
    obtain ⟨⟨⟨x4, h4⟩, f4⟩, ⟨⟨x5, h5⟩, f5⟩, ⟨x6, h6⟩, f6⟩ := And.intro (hS.2.2.2.2 0 (by omega)) (And.intro (hS.2.2.2.2 1 (by omega)) (hS.2.2.2.2 2 (by omega)))
    have hB := As.mk hS.2.2.1
    clear hS hr hb3
    go_wp2_with fail
    refine bodyPost_ret (v := .agg #[.bool (decide ((0 : Rat).num < 0)), .slice A3 (sz (0 : Rat).num) c3, .slice B3 (dig (0 : Rat).den).length d3]) (by simp [results, Try.results54, go_sem, h4, h5, h6]) rfl ?_
    rw [show q = 0 from hz0.out (.inl ha0.out)]
    exact ⟨_, rfl, hst.out _ _ _, ((hB.out.setCell (by simp) _).setCell (by simp) _).setCell (by simp) _⟩
  have hRW := hR
  have hk20 : ((k2 : Int) == 0) = false := beq_eq_false_iff_ne.2 (by omega)
  have hap : 0 < nv a := Nat.pos_of_ne_zero (fun h => by have := hk2.2 h; omega)
  have hGp := hgp.out hap
  have hlG : (dig G).length ≤ 35184372088829 := hlg.out.resolve_right (by have := htp.out; omega)
  have hGn := nv_dig G
  have hqn := hzn.out htp.out
  have hqd := hzd.out htp.out
  replace hap := As.mk hap
  replace hk2 := As.mk hk2
  go_wp2_with fail
  refine (nat_DivMod _ (ha.below hB) hg (by omega) (by omega) (by rw [hGn]; exact hGp)).mono ?_
  rintro e w3 ⟨q1, r1, rfl, hq1, hr1, hb3⟩
  rw [hGn] at hq1
  replace hS := keep_and (keep_and keep_last) hS hb3
  replace hg := hg.below hb3
  clear cc0 cc1 hB hR hr1
  have hzW : W3.heap.size ≤ w3.heap.size := hb3.size
  clear hb3
  obtain ⟨cc0, cc1, hB, hR⟩ := id hS
  go_wp2_with fail
  refine (nat_DivMod _ (hu.below hB) hg (by omega) (by omega) (by rw [hGn]; exact hGp)).mono ?_
  rintro e w4 ⟨q2, r2, rfl, hq2, hr2, hb4⟩
  rw [hGn] at hq2
  replace hq1 := hq1.below hb4
  replace hS := keep_and (keep_and keep_last) hS hb4
  have hzW2 : w3.heap.size ≤ w4.heap.size := hb4.size
  clear cc0 cc1 hB hR hr2 hb4 hg
  obtain ⟨cc0, cc1, hB, hR⟩ := id hS
  go_wp2_with fail
  refine (int_Make _ hq1 hlq).mono ?_
  rintro e w5 ⟨v5, rfl, ⟨u5, rfl, hn5⟩, hb5⟩
  have hrat : RatV (New W3) w5 (.agg #[.bool (decide (iv neg (dig (nv a / G)) < 0)), u5, q2]) q :=
    ⟨u5, q2, by rw [hqn], by rw [hqn]; exact hn5.mono (fun k hk _ => by have : w4.heap.size ≤ k := hk; show W3.heap.size ≤ k; omega), by rw [hqd]; exact (hq2.below hb5).mono (fun k hk _ => by have : w3.heap.size ≤ k := hk; show W3.heap.size ≤ k; omega)⟩
  have hst := As.mk (fun x y z => RatV.stored (x := x) (y := y) (z := z) (show w.heap.size ≤ w.heap.size + 1 by omega) hRW hrat)
  replace hS := keep_and (keep_and keep_last) hS hb5
  obtain ⟨A3, c3, rfl⟩ := hn5.slice
  obtain ⟨B3, d3, rfl⟩ := hq2.slice
  obtain ⟨⟨⟨x4, h4⟩, f4⟩, ⟨⟨x5, h5⟩, f5⟩, ⟨x6, h6⟩, f6⟩ := And.intro (hS.2.2.2.2 0 (by omega)) (And.intro (hS.2.2.2.2 1 (by omega)) (hS.2.2.2.2 2 (by omega)))
  have hB := As.mk hS.2.2.1
  clear hS hrat hn5 hq2 hq1 cc0 cc1 hR hRW hqn hqd hb5
  go_wp2_with fail
  refine bodyPost_ret (v := .agg #[.bool (decide (iv neg (dig (nv a / G)) < 0)), .slice A3 (dig (iv neg (dig (nv a / G))).natAbs).length c3, .slice B3 (dig (nv t / G)).length d3]) (by simp [results, Try.results54, go_sem, h4, h5, h6]) rfl ?_
  exact ⟨_, rfl, hst.out _ _ _, ((hB.out.setCell (by simp) _).setCell (by simp) _).setCell (by simp) _⟩
end Go.Proofs.Ytdbpjnjgjmfomaa
