/- Joined texts: Nat10, Gcd, Int1, Int2, Int3, Int4, Int5, Int6, Rat1, Rat2, Rat3, Rat4, Rat5. -/
import Derived.Test.YtdbpjnjgjmfomaaJFitModel1
import Derived.StillTailTactics
import Derived.Deep.RegionHeld3
/- The program's natural numbers, tenth part: DivMod, Knuth's algorithm. -/
namespace Go.Proofs.Ytdbpjnjgjmfomaa
open Go.RowKit

theorem add_zero_off (g j : Nat) : (⟨g, 0, none⟩ : Addr).add j = ⟨g, j, none⟩ := by unfold Addr.add; split <;> simp_all
theorem guess_ex {u2 u1 u0 v1 v0 : Int} (h2 : 0 ≤ u2) (h1 : 0 ≤ u1) (h0 : 0 ≤ u0) (g1 : 2147483648 ≤ v1) (g0 : 0 ≤ v0) : ∃ d, GuessP u2 u1 u0 v1 v0 d := by
  obtain ⟨V, hV⟩ : ∃ V, v1 * 4294967296 + v0 = V := ⟨_, rfl⟩
  obtain ⟨U, hU⟩ : ∃ U, (u2 * 4294967296 + u1) * 4294967296 + u0 = U := ⟨_, rfl⟩
  have e := Int.mul_ediv_add_emod U V
  have e0 := Int.emod_nonneg U (show V ≠ 0 by omega)
  have e1 := Int.emod_lt_of_pos U (show 0 < V by omega)
  have q0 := Int.ediv_nonneg (show 0 ≤ U by omega) (show 0 ≤ V by omega)
  generalize U / V = Q at *
  generalize U % V = R at *
  unfold GuessP
  rw [hV, hU]
  by_cases h : Q ≤ 4294967295
  · refine ⟨Q, q0, h, by rw [Int.mul_comm]; omega, fun q _ hle => ?_⟩
    by_cases hq : q ≤ Q
    · exact hq
    · exfalso
      have := Int.mul_le_mul_of_nonneg_right (show Q + 1 ≤ q by omega) (show 0 ≤ V by omega)
      rw [Int.add_mul, Int.one_mul, Int.mul_comm] at this
      omega
  · refine ⟨4294967295, by omega, by omega, ?_, fun q hq _ => hq⟩
    have := Int.mul_le_mul_of_nonneg_right (show (4294967295 : Int) ≤ Q by omega) (show 0 ≤ V by omega)
    rw [Int.mul_comm] at e
    omega
theorem guess_unique {u2 u1 u0 v1 v0 d d' : Int} (h : GuessP u2 u1 u0 v1 v0 d) (h' : GuessP u2 u1 u0 v1 v0 d') : d = d' := by
  have a := h.2.2.2 d' h'.2.1 h'.2.2.1
  have b := h'.2.2.2 d h.2.1 h.2.2.1
  omega
theorem nat_guess_fix {u2 u1 u0 v1 v0 d : Int} (w : World) (hd : GuessP u2 u1 u0 v1 v0 d) (h2 : 0 ≤ u2) (h2' : u2 ≤ v1) (h1 : 0 ≤ u1) (h1' : u1 < 4294967296) (h0 : 0 ≤ u0) (h0' : u0 < 4294967296) (g1 : 2147483648 ≤ v1) (g1' : v1 < 4294967296) (g0 : 0 ≤ v0) (g0' : v0 < 4294967296) :
    Calls Try.prog 116 #[.int .u32 u2, .int .u32 u1, .int .u32 u0, .int .u32 v1, .int .u32 v0] w fun e w' => e = .returned (.int .u64 d) ∧ ∃ n, w' = w.drewN n :=
  (nat_guess w h2 h2' h1 h1' h0 h0' g1 g1' g0 g0').mono fun _ _ ⟨_, he, hp, hw⟩ => ⟨by rw [he, guess_unique hp hd], hw.out⟩
/-- The shift that brings the highest limb up. -/
theorem shift_top {y : Int} (h0 : 0 < y) (h1 : y < 4294967296) : ∃ s : Nat, (32 - (Lib.bitLen y.toNat : Int)) = s ∧ s < 32 ∧ 2147483648 ≤ y * 2 ^ s ∧ (y + 1) * 2 ^ s ≤ 4294967296 := by
  obtain ⟨b1, b2, b3, b4⟩ := bitLen_bounds y.toNat (by omega) (by omega)
  refine ⟨32 - Lib.bitLen y.toNat, by omega, by omega, ?_, ?_⟩
  · have := Nat.mul_le_mul_right (2 ^ (32 - Lib.bitLen y.toNat)) b3
    rw [← Nat.pow_add, show Lib.bitLen y.toNat - 1 + (32 - Lib.bitLen y.toNat) = 31 from by omega] at this
    have e : ((2 ^ (32 - Lib.bitLen y.toNat) : Nat) : Int) = (2 : Int) ^ (32 - Lib.bitLen y.toNat) := by rw [Int.natCast_pow]; rfl
    rw [← e]
    have e2 : ((y.toNat * 2 ^ (32 - Lib.bitLen y.toNat) : Nat) : Int) = y * ((2 ^ (32 - Lib.bitLen y.toNat) : Nat) : Int) := by rw [Int.natCast_mul]; congr 1; omega
    have e3 : (2 : Nat) ^ 31 = 2147483648 := by decide
    omega
  · have := Nat.mul_le_mul_right (2 ^ (32 - Lib.bitLen y.toNat)) (show y.toNat + 1 ≤ 2 ^ Lib.bitLen y.toNat by omega)
    rw [← Nat.pow_add, show Lib.bitLen y.toNat + (32 - Lib.bitLen y.toNat) = 32 from by omega] at this
    have e : ((2 ^ (32 - Lib.bitLen y.toNat) : Nat) : Int) = (2 : Int) ^ (32 - Lib.bitLen y.toNat) := by rw [Int.natCast_pow]; rfl
    rw [← e]
    have e2 : (((y.toNat + 1) * 2 ^ (32 - Lib.bitLen y.toNat) : Nat) : Int) = (y + 1) * ((2 ^ (32 - Lib.bitLen y.toNat) : Nat) : Int) := by rw [Int.natCast_mul]; congr 1; omega
    have e3 : (2 : Nat) ^ 32 = 4294967296 := by decide
    omega

set_option maxHeartbeats 8000000 in
set_option maxRecDepth 100000 in
theorem nat_DivMod_knuth {S T : Nat → Prop} {v u : Value} {a b : List Int} {n : Nat} (w : World) (ha : NumV S w v a) (hb : NumV T w u b) (hm : a.length ≤ 35184372088830) (hm' : b.length ≤ 35184372088830) (hle : nv b ≤ nv a) (h1 : (dig (nv b)).length = n + 2) :
    Calls Try.prog 89 #[v, u] w fun e w' => ∃ q r, e = .returned (.tuple #[q, r, .bool true]) ∧ NumV (New w) w' q (dig (nv a / nv b)) ∧ NumV (New w) w' r (dig (nv a % nv b)) ∧ Below w.heap.size w w' := by
  obtain ⟨hla, A, c, rfl, hc, hr⟩ := id ha
  obtain ⟨hlb, B, c', rfl, hc', hr'⟩ := id hb
  have HL : (dig (nv a)).length ≤ 35184372088830 := Nat.le_trans (dig_len_le hla) hm
  have HL' : (dig (nv b)).length ≤ 35184372088830 := Nat.le_trans (dig_len_le hlb) hm'
  have HA := ha.trim
  have HB := hb.trim
  have hC := cmpI_nonneg hle
  have hC' := (cmpI_le (nv a) (nv b)).1
  obtain ⟨C, hCC⟩ : ∃ C, cmpI (nv a) (nv b) = C := ⟨_, rfl⟩
  rw [hCC] at hC hC'
  replace hCC := As.mk hCC
  obtain ⟨M, hML⟩ : ∃ M, (dig (nv a)).length = M + (n + 2) := ⟨(dig (nv a)).length - (n + 2), by have := dig_len_mono hle; omega⟩
  obtain ⟨y0, y1⟩ := dig_last_pos h1
  obtain ⟨bd, hBB, hcb⟩ := HB.at (n + 1) (by omega)
  subst hBB
  obtain ⟨Y, hY⟩ : ∃ Y, (dig (nv b)).getD (n + 1) 0 = Y := ⟨_, rfl⟩
  rw [hY] at y0 y1 hcb
  obtain ⟨s, hs, hs32, hsa, hsb⟩ := shift_top y0 y1
  have hp := two_pow_bounds s hs32
  have hstart := As.mk (fun U W => dm_start (U := U) (W := W) (p := 2 ^ s) (Lim_dig (nv a)) (Lim_dig (nv b)) hML h1 (by omega) hp.2 (by rw [hY]; exact hsa) (by rw [hY]; exact hsb))
  rw [add_succ] at hcb
  rw [h1] at HB HL'
  rw [hML] at HA HL
  replace h1 := As.mk h1
  replace hML := As.mk hML
  replace hp := As.mk hp
  clear hY hle hsa hsb
  go_enter Try.func89, Try.ntmps89
  go_wp2_with fail
  refine (nat_trim _ ha (by omega)).mono ?_
  rintro e w' ⟨rfl, ⟨m, rfl⟩⟩
  go_wp2_with fail
  refine (nat_trim _ (hb.drewN m) (by omega)).mono ?_
  rintro e w' ⟨rfl, ⟨m2, rfl⟩⟩
  rw [h1.out, hML.out]
  go_wp2_with fail
  refine (nat_Cmp _ (by rw [← hML.out] at HA ⊢; exact HA.drewN _) (by rw [← h1.out] at HB ⊢; exact HB.drewN _) (by rw [hML.out]; omega) (by rw [h1.out]; omega)).mono ?_
  rintro e w' ⟨rfl, ⟨m3, rfl⟩⟩
  rw [nv_dig, nv_dig, hCC.out]
  go_wp2_with fail
  refine (bits_LeadingZeros32 _ _ (by omega) (by omega)).mono ?_
  rintro e w' ⟨rfl, rfl⟩
  rw [hs]
  go_wp2_with fail
  refine (nat_shiftUp (n := s) _ (by rw [← hML.out] at HA ⊢; exact HA.drewN _) (by rw [hML.out]; omega) hs32).mono ?_
  rintro e w1 ⟨g, U0, rfl, hg, hU0, lenU, limU, valU, hb1⟩
  subst hg
  rw [show (w.drewN (m + m2 + m3)).heap.size = w.heap.size from rfl] at hU0 hb1 ⊢
  rw [hML.out] at hU0 ⊢
  go_wp2_with fail
  have HB1 := (HB.drewN (m + m2 + m3)).below hb1
  refine (nat_shiftUp (n := s) _ (by rw [← h1.out] at HB1 ⊢; exact HB1) (by rw [h1.out]; omega) hs32).mono ?_
  rintro e w2 ⟨g2, W, rfl, hg2, hW, lenW, limW, valW, hb2⟩
  subst hg2
  rw [h1.out] at hW ⊢
  have hsz1 : w.heap.size < w1.heap.size := by
    obtain ⟨g, cap, e, _, h⟩ := hU0.form (by omega)
    injection e with e; injection e with e; injection e with e
    omega
  have hsz2 : w1.heap.size < w2.heap.size := by
    obtain ⟨g, cap, e, _, h⟩ := hW.form (by omega)
    injection e with e; injection e with e; injection e with e
    omega
  obtain ⟨lenV, valV, topV, hD0⟩ := hstart.out U0 W lenU limU valU lenW limW valW
  have limV := limW.take (n + 2)
  have HV := (hW.num limW).take (n + 2) (n + 2 + 1) (by rw [lenW, h1.out]; omega) (by omega)
  replace HV := HV.mono (T := fun k => k = w1.heap.size) (fun k hk _ => by have := hk.2.2; simpa [Value.ownBlock] using this.symm)
  have hdone := As.mk (fun U Q h => dm_done (U0 := U0) (V := W.take (n + 2)) (U := U) (Q := Q) (m := M) (X := nv a) (Y := nv b) (p := 2 ^ s) h limV (Nat.two_pow_pos s) (by rw [valU, val_dig, Int.natCast_pow]; rfl) (by rw [valV, val_dig, Int.natCast_pow]; rfl) (by
    rcases Nat.eq_zero_or_pos (nv b) with h0 | h0
    · have := h1.out; rw [h0, dig_zero] at this; simp at this
    · exact h0))
  obtain ⟨V, hVe⟩ : ∃ V, W.take (n + 2) = V := ⟨_, rfl⟩
  rw [hVe] at lenV valV topV hD0 limV HV hdone
  have hb02 : Below w.heap.size w w2 := (((Below.refl _ _).drewsN _).after (by simp) hb1).after (by omega) hb2
  replace hU0 := hU0.below hb2
  clear hstart lenU valU lenW limW valW hW HB1 hb1 hb2 hVe ha hb hr hr' hcb HA HB hs
  replace lenV := As.mk lenV
  replace valV := As.mk valV
  replace topV := As.mk topV
  replace limV := As.mk limV
  replace hD0 := As.mk hD0
  have hmk : ∀ W, (Instr.makeSlice 36 (.int .i64 ((M : Int) + 1)) (.int .i64 ((M : Int) + 1))).run Try.prog W = .ok (.slice (some ⟨W.heap.size, 0, none⟩) (M + 1) (M + 1)) (W.alloc (.cells (madeCells #[.int .u32 0] (M + 1)) 100)) :=
    fun W => make_nums 36 Try.underlying36 (by kernel_rfl) (M + 1) (M + 1) (by omega) (by omega) W
  go_wp2_with fail
  clear hmk
  have HQ := Own.made w2 w2.heap.size (M + 1) (Nat.le_refl _) (by omega)
  obtain ⟨N, hN⟩ : ∃ N, n + 2 = N := ⟨_, rfl⟩
  obtain ⟨L, hL⟩ : ∃ L, M + (n + 2) + 1 = L := ⟨_, rfl⟩
  rw [show ((n : Int) + 2) = (N : Int) from by omega]
  rw [hL] at hU0 ⊢
  rw [hN] at HV lenV h1 ⊢
  go_loopw [16, 17] (fun v16 _ wr => ∃ (k : Nat) (U Q : List Int), k ≤ M + 1 ∧ v16 = .int .i64 ((k : Int) - 1) ∧ As (DmInv U0 V M k U Q) ∧ Own wr w.heap.size (.slice (some ⟨w.heap.size, 0, none⟩) L L) U ∧ Own wr w2.heap.size (.slice (some ⟨w2.heap.size, 0, none⟩) (M + 1) (M + 1)) Q ∧ NumV (fun k => k = w1.heap.size) wr (.slice (some ⟨w1.heap.size, 0, none⟩) N (N + 1)) V ∧ Below w.heap.size w wr ∧ w2.heap.size < wr.heap.size) (fun v16 _ _ => (intOf v16 + 1).toNat)
  case atStart => exact ⟨M + 1, U0, _, Nat.le_refl _, val_int (by omega), hD0, hU0.below ((Below.refl _ _).alloc (Nat.le_refl _) _), HQ, HV.alloc _, hb02.alloc (by omega) _, by simp⟩
  case round =>
    clear hD0 hU0 HQ HV hb02
    obtain ⟨k, U, Q, hk, rfl, HJ, hown, hownQ, HV, hbel, hsz⟩ := hrel
    cases k with
    | zero =>
      obtain ⟨hG1, hG2⟩ := hdone.out U Q HJ.out
      have lenU : As (U.length = L) := ⟨by have := HJ.out.1; have := lenV.out; omega⟩
      have lenQ : As (Q.length = M + 1) := ⟨HJ.out.2.2.1⟩
      have hnumQ := hownQ.num HJ.out.2.2.2.1
      have hnumU := (hown.num HJ.out.2.1).take N L (by have := lenU.out; omega) (by omega)
      rw [lenV.out] at hG2
      replace hG1 := As.mk hG1
      replace hG2 := As.mk hG2
      have hlt : As ((U.take N).length = N) := ⟨by rw [List.length_take]; have := lenU.out; omega⟩
      clear hdone HJ HV
      have hQt := hnumQ.drewN 1
      have hUt := hnumU.drewN 1
      rw [← lenQ.out] at hQt ⊢
      go_wp2_with fail
      have z1 := eq_true (show 0 ≤ (N : Int) by omega)
      have z2 := eq_true (show (N : Int) ≤ (L : Int) by omega)
      have z3 := eq_true (show N ≤ L by omega)
      go_still_tail 6, (by kernel_rfl)
      still_call (nat_trim0 _ hQt (by have := lenQ.out; omega))
      repeat still_step
      refine wpStill_nil ?_
      change wpList _ _ _ _ _ (wr.drewN 1)
      go_wp2_with fail
      refine (nat_shiftDown (n := s) _ hUt (by rw [hlt.out]; omega) hs32).mono ?_
      rintro e w4 ⟨r, rfl, hr, hb4⟩
      rw [hG2.out] at hr
      have hq := (hQt.trim.below hb4).mono (T := New w) (fun q hq _ => by show w.heap.size ≤ q; omega)
      rw [hG1.out] at hq
      rw [hG1.out]
      have hsz3 := hbel.size
      go_wp2_with fail
      go_ret3
      exact ⟨_, _, rfl, hq, hr.mono (fun q hq _ => Nat.le_trans hsz3 hq), (hbel.drewsN 1).after (by simp; omega) hb4⟩
    | succ k =>
      rw [show (((k + 1 : Nat) : Int) - 1) = (k : Int) from by omega]
      have limU := HJ.out.2.1
      have lenU : As (U.length = L) := ⟨by have := HJ.out.1; have := lenV.out; omega⟩
      have lenQ : As (Q.length = M + 1) := ⟨HJ.out.2.2.1⟩
      obtain ⟨hu2, hround⟩ := dm_round (n := n) HJ.out limV.out (by rw [lenV.out, hN]) (by omega) topV.out
      obtain ⟨i2, hi2⟩ : ∃ i2, k + (n + 2) = i2 := ⟨_, rfl⟩
      obtain ⟨i1, hi1⟩ : ∃ i1, k + (n + 1) = i1 := ⟨_, rfl⟩
      obtain ⟨i0, hi0⟩ : ∃ i0, k + n = i0 := ⟨_, rfl⟩
      obtain ⟨j1, hj1⟩ : ∃ j1, n + 1 = j1 := ⟨_, rfl⟩
      have tv := topV.out
      rw [hi2, hi1, hi0, hj1] at hround
      rw [hi2, hj1] at hu2
      rw [hj1] at tv
      have b2 := limU.get i2
      have b1 := limU.get i1
      have b0 := limU.get i0
      have c1 := limV.out.get j1
      have c0 := limV.out.get n
      obtain ⟨D, hD⟩ := guess_ex b2.1 b1.1 b0.1 tv c0.1
      have hr2 := hround D hD
      have hfix := As.mk (fun W => nat_guess_fix W hD b2.1 hu2 b1.1 b1.2 b0.1 b0.2 tv c1.2 c0.1 c0.2)
      have e2 := (hown.cell i2 (by have := lenU.out; omega)).1
      have e1 := (hown.cell i1 (by have := lenU.out; omega)).1
      have e0 := (hown.cell i0 (by have := lenU.out; omega)).1
      obtain ⟨_, hg1, f1⟩ := HV.at j1 (by have := lenV.out; omega)
      injection hg1 with hg1; subst hg1
      obtain ⟨_, hg1, f0⟩ := HV.at n (by have := lenV.out; omega)
      injection hg1 with hg1; subst hg1
      rw [add_zero_off] at f1 f0
      have hD01 := guess_min hD
      replace hD := As.mk hD
      replace hr2 := As.mk hr2
      clear hround
      generalize U.getD i2 0 = u2 at *
      generalize U.getD i1 0 = u1 at *
      generalize U.getD i0 0 = u0 at *
      generalize V.getD j1 0 = v1 at *
      generalize V.getD n 0 = v0 at *
      have s2 : IntKind.i64.wrap ((k : Int) + (N : Int)) = (i2 : Int) := by rw [IntWalk.i64_in _ (by omega)]; omega
      have s1 : IntKind.i64.wrap ((i2 : Int) - 1) = (i1 : Int) := by rw [IntWalk.i64_in _ (by omega)]; omega
      have s0 : IntKind.i64.wrap ((i2 : Int) - 2) = (i0 : Int) := by rw [IntWalk.i64_in _ (by omega)]; omega
      have r1 : IntKind.i64.wrap ((N : Int) - 1) = (j1 : Int) := by rw [IntWalk.i64_in _ (by omega)]; omega
      have r0 : IntKind.i64.wrap ((N : Int) - 2) = (n : Int) := by rw [IntWalk.i64_in _ (by omega)]; omega
      have p2 := eq_true (show 0 ≤ (i2 : Int) by omega)
      have p1 := eq_true (show 0 ≤ (i1 : Int) by omega)
      have p0 := eq_true (show 0 ≤ (i0 : Int) by omega)
      have p3 := eq_true (show 0 ≤ (j1 : Int) by omega)
      have p4 := eq_true (show 0 ≤ (n : Int) by omega)
      have q2 := eq_true (show (i2 : Int) < (L : Int) by omega)
      have q1 := eq_true (show (i1 : Int) < (L : Int) by omega)
      have q0 := eq_true (show (i0 : Int) < (L : Int) by omega)
      have q3 := eq_true (show (j1 : Int) < (N : Int) by omega)
      have q4 := eq_true (show (n : Int) < (N : Int) by omega)
      replace hi2 := As.mk hi2
      replace hi1 := As.mk hi1
      replace hi0 := As.mk hi0
      replace hj1 := As.mk hj1
      go_wp2_with fail
      go_quiet ((go_at_call 116; refine Calls.quiet_of (hfix.out _)))
      clear s2 s1 s0 r1 r0 p2 p1 p0 p3 p4 q2 q1 q0 q3 q4 e2 e1 e0 f1 f0 b2 b1 b0 c1 c0 hfix hu2 tv
      go_wp2_with fail
      rw [show k + N + 1 - k = V.length + 1 from by rw [lenV.out]; omega]
      refine (nat_subtract (j := k) _ (hown.drewN nq) lenU.out.symm limU (HV.drewN nq) (by intro q hq; omega) (by have := lenU.out; have := lenV.out; omega) (by have := lenU.out; omega) hD01.1 hD01.2).mono ?_
      rintro e w4 ⟨U1, t, rfl, hown1, hsame, hseg, hg⟩
      have hr3 := As.mk (hr2.out U1 t hsame hseg)
      have lenU1 : As (U1.length = L) := ⟨by rw [hsame.1]; exact lenU.out⟩
      have limU1 := As.mk hsame.2.1
      have HV1 := (HV.drewN nq).grown hg (by intro q hq; omega)
      have hownQ1 : Own w4 w2.heap.size (.slice (some ⟨w2.heap.size, 0, none⟩) (M + 1) (M + 1)) Q := (hownQ.drewN nq).kept (fun q hq => hg.block q (by have := (World.ownsRow.lt hownQ q hq).2; simpa using this) (by intro e; injection e with e; have := (World.ownsRow.lt hownQ q hq).1; omega))
      have hbel1 : Below w.heap.size w w4 := (hbel.drewsN nq).trans ⟨hg.os, hg.tape, hg.output, hg.size, fun q hq => hg.block q (by have := hbel.size; simp; omega) (by intro e; injection e with e; omega)⟩
      have hsz4 : w2.heap.size < w4.heap.size := by have := hg.size; simp at this; omega
      have hq1 := (hownQ1.cell k (by have := lenQ.out; omega))
      have hst := As.mk (fun x => Own.store hownQ1 k x)
      clear hsame hseg hr2 hown hownQ HV hbel hg hsz limU lenU HJ
      obtain ⟨hqc, hqf⟩ := hq1
      by_cases htn : t < 0
      · obtain ⟨hD1, hr4⟩ := hr3.out.2 htn
        replace hr4 := As.mk hr4
        rw [show decide (t < 0) = true from decide_eq_true htn]
        clear htn hr3
        go_wp2_with fail
        rw [show k + N + 1 - k = V.length + 1 from by rw [lenV.out]; omega]
        refine (nat_addBack (j := k) _ hown1 lenU1.out.symm limU1.out HV1 (by intro q hq; omega) (by have := lenU1.out; have := lenV.out; omega) (by have := lenU1.out; omega)).mono ?_
        rintro e w5 ⟨U2, rfl, hown2, hsame2, hseg2, hg2⟩
        have hr5 := hr4.out U2 hsame2 hseg2
        rw [show (D - 1) % 4294967296 = D - 1 from by omega] at hr5
        replace hr5 := As.mk hr5
        have HV2 := HV1.grown hg2 (by intro q hq; omega)
        have hownQ2 : Own w5 w2.heap.size (.slice (some ⟨w2.heap.size, 0, none⟩) (M + 1) (M + 1)) Q := hownQ1.kept (fun q hq => hg2.block q (World.ownsRow.lt hownQ1 q hq).2 (by intro e; injection e with e; have := (World.ownsRow.lt hownQ1 q hq).1; omega))
        have hbel2 : Below w.heap.size w w5 := hbel1.trans ⟨hg2.os, hg2.tape, hg2.output, hg2.size, fun q hq => hg2.block q (by omega) (by intro e; injection e with e; omega)⟩
        have hsz5 : w2.heap.size < w5.heap.size := by have := hg2.size; omega
        obtain ⟨hqc, hqf⟩ := (hownQ2.cell k (by have := lenQ.out; omega))
        have hst := As.mk (fun x => Own.store hownQ2 k x)
        clear hsame2 hseg2 hr4 hown1 hownQ1 HV1 hbel1 hsz4 hg2 limU1 lenU1
        generalize Q.getD k 0 = O at *
        go_wp2_with fail
        go_roundw
        case rel => exact ⟨k, _, _, by omega, rfl, hr5, hown2.kept (fun q hq => Below.heap_setCell _ _ _ _ (by simp [Value.ownBlock] at hq; simp; omega)), hst.out _, HV2.set (by intro q hq _; simp; omega) _, hbel2.setCell (by simp; omega) _, by simpa [World.setCell] using hsz5⟩
        case measure => simp [intOf]
      · have hr4 := hr3.out.1 (by omega)
        rw [show D % 4294967296 = D from by omega] at hr4
        replace hr4 := As.mk hr4
        rw [show decide (t < 0) = false from decide_eq_false htn]
        clear htn hr3
        go_wp2_with fail
        go_roundw
        case rel => exact ⟨k, _, _, by omega, rfl, hr4, hown1.kept (fun q hq => Below.heap_setCell _ _ _ _ (by simp [Value.ownBlock] at hq; simp; omega)), hst.out _, HV1.set (by intro q hq _; simp; omega) _, hbel1.setCell (by simp; omega) _, by simpa [World.setCell] using hsz4⟩
        case measure => simp [intOf]

/-- DivMod, for a divisor that isn't 0. -/
theorem nat_DivMod {S T : Nat → Prop} {v u : Value} {a b : List Int} (w : World) (ha : NumV S w v a) (hb : NumV T w u b) (hm : a.length ≤ 35184372088830) (hm' : b.length ≤ 35184372088830) (h0 : 0 < nv b) :
    Calls Try.prog 89 #[v, u] w fun e w' => ∃ q r, e = .returned (.tuple #[q, r, .bool true]) ∧ NumV (New w) w' q (dig (nv a / nv b)) ∧ NumV (New w) w' r (dig (nv a % nv b)) ∧ Below w.heap.size w w' := by
  rcases Nat.lt_or_ge (nv a) (nv b) with h | h
  · exact nat_DivMod_less w ha hb (by omega) (by omega) h
  · rcases hn : (dig (nv b)).length with _ | _ | n
    · rw [dig_nil_iff] at hn; omega
    · exact nat_DivMod_one w ha hb (by omega) (by omega) h hn
    · exact nat_DivMod_knuth w ha hb hm hm' h hn
end Go.Proofs.Ytdbpjnjgjmfomaa

/- The program's natural numbers, last part: Gcd. -/
namespace Go.Proofs.Ytdbpjnjgjmfomaa
open Go.RowKit

set_option maxHeartbeats 4000000 in
set_option maxRecDepth 100000 in
theorem nat_Gcd {S T : Nat → Prop} {v u : Value} {a b : List Int} (w : World) (ha : NumV S w v a) (hb : NumV T w u b) (hm : a.length ≤ 35184372088830) (hm' : b.length ≤ 35184372088830) :
    Calls Try.prog 87 #[v, u] w fun e w' => ∃ r, e = .returned r ∧ NumV (New w) w' r (dig (Nat.gcd (nv a) (nv b))) ∧ Below w.heap.size w w' := by
  obtain ⟨hla, A, c, rfl, hc, hr⟩ := id ha
  obtain ⟨hlb, B, c', rfl, hc', hr'⟩ := id hb
  have HL : As ((dig (nv a)).length ≤ 35184372088830) := ⟨Nat.le_trans (dig_len_le hla) hm⟩
  have HL' : As ((dig (nv b)).length ≤ 35184372088830) := ⟨Nat.le_trans (dig_len_le hlb) hm'⟩
  go_enter Try.func87, Try.ntmps87
  go_wp2_with fail
  refine (nat_Norm _ ha (by omega)).mono ?_
  rintro e w1 ⟨v1, rfl, ho1, hb1⟩
  go_wp2_with fail
  refine (nat_Norm _ (hb.below hb1) (by omega)).mono ?_
  rintro e w2 ⟨v2, rfl, ho2, hb2⟩
  have n1 := (Own.new ho1 (Lim_dig _)).below hb2
  have n2 := (Own.new ho2 (Lim_dig _)).mono (T := New w) (fun k hk _ => Nat.le_trans hb1.size hk)
  have hb12 := hb1.after hb1.size hb2
  clear ho1 ho2 hb1 hb2 ha hb hr hr'
  go_wp2_with fail
  go_loopg [5, 6] (nv b) (fun g v5 v6 wr => ∃ X Y : Nat, NumV (New w) wr v5 (dig X) ∧ NumV (New w) wr v6 (dig Y) ∧ As (Nat.gcd X Y = Nat.gcd (nv a) (nv b) ∧ Y ≤ g ∧ (dig X).length ≤ 35184372088830 ∧ (dig Y).length ≤ 35184372088830) ∧ Below w.heap.size w wr)
  case atStart => exact ⟨nv a, nv b, n1, n2, ⟨rfl, Nat.le_refl _, HL.out, HL'.out⟩, hb12⟩
  case round =>
    clear n1 n2 hb12
    obtain ⟨X, Y, hx, hy, HI, hbel⟩ := hrel
    obtain ⟨_, A1, c1, rfl, hc1, _⟩ := id hx
    obtain ⟨_, B1, d1, rfl, hd1, _⟩ := id hy
    have hYL := HI.out.2.2.2
    obtain ⟨N, hN⟩ : ∃ N, (dig Y).length = N := ⟨_, rfl⟩
    rw [hN] at hYL hd1 ⊢
    rcases Nat.eq_zero_or_pos Y with h0 | h0
    · have : N = 0 := by rw [← hN, h0, dig_zero]; rfl
      subst this
      have hF := As.mk (show X = Nat.gcd (nv a) (nv b) by have := HI.out.1; rw [h0, Nat.gcd_zero_right] at this; exact this)
      clear HI hy hN h0
      go_wp2_with fail
      go_ret
      exact ⟨_, rfl, by rw [← hF.out]; exact hx, hbel⟩
    · have hN0 : 0 < N := by
        rcases Nat.eq_zero_or_pos N with h | h
        · rw [h, dig_nil_iff] at hN; omega
        · exact h
      have hXL := HI.out.2.2.1
      have hY := As.mk h0
      have hN' := As.mk hN
      clear hN h0
      go_wp2_with fail
      rw [← hN'.out]
      refine (nat_DivMod _ hx hy hXL (by rw [hN'.out]; exact hYL) (by rw [nv_dig]; exact hY.out)).mono ?_
      rintro e w4 ⟨q, r, rfl, hq, hr, hb4⟩
      rw [nv_dig, nv_dig] at hr
      have hy4 := hy.below hb4
      have hr4 := hr.mono (T := New w) (fun k hk _ => Nat.le_trans hbel.size hk)
      have hbel4 := hbel.after hbel.size hb4
      have HJ : As (Nat.gcd Y (X % Y) = Nat.gcd (nv a) (nv b) ∧ X % Y ≤ X % Y ∧ (dig Y).length ≤ 35184372088830 ∧ (dig (X % Y)).length ≤ 35184372088830) :=
        ⟨by rw [← HI.out.1, Nat.gcd_comm Y, ← Nat.gcd_rec, Nat.gcd_comm], Nat.le_refl _, HI.out.2.2.2, Nat.le_trans (dig_len_mono (Nat.le_of_lt (Nat.mod_lt _ hY.out))) HI.out.2.2.2⟩
      clear hx hy hq hr hb4 hbel
      go_wp2_with fail
      go_roundg (X % Y)
      case rel => exact ⟨Y, X % Y, hy4, hr4, HJ, hbel4⟩
      case measure => have := HI.out.2.1; have := Nat.mod_lt X hY.out; omega
end Go.Proofs.Ytdbpjnjgjmfomaa

/- The program's integers, first part. -/
namespace Go.Proofs.Ytdbpjnjgjmfomaa
open Go.RowKit

/-- The integer of a sign and limbs. -/
def iv (neg : Bool) (l : List Int) : Int := if neg then -(nv l : Int) else nv l
/-- A value of type api.Int that is the normal form of z. -/
def IntV (S : Nat → Prop) (w : World) (v : Value) (z : Int) : Prop := ∃ u, v = .agg #[.bool (decide (z < 0)), u] ∧ NumV S w u (dig z.natAbs)

theorem iv_natAbs (neg : Bool) (l : List Int) : (iv neg l).natAbs = nv l := by unfold iv; split <;> simp
theorem iv_neg (neg : Bool) (l : List Int) : decide (iv neg l < 0) = (neg && decide (0 < nv l)) := by
  unfold iv; cases neg <;> simp <;> omega

/-- Behind a contract: the elder cells and marks. -/
theorem bcell {W w1 : World} {n : Nat} (hb : Below W.heap.size W w1) (hn : W.heap.size = n) : (∀ b o, b < n → w1.cell? ⟨b, o, none⟩ = W.cell? ⟨b, o, none⟩) ∧ (∀ b o, b < n → w1.frozen? ⟨b, o, none⟩ = W.frozen? ⟨b, o, none⟩) := by
  subst hn
  exact ⟨fun b o h => hb.cell (p := ⟨b, o, none⟩) h, fun b o h => hb.frozen (p := ⟨b, o, none⟩) h⟩
theorem heap_size_alloc (w : World) (o : Obj) : (w.alloc o).heap.size = w.heap.size + 1 := by simp

set_option maxHeartbeats 1000000 in
theorem int_Make {S : Nat → Prop} {neg : Bool} {u : Value} {l : List Int} (w : World) (hu : NumV S w u l) (hm : l.length ≤ 35184372088830) :
    Calls Try.prog 90 #[.bool neg, u] w fun e w' => ∃ v, e = .returned v ∧ IntV (New w) w' v (iv neg l) ∧ Below w.heap.size w w' := by
  go_enter Try.func90, Try.ntmps90
  go_wp2_with fail
  refine (nat_Norm _ (hu.alloc _) (by omega)).mono ?_
  rintro e w1 ⟨v1, rfl, ho1, hb1⟩
  have hn := Own.new ho1 (Lim_dig _)
  have hlen := dig_nil_iff (nv l)
  obtain ⟨A, c, rfl⟩ := Own.slice ho1
  obtain ⟨hc, hf⟩ := bcell (n := w.heap.size + 1) hb1 (by simp)
  have hz := hb1.size
  simp only [heap_size_alloc] at hz
  have hres : ∀ b : Bool, b = (neg && decide (0 < nv l)) → IntV (New w) ((w1.setCell ⟨w.heap.size, 0, none⟩ (.bool b)).setCell ⟨w.heap.size, 1, none⟩ (.slice A (dig (nv l)).length c)) (.agg #[.bool b, .slice A (dig (nv l)).length c]) (iv neg l) := fun b hb =>
    ⟨_, by rw [iv_neg, ← hb], by
      rw [iv_natAbs]
      exact ((hn.set (by intro k hk _; simp at hk; simp; omega) _).set (by intro k hk _; simp at hk; simp; omega) _).mono (by intro k hk _; simp at hk; show w.heap.size ≤ k; omega)⟩
  replace hres := As.mk hres
  have hbel : ∀ (b : Bool) v, Below w.heap.size w ((w1.setCell ⟨w.heap.size, 0, none⟩ (.bool b)).setCell ⟨w.heap.size, 1, none⟩ v) := fun b v =>
    ((((Below.refl w.heap.size w).alloc (Nat.le_refl _) _).after (by simp) hb1).setCell (by simp) _).setCell (by simp) _
  replace hbel := As.mk hbel
  obtain ⟨N, hN⟩ : ∃ N, (dig (nv l)).length = N := ⟨_, rfl⟩
  replace hlen := As.mk hlen
  rw [hN] at hres hlen ⊢
  clear hn ho1 hb1 hN
  cases neg
  · go_wp2_with fail
    refine bodyPost_ret (v := .agg #[.bool false, .slice A N c]) (by simp [results, Try.results90, go_sem, hc]) rfl ?_
    exact ⟨_, rfl, hres.out false rfl, hbel.out _ _⟩
  · rcases Nat.eq_zero_or_pos N with h0 | h0
    · subst h0
      have he := As.mk (show nv l = 0 from hlen.out.1 rfl)
      go_wp2_with fail
      refine bodyPost_ret (v := .agg #[.bool false, .slice A 0 c]) (by simp [results, Try.results90, go_sem, hc]) rfl ?_
      exact ⟨_, rfl, hres.out false (by rw [he.out]; rfl), hbel.out _ _⟩
    · have he := As.mk (show 0 < nv l by have := hlen.out; omega)
      go_wp2_with fail
      refine bodyPost_ret (v := .agg #[.bool true, .slice A N c]) (by simp [results, Try.results90, go_sem, hc]) rfl ?_
      exact ⟨_, rfl, hres.out true (by rw [decide_eq_true he.out]; rfl), hbel.out _ _⟩
end Go.Proofs.Ytdbpjnjgjmfomaa

/- The program's integers, second part: what is held through a region that draws its order; Mul. -/
namespace Go.Proofs.Ytdbpjnjgjmfomaa
open Go.RowKit

theorem dig_len_mul (a b : Nat) : (dig (a * b)).length ≤ (dig a).length + (dig b).length := by
  apply dig_length_le
  have h1 := dig_lt a
  have h2 := dig_lt b
  rw [Nat.pow_add]
  exact Nat.mul_lt_mul'' h1 h2
/-- What lay in an elder world lies in a younger one. -/
theorem keep_cell {W W' : World} {a : Addr} {v : Value} (h : W.cell? a = some v) (hb : Below W.heap.size W W') : W'.cell? a = some v := (hb.cell (World.block_lt_of_cell? W a h)).trans h
theorem keep_end {w W W' : World} (h : Below w.heap.size w W) (hb : Below W.heap.size W W') : Below w.heap.size w W' := h.after h.size hb
theorem keep_and {W W' : World} {a : Addr} {v : Value} {p q : Prop} (hpq : p → Below W.heap.size W W' → q) (h : W.cell? a = some v ∧ p) (hb : Below W.heap.size W W') : W'.cell? a = some v ∧ q := ⟨keep_cell h.1 hb, hpq h.2 hb⟩
theorem below_drew (W : World) : Below W.heap.size W W.drew := (Below.refl _ _).drew
theorem set_cell {W : World} {a p : Addr} {v u : Value} (h : W.cell? a = some v) (hp : a.block ≠ p.block) : (W.setCell p u).cell? a = some v :=
  (World.cell?_of_block (Below.heap_setCell W p u _ hp)).trans h
theorem set_and {W : World} {a p : Addr} {v u : Value} {r q : Prop} (hpq : r → q) (h : W.cell? a = some v ∧ r) (hp : a.block ≠ p.block) : (W.setCell p u).cell? a = some v ∧ q := ⟨set_cell h.1 hp, hpq h.2⟩
theorem set_end {w W : World} {p : Addr} {u : Value} (h : Below w.heap.size w W) (hp : w.heap.size ≤ p.block) : Below w.heap.size w (W.setCell p u) := h.setCell hp u

theorem NumV.slice {S : Nat → Prop} {w : World} {v : Value} {l : List Int} (h : NumV S w v l) : ∃ A c, v = .slice A l.length c := by
  obtain ⟨_, A, c, e, _⟩ := h
  exact ⟨A, c, e⟩
/-- A result's cells: k of them in block b, writable. -/
def Res (w : World) (b k : Nat) : Prop := b < w.heap.size ∧ ∀ i, i < k → (∃ v, w.cell? ⟨b, i, none⟩ = some v) ∧ w.frozen? ⟨b, i, none⟩ = false
theorem Res.below {W W' : World} {b k : Nat} (h : Res W b k) (hb : Below W.heap.size W W') : Res W' b k :=
  ⟨Nat.lt_of_lt_of_le h.1 hb.size, fun i hi => by
    obtain ⟨⟨v, hv⟩, hf⟩ := h.2 i hi
    exact ⟨⟨v, (hb.cell (p := ⟨b, i, none⟩) h.1).trans hv⟩, (hb.frozen (p := ⟨b, i, none⟩) h.1).trans hf⟩⟩
theorem Res.set {W : World} {b k : Nat} (h : Res W b k) (p : Addr) (u : Value) : Res (W.setCell p u) b k :=
  ⟨by have := h.1; simpa [World.setCell] using this, fun i hi => by
    obtain ⟨⟨v, hv⟩, hf⟩ := h.2 i hi
    exact ⟨cell?_setCell_some hv, (World.frozen?_setCell _ _ _ _).trans hf⟩⟩
theorem keep_last {w W W' : World} {b k : Nat} (h : Below w.heap.size w W ∧ Res W b k) (hb : Below W.heap.size W W') : Below w.heap.size w W' ∧ Res W' b k := ⟨h.1.after h.1.size hb, h.2.below hb⟩
theorem set_last {w W : World} {b k : Nat} {p : Addr} {u : Value} (hp : w.heap.size ≤ p.block) (h : Below w.heap.size w W ∧ Res W b k) : Below w.heap.size w (W.setCell p u) ∧ Res (W.setCell p u) b k := ⟨h.1.setCell hp u, h.2.set p u⟩
/-- One limb of what is held, behind a store. -/
theorem set_held {W : World} {a p : Addr} {v u : Value} {r q : Prop} (hp : a.block ≠ p.block) (hpq : r → q) (h : W.cell? a = some v ∧ r) : (W.setCell p u).cell? a = some v ∧ q := ⟨set_cell h.1 hp, hpq h.2⟩

theorem IntV.stored {w w1 w2 : World} {b : Nat} {z : Int} {u x y : Value} (hb : w.heap.size ≤ b) (hR : Res w1 b 2) (h : NumV (New w1) w2 u (dig z.natAbs)) (_hb2 : Below w1.heap.size w1 w2) :
    IntV (New w) ((w2.setCell ⟨b, 0, none⟩ x).setCell ⟨b, 1, none⟩ y) (.agg #[.bool (decide (z < 0)), u]) z := by
  have := hR.1
  refine ⟨u, rfl, ((h.set (by intro k hk _; simp at hk; simp; omega) _).set (by intro k hk _; simp at hk; simp; omega) _).mono ?_⟩
  intro k hk _; simp at hk; show w.heap.size ≤ k; omega
theorem iv_mul (na nb : Bool) (a b : List Int) : iv na a * iv nb b = iv (!na == nb) (dig (nv a * nv b)) := by
  unfold iv
  rw [nv_dig]
  cases na <;> cases nb <;> simp [Int.mul_neg, Int.neg_mul]

set_option maxHeartbeats 1000000 in
theorem int_Mul {S T : Nat → Prop} {na nb : Bool} {u v : Value} {a b : List Int} (w : World) (hu : NumV S w u a) (hv : NumV T w v b) (hm : a.length + b.length ≤ 35184372088830) :
    Calls Try.prog 56 #[.agg #[.bool na, u], .agg #[.bool nb, v]] w fun e w' => ∃ r, e = .returned r ∧ IntV (New w) w' r (iv na a * iv nb b) ∧ Below w.heap.size w w' := by
  have hL : (dig (nv a * nv b)).length ≤ 35184372088830 := by
    have := dig_len_mul (nv a) (nv b); have := dig_len_le hu.1; have := dig_len_le hv.1; omega
  go_enter Try.func56, Try.ntmps56
  go_wp2_with fail
  obtain ⟨W, hW⟩ : ∃ W, (((w.alloc (Obj.cells #[Value.bool na, u] 38)).alloc (Obj.cells #[Value.bool nb, v] 38)).alloc (Obj.cells #[Value.bool false, Value.slice none 0 0] 38)) = W := ⟨_, rfl⟩
  have hs : W.heap.size = w.heap.size + 3 := by rw [← hW]; simp
  have hB : Below w.heap.size w W := by rw [← hW]; exact (((Below.refl _ _).alloc (Nat.le_refl _) _).alloc (by simp) _).alloc (by simp; omega) _
  have c0 : W.cell? ⟨w.heap.size, 0, none⟩ = some (.bool na) := by subst hW; simp [go_sem]
  have c1 : W.cell? ⟨w.heap.size, 1, none⟩ = some u := by subst hW; simp [go_sem]
  have c2 : W.cell? ⟨w.heap.size + 1, 0, none⟩ = some (.bool nb) := by subst hW; simp [go_sem]
  have c3 : W.cell? ⟨w.heap.size + 1, 1, none⟩ = some v := by subst hW; simp [go_sem]
  have c4 : W.cell? ⟨w.heap.size + 2, 0, none⟩ = some (.bool false) := by subst hW; simp [go_sem]
  have c5 : W.cell? ⟨w.heap.size + 2, 1, none⟩ = some (.slice none 0 0) := by subst hW; simp [go_sem]
  have f4 : W.frozen? ⟨w.heap.size + 2, 0, none⟩ = false := by subst hW; simp [go_sem]
  have f5 : W.frozen? ⟨w.heap.size + 2, 1, none⟩ = false := by subst hW; simp [go_sem]
  have hR : Res W (w.heap.size + 2) 2 := ⟨by omega, fun i hi => by
    rcases (by omega : i = 0 ∨ i = 1) with rfl | rfl
    · exact ⟨⟨_, c4⟩, f4⟩
    · exact ⟨⟨_, c5⟩, f5⟩⟩
  rw [hW]
  clear hW
  clear c4 c5 f4 f5
  go_region_held3 (fun w' => w'.cell? ⟨w.heap.size, 0, none⟩ = some (.bool na) ∧ w'.cell? ⟨w.heap.size, 1, none⟩ = some u ∧ w'.cell? ⟨w.heap.size + 1, 0, none⟩ = some (.bool nb) ∧ w'.cell? ⟨w.heap.size + 1, 1, none⟩ = some v ∧ Below w.heap.size w w' ∧ Res w' (w.heap.size + 2) 2)
    ((first
      | exact (keep_and (keep_and (keep_and (keep_and keep_last)))) ⟨c0, c1, c2, c3, hB, hR⟩ (below_drew _)
      | exact (keep_and (keep_and (keep_and (keep_and keep_last)))) (by assumption) (below_drew _)
      | exact (keep_and (keep_and (keep_and (keep_and keep_last)))) (by assumption) (by assumption)
      | exact (set_held (by simp <;> omega) (set_held (by simp <;> omega) (set_held (by simp <;> omega) (set_held (by simp <;> omega) (set_last (by simp <;> omega)))))) ((set_held (by simp <;> omega) (set_held (by simp <;> omega) (set_held (by simp <;> omega) (set_held (by simp <;> omega) (set_last (by simp <;> omega)))))) (by assumption))))
    (first
      | (go_at_call 57; obtain ⟨_, _, _, _, hB1, _⟩ := ‹_ ∧ _ ∧ _ ∧ _ ∧ Below _ _ _ ∧ _›; refine (nat_Mul _ (hu.below hB1) (hv.below hB1) (by omega)).mono ?_; rintro e w1 ⟨r, rfl, hr, hb⟩)
      | (go_at_call 90; obtain ⟨_, _, _, _, hB1, hR1⟩ := ‹_ ∧ _ ∧ _ ∧ _ ∧ Below _ _ _ ∧ _›; refine (int_Make _ hr hL).mono ?_; rintro e w2 ⟨r2, rfl, ⟨u2, rfl, hr2⟩, hb2⟩; obtain ⟨A2, C2, rfl⟩ := hr2.slice; obtain ⟨⟨⟨x4, h4⟩, f4⟩, ⟨x5, h5⟩, f5⟩ := And.intro ((hR1.below hb2).2 0 (by omega)) ((hR1.below hb2).2 1 (by omega))))
  go_wp2_with fail
  refine bodyPost_ret (v := .agg #[.bool (decide (iv (!na == nb) (dig (nv a * nv b)) < 0)), .slice A2 (dig (iv (!na == nb) (dig (nv a * nv b))).natAbs).length C2]) (by simp [results, Try.results56, go_sem, h4, h5]) rfl ?_
  rw [iv_mul]
  exact ⟨_, rfl, IntV.stored (by omega) hR1 hr2 hb2, hB1.after (by have := hR1.1; omega) hb2 |>.setCell (by simp; omega) _ |>.setCell (by simp; omega) _⟩
end Go.Proofs.Ytdbpjnjgjmfomaa

/- The program's integers, third part: what an integer value reads as; Neg, Sign, Of. -/
namespace Go.Proofs.Ytdbpjnjgjmfomaa
open Go.RowKit

/-- A value of type api.Int that reads as z, in no more than n limbs. -/
def IntI (S : Nat → Prop) (w : World) (v : Value) (z : Int) (n : Nat) : Prop := ∃ neg u l, v = .agg #[.bool neg, u] ∧ NumV S w u l ∧ iv neg l = z ∧ l.length ≤ n
/-- How many limbs the normal form has. -/
def sz (z : Int) : Nat := (dig z.natAbs).length
theorem iv_dig (z : Int) : iv (decide (z < 0)) (dig z.natAbs) = z := by
  unfold iv; rw [nv_dig]; split
  · rename_i h; have := of_decide_eq_true h; omega
  · rename_i h; have : ¬ z < 0 := fun k => h (decide_eq_true k); omega
theorem IntV.i {S : Nat → Prop} {w : World} {v : Value} {z : Int} (h : IntV S w v z) : IntI S w v z (sz z) := by
  obtain ⟨u, rfl, hn⟩ := h
  exact ⟨_, u, _, rfl, hn, iv_dig z, Nat.le_refl _⟩
theorem IntI.le {S : Nat → Prop} {w : World} {v : Value} {z : Int} {m n : Nat} (h : IntI S w v z m) (hmn : m ≤ n) : IntI S w v z n := by
  obtain ⟨neg, u, l, e, hn, hz, hl⟩ := h
  exact ⟨neg, u, l, e, hn, hz, by omega⟩
theorem IntI.step {S : Nat → Prop} {w w1 : World} {v : Value} {z : Int} {n : Nat} (h : IntI S w v z n) (hm : ∀ k, S k → k < w.heap.size → w1.heap[k]? = w.heap[k]?) : IntI S w1 v z n := by
  obtain ⟨neg, u, l, e, hn, hz⟩ := h
  exact ⟨neg, u, l, e, hn.step hm, hz⟩
theorem IntI.below {S : Nat → Prop} {w w1 : World} {v : Value} {z : Int} {n : Nat} (h : IntI S w v z n) (hb : Below w.heap.size w w1) : IntI S w1 v z n := h.step (fun k _ hk => hb.block k hk)
theorem IntI.mono {S T : Nat → Prop} {w : World} {v : Value} {z : Int} {n : Nat} (h : IntI S w v z n) (hm : ∀ k, S k → k < w.heap.size → T k) : IntI T w v z n := by
  obtain ⟨neg, u, l, e, hn, hz⟩ := h
  exact ⟨neg, u, l, e, hn.mono hm, hz⟩
theorem IntI.all {S : Nat → Prop} {w : World} {v : Value} {z : Int} {n : Nat} (h : IntI S w v z n) : IntI All w v z n := h.mono (fun _ _ _ => trivial)
theorem IntV.step {S : Nat → Prop} {w w1 : World} {v : Value} {z : Int} (h : IntV S w v z) (hm : ∀ k, S k → k < w.heap.size → w1.heap[k]? = w.heap[k]?) : IntV S w1 v z := by
  obtain ⟨u, e, hn⟩ := h
  exact ⟨u, e, hn.step hm⟩
theorem IntV.below {S : Nat → Prop} {w w1 : World} {v : Value} {z : Int} (h : IntV S w v z) (hb : Below w.heap.size w w1) : IntV S w1 v z := h.step (fun k _ hk => hb.block k hk)
theorem IntV.mono {S T : Nat → Prop} {w : World} {v : Value} {z : Int} (h : IntV S w v z) (hm : ∀ k, S k → k < w.heap.size → T k) : IntV T w v z := by
  obtain ⟨u, e, hn⟩ := h
  exact ⟨u, e, hn.mono hm⟩
theorem iv_sign (neg : Bool) (l : List Int) : (iv neg l).natAbs = nv l := iv_natAbs neg l
theorem sz_le {neg : Bool} {l : List Int} (h : Lim l) : sz (iv neg l) ≤ l.length := by unfold sz; rw [iv_natAbs]; exact dig_len_le h
theorem IntI.sz {S : Nat → Prop} {w : World} {v : Value} {z : Int} {n : Nat} (h : IntI S w v z n) : sz z ≤ n := by
  obtain ⟨neg, u, l, _, hn, rfl, hl⟩ := h
  exact Nat.le_trans (sz_le hn.1) hl

theorem int_mul {S T : Nat → Prop} {u v : Value} {x y : Int} {m n : Nat} (w : World) (hu : IntI S w u x m) (hv : IntI T w v y n) (hm : m + n ≤ 35184372088830) :
    Calls Try.prog 56 #[u, v] w fun e w' => ∃ r, e = .returned r ∧ IntV (New w) w' r (x * y) ∧ Below w.heap.size w w' := by
  obtain ⟨na, u, a, rfl, ha, rfl, hla⟩ := hu
  obtain ⟨nb, v, b, rfl, hb, rfl, hlb⟩ := hv
  exact int_Mul w ha hb (by omega)

set_option maxHeartbeats 1000000 in
theorem int_Neg {S : Nat → Prop} {v : Value} {x : Int} {n : Nat} (w : World) (hv : IntI S w v x n) (hm : n ≤ 35184372088830) :
    Calls Try.prog 94 #[v] w fun e w' => ∃ r, e = .returned r ∧ IntV (New w) w' r (-x) ∧ Below w.heap.size w w' := by
  obtain ⟨na, u, a, rfl, ha, rfl, hla⟩ := hv
  have hiv : -(iv na a) = iv (!na) a := by unfold iv; cases na <;> simp
  rw [hiv]
  replace hiv := As.mk hiv
  obtain ⟨A, c, rfl⟩ := ha.slice
  go_enter Try.func94, Try.ntmps94
  go_wp2_with fail
  refine (int_Make _ ((ha.alloc _).alloc _) (by omega)).mono ?_
  rintro e w1 ⟨v1, rfl, ⟨u1, rfl, hn1⟩, hb1⟩
  obtain ⟨A1, c1, rfl⟩ := hn1.slice
  obtain ⟨hc, hf⟩ := bcell (n := w.heap.size + 2) hb1 (by simp)
  have hz := hb1.size
  simp only [heap_size_alloc] at hz
  have hR : Res ((w.alloc (Obj.cells #[Value.bool na, Value.slice A a.length c] 38)).alloc (Obj.cells #[Value.bool false, Value.slice none 0 0] 38)) (w.heap.size + 1) 2 := ⟨by simp, fun i hi => by
    rcases (by omega : i = 0 ∨ i = 1) with rfl | rfl
    · exact ⟨⟨.bool false, by simp [go_sem]⟩, by simp [go_sem]⟩
    · exact ⟨⟨.slice none 0 0, by simp [go_sem]⟩, by simp [go_sem]⟩⟩
  have hres := As.mk (fun x y => IntV.stored (w := w) (x := x) (y := y) (by omega) hR hn1 hb1)
  have hbel : As (∀ x y, Below w.heap.size w ((w1.setCell ⟨w.heap.size + 1, 0, none⟩ x).setCell ⟨w.heap.size + 1, 1, none⟩ y)) := ⟨fun x y =>
    (((((Below.refl w.heap.size w).alloc (Nat.le_refl _) _).alloc (by simp) _).after (by simp; omega) hb1).setCell (by simp) _).setCell (by simp) _⟩
  clear hR hn1 hb1 ha
  go_wp2_with fail
  refine bodyPost_ret (v := .agg #[.bool (decide (iv (!na) a < 0)), .slice A1 (dig (iv (!na) a).natAbs).length c1]) (by simp [results, Try.results94, go_sem, hc]) rfl ?_
  exact ⟨_, rfl, hres.out _ _, hbel.out _ _⟩

set_option maxHeartbeats 1000000 in
theorem int_Sign {S : Nat → Prop} {v : Value} {x : Int} {n : Nat} (w : World) (hv : IntI S w v x n) (hm : n ≤ 35184372088830) :
    Calls Try.prog 64 #[v] w fun e w' => e = .returned (.int .i64 x.sign) ∧ Below w.heap.size w w' := by
  obtain ⟨na, u, a, rfl, ha, rfl, hla⟩ := hv
  obtain ⟨A, c, rfl⟩ := ha.slice
  have hs : (iv na a).sign = if nv a = 0 then 0 else if na = true then -1 else 1 := by
    unfold iv
    rcases Nat.eq_zero_or_pos (nv a) with h | h
    · rw [h]; simp
    · rw [if_neg (show ¬ nv a = 0 by omega)]
      cases na
      · simp only [Bool.false_eq_true, if_false]; exact Int.sign_eq_one_of_pos (show 0 < (nv a : Int) by omega)
      · simp only [if_true]; exact Int.sign_eq_neg_one_of_neg (show -(nv a : Int) < 0 by omega)
  generalize (iv na a).sign = s at *
  replace hs := As.mk hs
  go_enter Try.func64, Try.ntmps64
  go_wp2_with fail
  refine (nat_Bits _ (ha.alloc _) (by omega)).mono ?_
  rintro e w1 ⟨k, rfl, hk, ⟨m, rfl⟩⟩
  rcases Nat.eq_zero_or_pos k with rfl | hp
  · have hs2 := As.mk (show s = 0 by rw [hs.out, if_pos (hk.1 rfl)])
    clear hs
    go_wp2_with fail
    go_ret
    exact ⟨ret_int hs2.out.symm, ((Below.refl _ _).alloc (Nat.le_refl _) _).drewsN _⟩
  · have hs2 := As.mk (show s = if na = true then -1 else 1 by rw [hs.out, if_neg (show ¬ nv a = 0 from fun h => by have := hk.2 h; omega)])
    clear hs
    have hk0 : ((k : Int) == 0) = false := beq_eq_false_iff_ne.2 (by omega)
    replace hk := As.mk hk
    cases na
    · go_wp2_with fail
      go_ret
      exact ⟨ret_int (by rw [hs2.out]; rfl), by repeat (first | exact (Below.refl _ _).alloc (Nat.le_refl _) _ | apply Below.drewsN)⟩
    · go_wp2_with fail
      go_ret
      exact ⟨ret_int (by rw [hs2.out]; rfl), by repeat (first | exact (Below.refl _ _).alloc (Nat.le_refl _) _ | apply Below.drewsN)⟩
end Go.Proofs.Ytdbpjnjgjmfomaa

/- The program's integers, fourth part: Add, Sub, Of, Cmp. -/
namespace Go.Proofs.Ytdbpjnjgjmfomaa
open Go.RowKit

theorem iv_add_same (n : Bool) (a b : List Int) : iv n a + iv n b = iv n (dig (nv a + nv b)) := by
  unfold iv; rw [nv_dig]; cases n
  · simp
  · simp only [if_true, Int.natCast_add]; omega
theorem iv_add_ge {m n : Bool} {a b : List Int} (hmn : (m == n) = false) (h : nv b ≤ nv a) : iv m a + iv n b = iv m (dig (nv a - nv b)) := by
  unfold iv; rw [nv_dig]
  cases m <;> cases n <;> simp at hmn ⊢ <;> omega
theorem iv_add_lt {m n : Bool} {a b : List Int} (hmn : (m == n) = false) (h : nv a ≤ nv b) : iv m a + iv n b = iv n (dig (nv b - nv a)) := by
  rw [Int.add_comm]; exact iv_add_ge (by cases m <;> cases n <;> simp_all) h
theorem dig_len_add (a b : Nat) : (dig (a + b)).length ≤ max (dig a).length (dig b).length + 1 := by
  apply dig_length_le
  have h1 := dig_lt a
  have h2 := dig_lt b
  have h3 : 4294967296 ^ (dig a).length ≤ 4294967296 ^ max (dig a).length (dig b).length := Nat.pow_le_pow_right (by omega) (Nat.le_max_left _ _)
  have h4 : 4294967296 ^ (dig b).length ≤ 4294967296 ^ max (dig a).length (dig b).length := Nat.pow_le_pow_right (by omega) (Nat.le_max_right _ _)
  rw [Nat.pow_succ]
  omega

theorem bcell_le {W w1 : World} {n : Nat} (hb : Below W.heap.size W w1) (hn : n ≤ W.heap.size) : (∀ b o, b < n → w1.cell? ⟨b, o, none⟩ = W.cell? ⟨b, o, none⟩) ∧ (∀ b o, b < n → w1.frozen? ⟨b, o, none⟩ = W.frozen? ⟨b, o, none⟩) :=
  ⟨fun b o h => hb.cell (p := ⟨b, o, none⟩) (Nat.lt_of_lt_of_le h hn), fun b o h => hb.frozen (p := ⟨b, o, none⟩) (Nat.lt_of_lt_of_le h hn)⟩

set_option maxHeartbeats 2000000 in
theorem int_Add {S T : Nat → Prop} {v u : Value} {x y : Int} {m n : Nat} (w : World) (hu : IntI S w v x m) (hv : IntI T w u y n) (hm : m ≤ 35184372088829) (hm' : n ≤ 35184372088829) :
    Calls Try.prog 55 #[v, u] w fun e w' => ∃ r, e = .returned r ∧ IntV (New w) w' r (x + y) ∧ Below w.heap.size w w' := by
  obtain ⟨na, u, a, rfl, hu, rfl, hla⟩ := hu
  obtain ⟨nb, v, b, rfl, hv, rfl, hlb⟩ := hv
  obtain ⟨A, c, rfl⟩ := hu.slice
  obtain ⟨A2, c2, rfl⟩ := hv.slice
  have hL : (dig (nv a + nv b)).length ≤ 35184372088830 := by
    have := dig_len_add (nv a) (nv b); have := dig_len_le hu.1; have := dig_len_le hv.1; omega
  have hL1 : ∀ k, (dig (nv a - k)).length ≤ 35184372088830 := fun k => by
    have := dig_len_mono (show nv a - k ≤ nv a by omega); have := dig_len_le hu.1; omega
  have hL2 : ∀ k, (dig (nv b - k)).length ≤ 35184372088830 := fun k => by
    have := dig_len_mono (show nv b - k ≤ nv b by omega); have := dig_len_le hv.1; omega
  replace hL1 := As.mk hL1
  replace hL2 := As.mk hL2
  cases hmn : (na == nb)
  · rcases Nat.lt_or_ge (nv a) (nv b) with hlt | hge
    · have hsum := As.mk (iv_add_lt hmn (Nat.le_of_lt hlt))
      go_enter Try.func55, Try.ntmps55
      go_wp2_with fail
      refine (nat_Sub_no _ (((hu.alloc _).alloc _).alloc _) (((hv.alloc _).alloc _).alloc _) (by omega) (by omega) hlt).mono ?_
      rintro e w1 ⟨rfl, ⟨k, rfl⟩⟩
      go_wp2_with fail
      refine (nat_Sub _ ((((hv.alloc _).alloc _).alloc _).drewN _) ((((hu.alloc _).alloc _).alloc _).drewN _) (by omega) (by omega) (Nat.le_of_lt hlt)).mono ?_
      rintro e w1 ⟨r, rfl, hr, hb1⟩
      obtain ⟨hc, hf⟩ := bcell_le (n := w.heap.size + 3) hb1 (by simp)
      have hz1 : w.heap.size + 3 ≤ w1.heap.size := Nat.le_trans (by simp) hb1.size
      go_wp2_with fail
      refine (int_Make _ hr (hL2.out _)).mono ?_
      rintro e w2 ⟨v1, rfl, ⟨u1, rfl, hn1⟩, hb2⟩
      obtain ⟨A1, c1, rfl⟩ := hn1.slice
      obtain ⟨hc2, hf2⟩ := bcell_le (n := w.heap.size + 3) hb2 (by omega)
      have hz := hb2.size
      have hR : Res w1 (w.heap.size + 2) 2 := ⟨by omega, fun i hi => by
        rcases (by omega : i = 0 ∨ i = 1) with rfl | rfl
        · exact ⟨⟨.bool false, by simp [go_sem, hc]⟩, by simp [go_sem, hf]⟩
        · exact ⟨⟨.slice none 0 0, by simp [go_sem, hc]⟩, by simp [go_sem, hf]⟩⟩
      have hres := As.mk (fun x y => IntV.stored (w := w) (x := x) (y := y) (by omega) hR hn1 hb2)
      have hbel : As (∀ x y, Below w.heap.size w ((w2.setCell ⟨w.heap.size + 2, 0, none⟩ x).setCell ⟨w.heap.size + 2, 1, none⟩ y)) := ⟨fun x y =>
        (((Below.after (by repeat (first | exact Below.refl _ _ | apply Below.drewsN | (refine Below.alloc ?_ (by simp <;> omega) _))) (by simp; omega) hb1).after (by omega) hb2).setCell (by simp) _).setCell (by simp) _⟩
      clear hR hn1 hb2 hb1 hr
      go_wp2_with fail
      refine bodyPost_ret (v := .agg #[.bool _, .slice A1 _ c1]) (by simp [results, Try.results55, go_sem, hc2, hc]; try exact ⟨rfl, rfl⟩) rfl ?_
      rw [hsum.out]
      exact ⟨_, rfl, hres.out _ _, hbel.out _ _⟩
    · have hsum := As.mk (iv_add_ge hmn hge)
      go_enter Try.func55, Try.ntmps55
      go_wp2_with fail
      refine (nat_Sub _ (((hu.alloc _).alloc _).alloc _) (((hv.alloc _).alloc _).alloc _) (by omega) (by omega) hge).mono ?_
      rintro e w1 ⟨r, rfl, hr, hb1⟩
      obtain ⟨hc, hf⟩ := bcell_le (n := w.heap.size + 3) hb1 (by simp)
      have hz1 : w.heap.size + 3 ≤ w1.heap.size := Nat.le_trans (by simp) hb1.size
      go_wp2_with fail
      refine (int_Make _ hr (hL1.out _)).mono ?_
      rintro e w2 ⟨v1, rfl, ⟨u1, rfl, hn1⟩, hb2⟩
      obtain ⟨A1, c1, rfl⟩ := hn1.slice
      obtain ⟨hc2, hf2⟩ := bcell_le (n := w.heap.size + 3) hb2 (by omega)
      have hz := hb2.size
      have hR : Res w1 (w.heap.size + 2) 2 := ⟨by omega, fun i hi => by
        rcases (by omega : i = 0 ∨ i = 1) with rfl | rfl
        · exact ⟨⟨.bool false, by simp [go_sem, hc]⟩, by simp [go_sem, hf]⟩
        · exact ⟨⟨.slice none 0 0, by simp [go_sem, hc]⟩, by simp [go_sem, hf]⟩⟩
      have hres := As.mk (fun x y => IntV.stored (w := w) (x := x) (y := y) (by omega) hR hn1 hb2)
      have hbel : As (∀ x y, Below w.heap.size w ((w2.setCell ⟨w.heap.size + 2, 0, none⟩ x).setCell ⟨w.heap.size + 2, 1, none⟩ y)) := ⟨fun x y =>
        (((Below.after (by repeat (first | exact Below.refl _ _ | apply Below.drewsN | (refine Below.alloc ?_ (by simp <;> omega) _))) (by simp; omega) hb1).after (by omega) hb2).setCell (by simp) _).setCell (by simp) _⟩
      clear hR hn1 hb2 hb1 hr
      go_wp2_with fail
      refine bodyPost_ret (v := .agg #[.bool _, .slice A1 _ c1]) (by simp [results, Try.results55, go_sem, hc2, hc]; try exact ⟨rfl, rfl⟩) rfl ?_
      rw [hsum.out]
      exact ⟨_, rfl, hres.out _ _, hbel.out _ _⟩
  · obtain rfl : na = nb := by simpa using hmn
    have hsum := As.mk (iv_add_same na a b)
    clear hmn hL1 hL2
    go_enter Try.func55, Try.ntmps55
    go_wp2_with fail
    obtain ⟨W, hW⟩ : ∃ W, (((w.alloc (Obj.cells #[Value.bool na, Value.slice A a.length c] 38)).alloc (Obj.cells #[Value.bool na, Value.slice A2 b.length c2] 38)).alloc (Obj.cells #[Value.bool false, Value.slice none 0 0] 38)) = W := ⟨_, rfl⟩
    have hs : W.heap.size = w.heap.size + 3 := by rw [← hW]; simp
    have hB : Below w.heap.size w W := by rw [← hW]; exact ((((Below.refl _ _).alloc (by simp <;> omega) _).alloc (by simp <;> omega) _).alloc (by simp <;> omega) _)
    have cc0 : W.cell? ⟨w.heap.size, 0, none⟩ = some (.bool na) := by subst hW; simp [go_sem]
    have cc1 : W.cell? ⟨w.heap.size, 1, none⟩ = some (.slice A a.length c) := by subst hW; simp [go_sem]
    have cc2 : W.cell? ⟨w.heap.size + 1, 0, none⟩ = some (.bool na) := by subst hW; simp [go_sem]
    have cc3 : W.cell? ⟨w.heap.size + 1, 1, none⟩ = some (.slice A2 b.length c2) := by subst hW; simp [go_sem]
    have d0 : W.cell? ⟨w.heap.size + 2, 0, none⟩ = some (.bool false) := by subst hW; simp [go_sem]
    have f0 : W.frozen? ⟨w.heap.size + 2, 0, none⟩ = false := by subst hW; simp [go_sem]
    have d1 : W.cell? ⟨w.heap.size + 2, 1, none⟩ = some (.slice none 0 0) := by subst hW; simp [go_sem]
    have f1 : W.frozen? ⟨w.heap.size + 2, 1, none⟩ = false := by subst hW; simp [go_sem]
    have hR : Res W (w.heap.size + 2) 2 := ⟨by omega, fun i hi => by
      rcases (by omega : i = 0 ∨ i = 1) with rfl | rfl
      · exact ⟨⟨_, d0⟩, f0⟩
      · exact ⟨⟨_, d1⟩, f1⟩⟩
    rw [hW]
    clear hW
    clear d0 d1 f0 f1
    try go_wp2_with fail
    go_region_held3 (fun w' => w'.cell? ⟨w.heap.size, 0, none⟩ = some (.bool na) ∧ w'.cell? ⟨w.heap.size, 1, none⟩ = some (.slice A a.length c) ∧ w'.cell? ⟨w.heap.size + 1, 0, none⟩ = some (.bool na) ∧ w'.cell? ⟨w.heap.size + 1, 1, none⟩ = some (.slice A2 b.length c2) ∧ Below w.heap.size w w' ∧ Res w' (w.heap.size + 2) 2)
      ((first
        | exact (keep_and (keep_and (keep_and (keep_and keep_last)))) ⟨cc0, cc1, cc2, cc3, hB, hR⟩ (below_drew _)
        | exact (keep_and (keep_and (keep_and (keep_and keep_last)))) (by assumption) (below_drew _)
        | exact (keep_and (keep_and (keep_and (keep_and keep_last)))) (by assumption) (by assumption)
        | exact (set_held (by simp <;> omega) (set_held (by simp <;> omega) (set_held (by simp <;> omega) (set_held (by simp <;> omega) (set_last (by simp <;> omega)))))) ((set_held (by simp <;> omega) (set_held (by simp <;> omega) (set_held (by simp <;> omega) (set_held (by simp <;> omega) (set_last (by simp <;> omega)))))) (by assumption))))
      (first
        | (go_at_call 91; obtain ⟨_, _, _, _, hB1, hR1⟩ := ‹_ ∧ _ ∧ _ ∧ _ ∧ Below _ _ _ ∧ _›; refine (nat_Add _ (hu.below hB1) (hv.below hB1) (by omega) (by omega)).mono ?_; rintro e w1 ⟨r, rfl, hr0, hb⟩; have hr := Own.new hr0 (Lim_dig _))
        | (go_at_call 90; obtain ⟨_, _, _, _, hB1, hR1⟩ := ‹_ ∧ _ ∧ _ ∧ _ ∧ Below _ _ _ ∧ _›; refine (int_Make _ hr hL).mono ?_; rintro e w2 ⟨r2, rfl, ⟨u2, rfl, hr2⟩, hb2⟩; obtain ⟨A3, C3, rfl⟩ := hr2.slice; obtain ⟨⟨⟨x4, h4⟩, f4⟩, ⟨x5, h5⟩, f5⟩ := And.intro ((hR1.below hb2).2 0 (by omega)) ((hR1.below hb2).2 1 (by omega))))
    go_wp2_with fail
    refine bodyPost_ret (v := .agg #[.bool (decide (iv na (dig (nv a + nv b)) < 0)), .slice A3 (dig (iv na (dig (nv a + nv b))).natAbs).length C3]) (by simp [results, Try.results55, go_sem, h4, h5]) rfl ?_
    rw [hsum.out]
    exact ⟨_, rfl, IntV.stored (by omega) hR1 hr2 hb2, hB1.after (by have := hR1.1; omega) hb2 |>.setCell (by simp; omega) _ |>.setCell (by simp; omega) _⟩
end Go.Proofs.Ytdbpjnjgjmfomaa

/- The program's integers, fifth part: Sub, Of. -/
namespace Go.Proofs.Ytdbpjnjgjmfomaa
open Go.RowKit

theorem sz_neg (z : Int) : sz (-z) = sz z := by unfold sz; rw [Int.natAbs_neg]

set_option maxHeartbeats 2000000 in
theorem int_Sub {S T : Nat → Prop} {v u : Value} {x y : Int} {m n : Nat} (w : World) (hu : IntI S w v x m) (hv : IntI T w u y n) (hm : m ≤ 35184372088829) (hm' : n ≤ 35184372088829) :
    Calls Try.prog 61 #[v, u] w fun e w' => ∃ r, e = .returned r ∧ IntV (New w) w' r (x - y) ∧ Below w.heap.size w w' := by
  have hl := hv.sz
  have hn := As.mk (sz_neg y)
  have hl2 : sz (-y) ≤ 35184372088829 := by rw [hn.out]; omega
  rw [Int.sub_eq_add_neg]
  obtain ⟨na, u, a, rfl, hu0, _⟩ := id hu
  obtain ⟨nb, v, b, rfl, hv0, _⟩ := id hv
  obtain ⟨A, c, rfl⟩ := hu0.slice
  obtain ⟨A2, c2, rfl⟩ := hv0.slice
  go_enter Try.func61, Try.ntmps61
  go_wp2_with fail
  obtain ⟨W, hW⟩ : ∃ W, (((w.alloc (Obj.cells #[Value.bool na, Value.slice A a.length c] 38)).alloc (Obj.cells #[Value.bool nb, Value.slice A2 b.length c2] 38)).alloc (Obj.cells #[Value.bool false, Value.slice none 0 0] 38)) = W := ⟨_, rfl⟩
  have hs : W.heap.size = w.heap.size + 3 := by rw [← hW]; simp
  have hB : Below w.heap.size w W := by rw [← hW]; exact ((((Below.refl _ _).alloc (by simp <;> omega) _).alloc (by simp <;> omega) _).alloc (by simp <;> omega) _)
  have cc0 : W.cell? ⟨w.heap.size, 0, none⟩ = some (.bool na) := by subst hW; simp [go_sem]
  have cc1 : W.cell? ⟨w.heap.size, 1, none⟩ = some (.slice A a.length c) := by subst hW; simp [go_sem]
  have cc2 : W.cell? ⟨w.heap.size + 1, 0, none⟩ = some (.bool nb) := by subst hW; simp [go_sem]
  have cc3 : W.cell? ⟨w.heap.size + 1, 1, none⟩ = some (.slice A2 b.length c2) := by subst hW; simp [go_sem]
  have d0 : W.cell? ⟨w.heap.size + 2, 0, none⟩ = some (.bool false) := by subst hW; simp [go_sem]
  have f0 : W.frozen? ⟨w.heap.size + 2, 0, none⟩ = false := by subst hW; simp [go_sem]
  have d1 : W.cell? ⟨w.heap.size + 2, 1, none⟩ = some (.slice none 0 0) := by subst hW; simp [go_sem]
  have f1 : W.frozen? ⟨w.heap.size + 2, 1, none⟩ = false := by subst hW; simp [go_sem]
  have hR : Res W (w.heap.size + 2) 2 := ⟨by omega, fun i hi => by
    rcases (by omega : i = 0 ∨ i = 1) with rfl | rfl
    · exact ⟨⟨_, d0⟩, f0⟩
    · exact ⟨⟨_, d1⟩, f1⟩⟩
  rw [hW]
  clear hW
  clear d0 d1 f0 f1
  go_region_held3 (fun w' => w'.cell? ⟨w.heap.size, 0, none⟩ = some (.bool na) ∧ w'.cell? ⟨w.heap.size, 1, none⟩ = some (.slice A a.length c) ∧ w'.cell? ⟨w.heap.size + 1, 0, none⟩ = some (.bool nb) ∧ w'.cell? ⟨w.heap.size + 1, 1, none⟩ = some (.slice A2 b.length c2) ∧ Below w.heap.size w w' ∧ Res w' (w.heap.size + 2) 2)
    ((first
      | exact (keep_and (keep_and (keep_and (keep_and keep_last)))) ⟨cc0, cc1, cc2, cc3, hB, hR⟩ (below_drew _)
      | exact (keep_and (keep_and (keep_and (keep_and keep_last)))) (by assumption) (below_drew _)
      | exact (keep_and (keep_and (keep_and (keep_and keep_last)))) (by assumption) (by assumption)
      | exact (set_held (by simp <;> omega) (set_held (by simp <;> omega) (set_held (by simp <;> omega) (set_held (by simp <;> omega) (set_last (by simp <;> omega)))))) ((set_held (by simp <;> omega) (set_held (by simp <;> omega) (set_held (by simp <;> omega) (set_held (by simp <;> omega) (set_last (by simp <;> omega)))))) (by assumption))))
    (first
      | (go_at_call 94; obtain ⟨_, _, _, _, hB1, hR1⟩ := ‹_ ∧ _ ∧ _ ∧ _ ∧ Below _ _ _ ∧ _›; refine (int_Neg _ (hv.below hB1) (by omega)).mono ?_; rintro e w1 ⟨r, rfl, hr0, hb⟩; have hr := hr0.i)
      | (go_at_call 55; obtain ⟨_, _, _, _, hB1, hR1⟩ := ‹_ ∧ _ ∧ _ ∧ _ ∧ Below _ _ _ ∧ _›; refine (int_Add _ (hu.below hB1) hr (by omega) (by omega)).mono ?_; rintro e w2 ⟨r2, rfl, ⟨u2, rfl, hr2⟩, hb2⟩; obtain ⟨A3, C3, rfl⟩ := hr2.slice; obtain ⟨⟨⟨x4, h4⟩, f4⟩, ⟨x5, h5⟩, f5⟩ := And.intro ((hR1.below hb2).2 0 (by omega)) ((hR1.below hb2).2 1 (by omega))))
  go_wp2_with fail
  refine bodyPost_ret (v := .agg #[.bool (decide (x + -y < 0)), .slice A3 (dig (x + -y).natAbs).length C3]) (by simp [results, Try.results61, go_sem, h4, h5]) rfl ?_
  exact ⟨_, rfl, IntV.stored (by omega) hR1 hr2 hb2, hB1.after (by have := hR1.1; omega) hb2 |>.setCell (by simp; omega) _ |>.setCell (by simp; omega) _⟩

set_option maxHeartbeats 2000000 in
theorem int_Of (n : Int) (w : World) (h0 : -9223372036854775808 ≤ n) (h1 : n ≤ 9223372036854775807) :
    Calls Try.prog 59 #[.int .i64 n] w fun e w' => ∃ r, e = .returned r ∧ IntV (New w) w' r n ∧ Below w.heap.size w w' := by
  obtain ⟨k, hk⟩ : ∃ k : Nat, n.natAbs = k := ⟨_, rfl⟩
  have hfin : ∀ (w1 : World) (b : Bool) (u : Value), b = decide (n < 0) → NumV (New (w.alloc (Obj.cells #[Value.bool false, Value.slice none 0 0] 38))) w1 u (dig k) → 
      IntV (New w) ((w1.setCell ⟨w.heap.size, 0, none⟩ (.bool b)).setCell ⟨w.heap.size, 1, none⟩ u) (.agg #[.bool b, u]) n := fun w1 b u hb hu => by
    subst hb
    refine ⟨u, rfl, ?_⟩
    rw [hk]
    refine ((hu.set (by intro k hk _; simp at hk; simp; omega) _).set (by intro k hk _; simp at hk; simp; omega) _).mono ?_
    intro k hk _; simp at hk; show w.heap.size ≤ k; omega
  have hbel : ∀ (w1 : World) (b : Bool) v, Below (w.alloc (Obj.cells #[Value.bool false, Value.slice none 0 0] 38)).heap.size (w.alloc (Obj.cells #[Value.bool false, Value.slice none 0 0] 38)) w1 → Below w.heap.size w ((w1.setCell ⟨w.heap.size, 0, none⟩ (.bool b)).setCell ⟨w.heap.size, 1, none⟩ v) := fun w1 b v hb1 =>
    ((((Below.refl w.heap.size w).alloc (Nat.le_refl _) _).after (by simp) hb1).setCell (by simp) _).setCell (by simp) _
  replace hfin := As.mk hfin
  replace hbel := As.mk hbel
  by_cases hn : n < 0
  · have e1 : IntKind.i64.wrap (n + 1) = n + 1 := IntWalk.i64_in _ (by omega)
    have e2 : IntKind.i64.wrap (-(n + 1)) = -(n + 1) := IntWalk.i64_in _ (by omega)
    have e3 : IntKind.u64.wrap (-(n + 1)) = -(n + 1) := by first | (exact IntWalk.u64_in _ (by omega)) | (rw [IntWalk.u64_in _ (by omega)])
    have e4 : IntKind.u64.wrap (-(n + 1) + 1) = (k : Int) := by rw [show -(n + 1) + 1 = (k : Int) by omega]; exact IntWalk.u64_in _ (by omega)
    have hd := As.mk (decide_eq_true hn)
    have hk1 : k < 18446744073709551616 := by omega
    replace hk := As.mk hk
    go_enter Try.func59, Try.ntmps59
    go_wp2_with fail
    refine (nat_Of k _ hk1).mono ?_
    rintro e w1 ⟨u, rfl, hu, hb1⟩
    obtain ⟨A1, c1, rfl⟩ := hu.slice
    obtain ⟨hc, hf⟩ := bcell (n := w.heap.size + 1) hb1 (by simp)
    go_wp2_with fail
    refine bodyPost_ret (v := .agg #[.bool true, .slice A1 (dig k).length c1]) (by simp [results, Try.results59, go_sem, hc]) rfl ?_
    exact ⟨_, rfl, hfin.out _ _ _ hd.out.symm hu, hbel.out _ _ _ hb1⟩
  · have e3 : IntKind.u64.wrap n = (k : Int) := by rw [show n = (k : Int) by omega]; exact IntWalk.u64_in _ (by omega)
    have hd := As.mk (decide_eq_false hn)
    have hk1 : k < 18446744073709551616 := by omega
    replace hk := As.mk hk
    go_enter Try.func59, Try.ntmps59
    go_wp2_with fail
    refine (nat_Of k _ hk1).mono ?_
    rintro e w1 ⟨u, rfl, hu, hb1⟩
    obtain ⟨A1, c1, rfl⟩ := hu.slice
    obtain ⟨hc, hf⟩ := bcell (n := w.heap.size + 1) hb1 (by simp)
    go_wp2_with fail
    refine bodyPost_ret (v := .agg #[.bool false, .slice A1 (dig k).length c1]) (by simp [results, Try.results59, go_sem, hc]) rfl ?_
    exact ⟨_, rfl, hfin.out _ _ _ hd.out.symm hu, hbel.out _ _ _ hb1⟩
end Go.Proofs.Ytdbpjnjgjmfomaa

/- The program's integers, sixth part: Cmp. -/
namespace Go.Proofs.Ytdbpjnjgjmfomaa
open Go.RowKit

def cmpZ (x y : Int) : Int := if x < y then -1 else if x = y then 0 else 1
theorem sign_cases (x : Int) : (x < 0 ∧ x.sign = -1) ∨ (x = 0 ∧ x.sign = 0) ∨ (0 < x ∧ x.sign = 1) := by
  rcases Int.lt_trichotomy x 0 with h | h | h
  · exact .inl ⟨h, Int.sign_eq_neg_one_of_neg h⟩
  · exact .inr (.inl ⟨h, by rw [h]; rfl⟩)
  · exact .inr (.inr ⟨h, Int.sign_eq_one_of_pos h⟩)
theorem cmpZ_lt {x y : Int} (h : x.sign < y.sign) : cmpZ x y = -1 := by
  unfold cmpZ
  rcases sign_cases x with ⟨hx, ex⟩ | ⟨hx, ex⟩ | ⟨hx, ex⟩ <;> rcases sign_cases y with ⟨hy, ey⟩ | ⟨hy, ey⟩ | ⟨hy, ey⟩ <;> rw [ex, ey] at h <;> first | omega | rw [if_pos (by omega)]
theorem cmpZ_gt {x y : Int} (h : y.sign < x.sign) : cmpZ x y = 1 := by
  unfold cmpZ
  rcases sign_cases x with ⟨hx, ex⟩ | ⟨hx, ex⟩ | ⟨hx, ex⟩ <;> rcases sign_cases y with ⟨hy, ey⟩ | ⟨hy, ey⟩ | ⟨hy, ey⟩ <;> rw [ex, ey] at h <;> first | omega | rw [if_neg (by omega), if_neg (by omega)]
theorem cmpZ_neg {x y : Int} (h : x.sign = y.sign) (hn : x.sign < 0) : cmpZ x y = cmpI y.natAbs x.natAbs := by
  unfold cmpZ cmpI
  rcases sign_cases x with ⟨hx, ex⟩ | ⟨hx, ex⟩ | ⟨hx, ex⟩ <;> rcases sign_cases y with ⟨hy, ey⟩ | ⟨hy, ey⟩ | ⟨hy, ey⟩ <;> rw [ex] at hn h <;> rw [ey] at h <;> first | omega | ((repeat' split) <;> omega)
theorem cmpZ_pos {x y : Int} (h : x.sign = y.sign) (hn : ¬ x.sign < 0) : cmpZ x y = cmpI x.natAbs y.natAbs := by
  unfold cmpZ cmpI
  rcases sign_cases x with ⟨hx, ex⟩ | ⟨hx, ex⟩ | ⟨hx, ex⟩ <;> rcases sign_cases y with ⟨hy, ey⟩ | ⟨hy, ey⟩ | ⟨hy, ey⟩ <;> rw [ex] at hn h <;> rw [ey] at h <;> first | omega | ((repeat' split) <;> omega)

set_option maxHeartbeats 4000000 in
set_option maxRecDepth 100000 in
theorem int_Cmp {S T : Nat → Prop} {v u : Value} {x y : Int} {m n : Nat} (w : World) (hu : IntI S w v x m) (hv : IntI T w u y n) (hm : m ≤ 35184372088829) (hm' : n ≤ 35184372088829) :
    Calls Try.prog 65 #[v, u] w fun e w' => e = .returned (.int .i64 (cmpZ x y)) ∧ Below w.heap.size w w' := by
  obtain ⟨na, u, a, rfl, hu0, hxa, _⟩ := id hu
  obtain ⟨nb, v, b, rfl, hv0, hyb, _⟩ := id hv
  obtain ⟨A, c, rfl⟩ := hu0.slice
  obtain ⟨A2, c2, rfl⟩ := hv0.slice
  have hm0 : m ≤ 35184372088830 := by omega
  have hm1 : n ≤ 35184372088830 := by omega
  have hxn : x.natAbs = nv a := by rw [← hxa, iv_natAbs]
  have hyn : y.natAbs = nv b := by rw [← hyb, iv_natAbs]
  have H1 := As.mk (@cmpZ_lt x y)
  have H2 := As.mk (@cmpZ_gt x y)
  have H3 := @cmpZ_neg x y
  have H4 := @cmpZ_pos x y
  rw [hxn, hyn] at H3 H4
  replace H3 := As.mk H3
  replace H4 := As.mk H4
  clear hxa hyb hxn hyn
  go_enter Try.func65, Try.ntmps65
  go_wp2_with fail
  obtain ⟨W, hW⟩ : ∃ W, ((w.alloc (Obj.cells #[Value.bool na, Value.slice A a.length c] 38)).alloc (Obj.cells #[Value.bool nb, Value.slice A2 b.length c2] 38)) = W := ⟨_, rfl⟩
  have hs : W.heap.size = w.heap.size + 2 := by rw [← hW]; simp
  have hB : Below w.heap.size w W := by rw [← hW]; exact (((Below.refl _ _).alloc (by simp <;> omega) _).alloc (by simp <;> omega) _)
  have cc0 : W.cell? ⟨w.heap.size, 0, none⟩ = some (.bool na) := by subst hW; simp [go_sem]
  have cc1 : W.cell? ⟨w.heap.size, 1, none⟩ = some (.slice A a.length c) := by subst hW; simp [go_sem]
  have cc2 : W.cell? ⟨w.heap.size + 1, 0, none⟩ = some (.bool nb) := by subst hW; simp [go_sem]
  have cc3 : W.cell? ⟨w.heap.size + 1, 1, none⟩ = some (.slice A2 b.length c2) := by subst hW; simp [go_sem]
  rw [hW]
  clear hW
  go_region_held3 (fun w' => w'.cell? ⟨w.heap.size, 0, none⟩ = some (.bool na) ∧ w'.cell? ⟨w.heap.size, 1, none⟩ = some (.slice A a.length c) ∧ w'.cell? ⟨w.heap.size + 1, 0, none⟩ = some (.bool nb) ∧ w'.cell? ⟨w.heap.size + 1, 1, none⟩ = some (.slice A2 b.length c2) ∧ Below w.heap.size w w')
    ((first
      | exact (keep_and (keep_and (keep_and (keep_and keep_end)))) ⟨cc0, cc1, cc2, cc3, hB⟩ (below_drew _)
      | exact (keep_and (keep_and (keep_and (keep_and keep_end)))) (by assumption) (below_drew _)
      | exact (keep_and (keep_and (keep_and (keep_and keep_end)))) (by assumption) (by assumption)))
    (first
      | (go_at_call 64; obtain ⟨_, _, _, _, hB1⟩ := ‹_ ∧ _ ∧ _ ∧ _ ∧ Below _ _ _›; first | (with_reducible refine (int_Sign _ (hu.below hB1) hm0).mono ?_; rintro e w1 ⟨rfl, hb⟩) | (with_reducible refine (int_Sign _ (hv.below hB1) hm1).mono ?_; rintro e w2 ⟨rfl, hb⟩)))
  all_goals
    obtain ⟨g0, g1, g2, g3, hB9⟩ := ‹_ ∧ _ ∧ _ ∧ _ ∧ Below _ _ _›
    replace hB9 := As.mk hB9
    rcases Int.lt_trichotomy x.sign y.sign with hlt | heq | hgt
    · have R := As.mk (H1.out hlt)
      go_wp2_with fail
      go_ret
      exact ⟨ret_int R.out.symm, hB9.out⟩
    · rcases Int.lt_or_le x.sign 0 with hs | hs
      · have R := As.mk (H3.out heq hs)
        rw [← heq]
        have l1 : ¬ x.sign < x.sign := by omega
        replace heq := As.mk heq
        go_wp2_with fail
        refine (nat_Cmp _ (hv0.below hB9.out) (hu0.below hB9.out) (by omega) (by omega)).mono ?_
        rintro e w5 ⟨rfl, ⟨m5, rfl⟩⟩
        go_wp2_with fail
        go_ret
        exact ⟨ret_int R.out.symm, hB9.out.drewsN _⟩
      · have R := As.mk (H4.out heq (by omega))
        rw [← heq]
        have l1 : ¬ x.sign < x.sign := by omega
        have l2 : ¬ x.sign < 0 := by omega
        replace heq := As.mk heq
        go_wp2_with fail
        refine (nat_Cmp _ (hu0.below hB9.out) (hv0.below hB9.out) (by omega) (by omega)).mono ?_
        rintro e w5 ⟨rfl, ⟨m5, rfl⟩⟩
        go_wp2_with fail
        go_ret
        exact ⟨ret_int R.out.symm, hB9.out.drewsN _⟩
    · have R := As.mk (H2.out hgt)
      have l1 : ¬ x.sign < y.sign := by omega
      go_wp2_with fail
      go_ret
      exact ⟨ret_int R.out.symm, hB9.out⟩
end Go.Proofs.Ytdbpjnjgjmfomaa

/- The program's ratios, first part: what a ratio value reads as; zero, whole. -/
namespace Go.Proofs.Ytdbpjnjgjmfomaa
open Go.RowKit

/-- A value of type api.Ratio that reads as q (0 where the denominator is 0), in no more than n limbs a part. -/
def RatI (S : Nat → Prop) (w : World) (v : Value) (q : Rat) (n : Nat) : Prop :=
  ∃ neg u d l t, v = .agg #[.bool neg, u, d] ∧ NumV S w u l ∧ NumV S w d t ∧ ((iv neg l : Int) : Rat) / ((nv t : Nat) : Rat) = q ∧ l.length ≤ n ∧ t.length ≤ n
/-- A value of type api.Ratio that is the normal form of q. -/
def RatV (S : Nat → Prop) (w : World) (v : Value) (q : Rat) : Prop :=
  ∃ u d, v = .agg #[.bool (decide (q.num < 0)), u, d] ∧ NumV S w u (dig q.num.natAbs) ∧ NumV S w d (dig q.den)
/-- How many limbs a normal form's parts have. -/
def rz (q : Rat) : Nat := max (sz q.num) (dig q.den).length

theorem rat_nd (q : Rat) : ((q.num : Int) : Rat) / ((q.den : Nat) : Rat) = q := by
  have := Rat.mkRat_self q
  rw [Rat.mkRat_eq_div] at this
  exact this
theorem RatV.i {S : Nat → Prop} {w : World} {v : Value} {q : Rat} (h : RatV S w v q) : RatI S w v q (rz q) := by
  obtain ⟨u, d, rfl, hu, hd⟩ := h
  refine ⟨_, u, d, _, _, rfl, hu, hd, ?_, Nat.le_max_left _ _, Nat.le_max_right _ _⟩
  rw [iv_dig, nv_dig, rat_nd]
theorem RatI.le {S : Nat → Prop} {w : World} {v : Value} {q : Rat} {m n : Nat} (h : RatI S w v q m) (hmn : m ≤ n) : RatI S w v q n := by
  obtain ⟨neg, u, d, l, t, e, hu, hd, hq, h1, h2⟩ := h
  exact ⟨neg, u, d, l, t, e, hu, hd, hq, by omega, by omega⟩
theorem RatI.step {S : Nat → Prop} {w w1 : World} {v : Value} {q : Rat} {n : Nat} (h : RatI S w v q n) (hm : ∀ k, S k → k < w.heap.size → w1.heap[k]? = w.heap[k]?) : RatI S w1 v q n := by
  obtain ⟨neg, u, d, l, t, e, hu, hd, hq⟩ := h
  exact ⟨neg, u, d, l, t, e, hu.step hm, hd.step hm, hq⟩
theorem RatI.below {S : Nat → Prop} {w w1 : World} {v : Value} {q : Rat} {n : Nat} (h : RatI S w v q n) (hb : Below w.heap.size w w1) : RatI S w1 v q n := h.step (fun k _ hk => hb.block k hk)
theorem RatI.mono {S T : Nat → Prop} {w : World} {v : Value} {q : Rat} {n : Nat} (h : RatI S w v q n) (hm : ∀ k, S k → k < w.heap.size → T k) : RatI T w v q n := by
  obtain ⟨neg, u, d, l, t, e, hu, hd, hq⟩ := h
  exact ⟨neg, u, d, l, t, e, hu.mono hm, hd.mono hm, hq⟩
theorem RatV.step {S : Nat → Prop} {w w1 : World} {v : Value} {q : Rat} (h : RatV S w v q) (hm : ∀ k, S k → k < w.heap.size → w1.heap[k]? = w.heap[k]?) : RatV S w1 v q := by
  obtain ⟨u, d, e, hu, hd⟩ := h
  exact ⟨u, d, e, hu.step hm, hd.step hm⟩
theorem RatV.below {S : Nat → Prop} {w w1 : World} {v : Value} {q : Rat} (h : RatV S w v q) (hb : Below w.heap.size w w1) : RatV S w1 v q := h.step (fun k _ hk => hb.block k hk)
theorem RatV.mono {S T : Nat → Prop} {w : World} {v : Value} {q : Rat} (h : RatV S w v q) (hm : ∀ k, S k → k < w.heap.size → T k) : RatV T w v q := by
  obtain ⟨u, d, e, hu, hd⟩ := h
  exact ⟨u, d, e, hu.mono hm, hd.mono hm⟩
theorem IntV.slice {S : Nat → Prop} {w : World} {v : Value} {z : Int} (h : IntV S w v z) : ∃ A c, v = .agg #[.bool (decide (z < 0)), .slice A (sz z) c] ∧ NumV S w (.slice A (sz z) c) (dig z.natAbs) := by
  obtain ⟨u, rfl, hn⟩ := h
  obtain ⟨A, c, rfl⟩ := hn.slice
  exact ⟨A, c, rfl, hn⟩
theorem RatV.slice {S : Nat → Prop} {w : World} {v : Value} {q : Rat} (h : RatV S w v q) : ∃ A c B d, v = .agg #[.bool (decide (q.num < 0)), .slice A (sz q.num) c, .slice B (dig q.den).length d] := by
  obtain ⟨u, d, rfl, hu, hd⟩ := h
  obtain ⟨A, c, rfl⟩ := hu.slice
  obtain ⟨B, e, rfl⟩ := hd.slice
  exact ⟨A, c, B, e, rfl⟩
theorem NumV.stored {S : Nat → Prop} {w : World} {v : Value} {l : List Int} (h : NumV S w v l) {p : Addr} (hp : ¬ S p.block) (x : Value) : NumV S (w.setCell p x) v l :=
  h.set (fun _k hs _ e => hp (e ▸ hs)) x

set_option maxHeartbeats 1000000 in
theorem rat_whole {S : Nat → Prop} {u : Value} {l : List Int} (w : World) (hu : NumV S w u l) (hm : l.length ≤ 35184372088830) :
    Calls Try.prog 85 #[u] w fun e w' => ∃ r, e = .returned r ∧ IntV (New w) w' r (nv l : Nat) ∧ Below w.heap.size w w' := by
  have hiv : iv false l = (nv l : Nat) := rfl
  rw [← hiv]
  replace hiv := As.mk hiv
  obtain ⟨A, c, rfl⟩ := hu.slice
  go_enter Try.func85, Try.ntmps85
  go_wp2_with fail
  refine (int_Make _ (hu.alloc _) hm).mono ?_
  rintro e w1 ⟨v1, rfl, ⟨u1, rfl, hn1⟩, hb1⟩
  obtain ⟨A1, c1, rfl⟩ := hn1.slice
  obtain ⟨hc, hf⟩ := bcell (n := w.heap.size + 1) hb1 (by simp)
  have hR : Res (w.alloc (Obj.cells #[Value.bool false, Value.slice none 0 0] 38)) w.heap.size 2 := ⟨by simp, fun i hi => by
    rcases (by omega : i = 0 ∨ i = 1) with rfl | rfl
    · exact ⟨⟨.bool false, by simp [go_sem]⟩, by simp [go_sem]⟩
    · exact ⟨⟨.slice none 0 0, by simp [go_sem]⟩, by simp [go_sem]⟩⟩
  have hres := As.mk (fun x y => IntV.stored (w := w) (x := x) (y := y) (Nat.le_refl _) hR hn1 hb1)
  have hbel : As (∀ x y, Below w.heap.size w ((w1.setCell ⟨w.heap.size, 0, none⟩ x).setCell ⟨w.heap.size, 1, none⟩ y)) := ⟨fun x y =>
    ((((Below.refl w.heap.size w).alloc (Nat.le_refl _) _).after (by simp) hb1).setCell (by simp) _).setCell (by simp) _⟩
  clear hR hn1 hb1 hu
  go_wp2_with fail
  refine bodyPost_ret (v := .agg #[.bool (decide (iv false l < 0)), .slice A1 (dig (iv false l).natAbs).length c1]) (by simp [results, Try.results85, go_sem, hc]) rfl ?_
  exact ⟨_, rfl, hres.out _ _, hbel.out _ _⟩

set_option maxHeartbeats 1000000 in
theorem rat_zero (w : World) :
    Calls Try.prog 88 #[] w fun e w' => ∃ r, e = .returned r ∧ RatV (New w) w' r 0 ∧ Below w.heap.size w w' := by
  go_enter Try.func88, Try.ntmps88
  go_wp2_with fail
  refine (nat_Of 1 _ (by omega)).mono ?_
  rintro e w1 ⟨u, rfl, hu, hb1⟩
  obtain ⟨A1, c1, rfl⟩ := hu.slice
  obtain ⟨hc, hf⟩ := bcell (n := w.heap.size + 1) hb1 (by simp)
  have hres : As (∀ x y z, RatV (New w) (((w1.setCell ⟨w.heap.size, 0, none⟩ x).setCell ⟨w.heap.size, 1, none⟩ y).setCell ⟨w.heap.size, 2, none⟩ z) (.agg #[.bool false, .slice none 0 0, .slice A1 (dig 1).length c1]) 0) := ⟨fun x y z =>
    ⟨.slice none 0 0, .slice A1 (dig 1).length c1, rfl, by simpa [dig] using NumV.nil _ _, (((hu.stored (by simp) _).stored (by simp) _).stored (by simp) _).mono (by intro k hk _; simp at hk; show w.heap.size ≤ k; omega)⟩⟩
  have hbel : As (∀ x y z, Below w.heap.size w (((w1.setCell ⟨w.heap.size, 0, none⟩ x).setCell ⟨w.heap.size, 1, none⟩ y).setCell ⟨w.heap.size, 2, none⟩ z)) := ⟨fun x y z =>
    (((((Below.refl w.heap.size w).alloc (Nat.le_refl _) _).after (by simp) hb1).setCell (by simp) _).setCell (by simp) _).setCell (by simp) _⟩
  clear hu hb1
  go_wp2_with fail
  refine bodyPost_ret (v := .agg #[.bool false, .slice none 0 0, .slice A1 (dig 1).length c1]) (by simp [results, Try.results88, go_sem, hc]) rfl ?_
  exact ⟨_, rfl, hres.out _ _ _, hbel.out _ _ _⟩
end Go.Proofs.Ytdbpjnjgjmfomaa

/- The program's ratios, second part: lowest terms. -/
namespace Go.Proofs.Ytdbpjnjgjmfomaa
open Go.RowKit

theorem low_num (z : Int) (D : Nat) (hD : 0 < D) : (((z : Int) : Rat) / ((D : Nat) : Rat)).num = z / ((z.natAbs.gcd D : Nat) : Int) := by
  rw [← Rat.mkRat_eq_div, Rat.num_mkRat, if_neg (by omega), Nat.gcd_comm]
theorem low_den (z : Int) (D : Nat) (hD : 0 < D) : (((z : Int) : Rat) / ((D : Nat) : Rat)).den = D / z.natAbs.gcd D := by
  rw [← Rat.mkRat_eq_div, Rat.den_mkRat, if_neg (by omega), Nat.gcd_comm]
theorem low_zero (z : Int) (D : Nat) (h : z = 0 ∨ D = 0) : (((z : Int) : Rat) / ((D : Nat) : Rat)) = 0 := by
  rcases h with rfl | rfl
  · simp [Rat.div_def, Rat.zero_mul]
  · simp [Rat.div_def, Rat.mul_zero]
theorem iv_div (neg : Bool) (l : List Int) (g : Nat) (hg : g ∣ nv l) : iv neg (dig (nv l / g)) = iv neg l / (g : Int) := by
  unfold iv; rw [nv_dig]
  cases neg
  · simp
  · simp only [if_true]
    rw [Int.neg_ediv_of_dvd (Int.natCast_dvd_natCast.2 hg), Int.natCast_ediv]

theorem RatV.stored {w w1 w2 : World} {b : Nat} {q : Rat} {v x y z : Value} (hb : w.heap.size ≤ b) (hR : Res w1 b 3) (h : RatV (New w1) w2 v q) :
    RatV (New w) (((w2.setCell ⟨b, 0, none⟩ x).setCell ⟨b, 1, none⟩ y).setCell ⟨b, 2, none⟩ z) v q := by
  obtain ⟨u, d, e, hu, hd⟩ := h
  have := hR.1
  have hp : ¬ New w1 b := by show ¬ w1.heap.size ≤ b; omega
  exact ⟨u, d, e, (((hu.stored hp _).stored hp _).stored hp _).mono (fun k hk _ => by have : w1.heap.size ≤ k := hk; show w.heap.size ≤ k; omega), (((hd.stored hp _).stored hp _).stored hp _).mono (fun k hk _ => by have : w1.heap.size ≤ k := hk; show w.heap.size ≤ k; omega)⟩

set_option maxHeartbeats 4000000 in
set_option maxRecDepth 100000 in
theorem rat_lowest {S T : Nat → Prop} {v u : Value} {z : Int} {t : List Int} {m : Nat} (w : World) (hv : IntI S w v z m) (hu : NumV T w u t) (hm : m ≤ 35184372088829) (hm' : t.length ≤ 35184372088829) :
    Calls Try.prog 54 #[v, u] w fun e w' => ∃ r, e = .returned r ∧ RatV (New w) w' r (((z : Int) : Rat) / ((nv t : Nat) : Rat)) ∧ Below w.heap.size w w' := by
  obtain ⟨neg, x, a, rfl, ha, rfl, hla⟩ := hv
  obtain ⟨A, c, rfl⟩ := ha.slice
  obtain ⟨B, d, rfl⟩ := hu.slice
  have hna := iv_natAbs neg a
  obtain ⟨q, hq⟩ : ∃ q, (((iv neg a : Int) : Rat) / ((nv t : Nat) : Rat)) = q := ⟨_, rfl⟩
  have hz0 : nv a = 0 ∨ nv t = 0 → q = 0 := fun h => by rw [← hq]; exact low_zero _ _ (h.imp (fun h => by omega) id)
  have hgd : Nat.gcd (nv a) (nv t) ∣ nv a := Nat.gcd_dvd_left _ _
  have hzn : 0 < nv t → q.num = iv neg (dig (nv a / Nat.gcd (nv a) (nv t))) := fun h => by rw [← hq, low_num _ _ h, hna, iv_div _ _ _ hgd]
  have hzd : 0 < nv t → q.den = nv t / Nat.gcd (nv a) (nv t) := fun h => by rw [← hq, low_den _ _ h, hna]
  have hlg : (dig (Nat.gcd (nv a) (nv t))).length ≤ 35184372088829 ∨ (nv a = 0 ∨ nv t = 0) := by
    rcases Nat.eq_zero_or_pos (nv a) with h | h
    · exact .inr (.inl h)
    · left; have := dig_len_mono (Nat.le_of_dvd h hgd); have := dig_len_le ha.1; omega
  have hgp : 0 < nv a → 0 < Nat.gcd (nv a) (nv t) := fun h => Nat.gcd_pos_of_pos_left _ h
  have hlq : (dig (nv a / Nat.gcd (nv a) (nv t))).length ≤ 35184372088830 := by
    have := dig_len_mono (Nat.div_le_self (nv a) (Nat.gcd (nv a) (nv t))); have := dig_len_le ha.1; omega
  rw [hq]
  generalize hG : Nat.gcd (nv a) (nv t) = G at *
  replace hG := As.mk hG
  replace hq := As.mk hq
  replace hna := As.mk hna
  replace hz0 := As.mk hz0
  replace hzn := As.mk hzn
  replace hzd := As.mk hzd
  replace hlg := As.mk hlg
  replace hgp := As.mk hgp
  go_enter Try.func54, Try.ntmps54
  go_wp2_with fail
  obtain ⟨W, hW⟩ : ∃ W, ((w.alloc (Obj.cells #[Value.bool neg, Value.slice A a.length c] 38)).alloc (Obj.cells #[Value.bool false, Value.slice none 0 0, Value.slice none 0 0] 40)) = W := ⟨_, rfl⟩
  have hs : W.heap.size = w.heap.size + 2 := by rw [← hW]; simp
  have hB : Below w.heap.size w W := by rw [← hW]; exact (((Below.refl _ _).alloc (by simp <;> omega) _).alloc (by simp <;> omega) _)
  have cc0 : W.cell? ⟨w.heap.size, 0, none⟩ = some (.bool neg) := by subst hW; simp [go_sem]
  have cc1 : W.cell? ⟨w.heap.size, 1, none⟩ = some (.slice A a.length c) := by subst hW; simp [go_sem]
  have d0 : W.cell? ⟨w.heap.size + 1, 0, none⟩ = some (.bool false) := by subst hW; simp [go_sem]
  have f0 : W.frozen? ⟨w.heap.size + 1, 0, none⟩ = false := by subst hW; simp [go_sem]
  have d1 : W.cell? ⟨w.heap.size + 1, 1, none⟩ = some (.slice none 0 0) := by subst hW; simp [go_sem]
  have f1 : W.frozen? ⟨w.heap.size + 1, 1, none⟩ = false := by subst hW; simp [go_sem]
  have d2 : W.cell? ⟨w.heap.size + 1, 2, none⟩ = some (.slice none 0 0) := by subst hW; simp [go_sem]
  have f2 : W.frozen? ⟨w.heap.size + 1, 2, none⟩ = false := by subst hW; simp [go_sem]
  have hR : Res W (w.heap.size + 1) 3 := ⟨by omega, fun i hi => by
    rcases (by omega : i = 0 ∨ i = 1 ∨ i = 2) with rfl | rfl | rfl
    · exact ⟨⟨_, d0⟩, f0⟩
    · exact ⟨⟨_, d1⟩, f1⟩
    · exact ⟨⟨_, d2⟩, f2⟩⟩
  rw [hW]
  clear hW
  have hS : (W.cell? ⟨w.heap.size, 0, none⟩ = some (.bool neg) ∧ W.cell? ⟨w.heap.size, 1, none⟩ = some (.slice A a.length c) ∧ Below w.heap.size w W ∧ Res W (w.heap.size + 1) 3) := ⟨cc0, cc1, hB, hR⟩
  clear d0 d1 d2 f0 f1 f2
  refine (nat_Gcd _ (ha.below hB) (hu.below hB) (by omega) (by omega)).mono ?_
  rintro e w1 ⟨g, rfl, hg, hb1⟩
  rw [hG.out] at hg
  replace hS := keep_and (keep_and keep_last) hS hb1
  clear cc0 cc1 hB hR
  obtain ⟨cc0, cc1, hB, hR⟩ := id hS
  go_wp2_with fail
  refine (nat_Bits _ (hu.below hB) (by omega)).mono ?_
  rintro e w2 ⟨k, rfl, hk, ⟨m2, rfl⟩⟩
  replace hS := keep_and (keep_and keep_last) hS ((Below.refl _ _).drewsN m2)
  replace hg := hg.drewN m2
  clear cc0 cc1 hB hR hb1
  generalize w1.drewN m2 = W2 at *
  obtain ⟨cc0, cc1, hB, hR⟩ := id hS
  rcases Nat.eq_zero_or_pos k with rfl | hkp
  · have ht0 := As.mk (hk.1 rfl)
    clear hk
    go_wp2_with fail
    refine (rat_zero _).mono ?_
    rintro e w3 ⟨r, rfl, hr, hb3⟩
    have hst := As.mk (fun x y z => RatV.stored (x := x) (y := y) (z := z) (show w.heap.size ≤ w.heap.size + 1 by omega) hS.2.2.2 hr)
    replace hS := keep_and (keep_and keep_last) hS hb3
    obtain ⟨A3, c3, B3, d3, rfl⟩ := hr.slice
    obtain ⟨⟨⟨x4, h4⟩, f4⟩, ⟨⟨x5, h5⟩, f5⟩, ⟨x6, h6⟩, f6⟩ := And.intro (hS.2.2.2.2 0 (by omega)) (And.intro (hS.2.2.2.2 1 (by omega)) (hS.2.2.2.2 2 (by omega)))
    have hB := As.mk hS.2.2.1
    clear hS hr hb3
    go_wp2_with fail
    refine bodyPost_ret (v := .agg #[.bool (decide ((0 : Rat).num < 0)), .slice A3 (sz (0 : Rat).num) c3, .slice B3 (dig (0 : Rat).den).length d3]) (by simp [results, Try.results54, go_sem, h4, h5, h6]) rfl ?_
    rw [show q = 0 from hz0.out (.inr ht0.out)]
    exact ⟨_, rfl, hst.out _ _ _, ((hB.out.setCell (by simp) _).setCell (by simp) _).setCell (by simp) _⟩
  have hk0 : ((k : Int) == 0) = false := beq_eq_false_iff_ne.2 (by omega)
  have htp : 0 < nv t := Nat.pos_of_ne_zero (fun h => by have := hk.2 h; omega)
  replace htp := As.mk htp
  replace hk := As.mk hk
  go_wp2_with fail
  refine (nat_Bits _ (ha.below hB) (by omega)).mono ?_
  rintro e w2 ⟨k2, rfl, hk2, ⟨m3, rfl⟩⟩
  replace hS := keep_and (keep_and keep_last) hS ((Below.refl _ _).drewsN m3)
  replace hg := hg.drewN m3
  clear cc0 cc1 hB hR
  generalize W2.drewN m3 = W3 at *
  obtain ⟨cc0, cc1, hB, hR⟩ := id hS
  rcases Nat.eq_zero_or_pos k2 with rfl | hkp2
  · have ha0 := As.mk (hk2.1 rfl)
    clear hk2
    go_wp2_with fail
    refine (rat_zero _).mono ?_
    rintro e w3 ⟨r, rfl, hr, hb3⟩
    have hst := As.mk (fun x y z => RatV.stored (x := x) (y := y) (z := z) (show w.heap.size ≤ w.heap.size + 1 by omega) hS.2.2.2 hr)
    replace hS := keep_and (keep_and keep_last) hS hb3
    obtain ⟨A3, c3, B3, d3, rfl⟩ := hr.slice
    obtain ⟨⟨⟨x4, h4⟩, f4⟩, ⟨⟨x5, h5⟩, f5⟩, ⟨x6, h6⟩, f6⟩ := And.intro (hS.2.2.2.2 0 (by omega)) (And.intro (hS.2.2.2.2 1 (by omega)) (hS.2.2.2.2 2 (by omega)))
    have hB := As.mk hS.2.2.1
    clear hS hr hb3
    go_wp2_with fail
    refine bodyPost_ret (v := .agg #[.bool (decide ((0 : Rat).num < 0)), .slice A3 (sz (0 : Rat).num) c3, .slice B3 (dig (0 : Rat).den).length d3]) (by simp [results, Try.results54, go_sem, h4, h5, h6]) rfl ?_
    rw [show q = 0 from hz0.out (.inl ha0.out)]
    exact ⟨_, rfl, hst.out _ _ _, ((hB.out.setCell (by simp) _).setCell (by simp) _).setCell (by simp) _⟩
  have hRW := hR
  have hk20 : ((k2 : Int) == 0) = false := beq_eq_false_iff_ne.2 (by omega)
  have hap : 0 < nv a := Nat.pos_of_ne_zero (fun h => by have := hk2.2 h; omega)
  have hGp := hgp.out hap
  have hlG : (dig G).length ≤ 35184372088829 := hlg.out.resolve_right (by have := htp.out; omega)
  have hGn := nv_dig G
  have hqn := hzn.out htp.out
  have hqd := hzd.out htp.out
  replace hap := As.mk hap
  replace hk2 := As.mk hk2
  go_wp2_with fail
  refine (nat_DivMod _ (ha.below hB) hg (by omega) (by omega) (by rw [hGn]; exact hGp)).mono ?_
  rintro e w3 ⟨q1, r1, rfl, hq1, hr1, hb3⟩
  rw [hGn] at hq1
  replace hS := keep_and (keep_and keep_last) hS hb3
  replace hg := hg.below hb3
  clear cc0 cc1 hB hR hr1
  have hzW : W3.heap.size ≤ w3.heap.size := hb3.size
  clear hb3
  obtain ⟨cc0, cc1, hB, hR⟩ := id hS
  go_wp2_with fail
  refine (nat_DivMod _ (hu.below hB) hg (by omega) (by omega) (by rw [hGn]; exact hGp)).mono ?_
  rintro e w4 ⟨q2, r2, rfl, hq2, hr2, hb4⟩
  rw [hGn] at hq2
  replace hq1 := hq1.below hb4
  replace hS := keep_and (keep_and keep_last) hS hb4
  have hzW2 : w3.heap.size ≤ w4.heap.size := hb4.size
  clear cc0 cc1 hB hR hr2 hb4 hg
  obtain ⟨cc0, cc1, hB, hR⟩ := id hS
  go_wp2_with fail
  refine (int_Make _ hq1 hlq).mono ?_
  rintro e w5 ⟨v5, rfl, ⟨u5, rfl, hn5⟩, hb5⟩
  have hrat : RatV (New W3) w5 (.agg #[.bool (decide (iv neg (dig (nv a / G)) < 0)), u5, q2]) q :=
    ⟨u5, q2, by rw [hqn], by rw [hqn]; exact hn5.mono (fun k hk _ => by have : w4.heap.size ≤ k := hk; show W3.heap.size ≤ k; omega), by rw [hqd]; exact (hq2.below hb5).mono (fun k hk _ => by have : w3.heap.size ≤ k := hk; show W3.heap.size ≤ k; omega)⟩
  have hst := As.mk (fun x y z => RatV.stored (x := x) (y := y) (z := z) (show w.heap.size ≤ w.heap.size + 1 by omega) hRW hrat)
  replace hS := keep_and (keep_and keep_last) hS hb5
  obtain ⟨A3, c3, rfl⟩ := hn5.slice
  obtain ⟨B3, d3, rfl⟩ := hq2.slice
  obtain ⟨⟨⟨x4, h4⟩, f4⟩, ⟨⟨x5, h5⟩, f5⟩, ⟨x6, h6⟩, f6⟩ := And.intro (hS.2.2.2.2 0 (by omega)) (And.intro (hS.2.2.2.2 1 (by omega)) (hS.2.2.2.2 2 (by omega)))
  have hB := As.mk hS.2.2.1
  clear hS hrat hn5 hq2 hq1 cc0 cc1 hR hRW hqn hqd hb5
  go_wp2_with fail
  refine bodyPost_ret (v := .agg #[.bool (decide (iv neg (dig (nv a / G)) < 0)), .slice A3 (dig (iv neg (dig (nv a / G))).natAbs).length c3, .slice B3 (dig (nv t / G)).length d3]) (by simp [results, Try.results54, go_sem, h4, h5, h6]) rfl ?_
  exact ⟨_, rfl, hst.out _ _ _, ((hB.out.setCell (by simp) _).setCell (by simp) _).setCell (by simp) _⟩
end Go.Proofs.Ytdbpjnjgjmfomaa

/- The program's ratios, third part: numerator and denominator. -/
namespace Go.Proofs.Ytdbpjnjgjmfomaa
open Go.RowKit

theorem keep_B {w W W' : World} {p q : Prop} (hpq : p → Below W.heap.size W W' → q) (h : Below w.heap.size w W ∧ p) (hb : Below W.heap.size W W') : Below w.heap.size w W' ∧ q := ⟨h.1.after h.1.size hb, hpq h.2 hb⟩
theorem keep_R {W W' : World} {b k : Nat} {p q : Prop} (hpq : p → Below W.heap.size W W' → q) (h : Res W b k ∧ p) (hb : Below W.heap.size W W') : Res W' b k ∧ q := ⟨h.1.below hb, hpq h.2 hb⟩
theorem keep_p {W W' : World} {r r' p q : Prop} (hr : r → Below W.heap.size W W' → r') (hpq : p → Below W.heap.size W W' → q) (h : r ∧ p) (hb : Below W.heap.size W W') : r' ∧ q := ⟨hr h.1 hb, hpq h.2 hb⟩
theorem set_B {w W : World} {a : Addr} {u : Value} {p q : Prop} (ha : w.heap.size ≤ a.block) (hpq : p → q) (h : Below w.heap.size w W ∧ p) : Below w.heap.size w (W.setCell a u) ∧ q := ⟨h.1.setCell ha u, hpq h.2⟩
theorem set_B1 {w W : World} {a : Addr} {u : Value} (ha : w.heap.size ≤ a.block) (h : Below w.heap.size w W) : Below w.heap.size w (W.setCell a u) := h.setCell ha u
theorem set_R {W : World} {a : Addr} {u : Value} {b k : Nat} {p q : Prop} (hpq : p → q) (h : Res W b k ∧ p) : Res (W.setCell a u) b k ∧ q := ⟨h.1.set a u, hpq h.2⟩
theorem set_R1 {W : World} {a : Addr} {u : Value} {b k : Nat} (h : Res W b k) : Res (W.setCell a u) b k := h.set a u
theorem set_p {r r' p q : Prop} (hr : r → r') (hpq : p → q) (h : r ∧ p) : r' ∧ q := ⟨hr h.1, hpq h.2⟩
theorem rat_den0 (z : Int) (t : List Int) (h : nv t = 0) : ((z : Int) : Rat) / ((nv t : Nat) : Rat) = 0 := by rw [h]; exact low_zero _ _ (.inr rfl)
theorem rat_one0 : (((0 : Int) : Int) : Rat) / ((1 : Nat) : Rat) = 0 := low_zero _ _ (.inl rfl)
theorem dig_one_len : (dig 1).length ≤ 1 := dig_length_le 1 1 (by omega)
theorem NumV.set2 {S : Nat → Prop} {w : World} {v : Value} {l : List Int} (h : NumV S w v l) {b : Nat} (hp : ∀ k, S k → k < w.heap.size → k ≠ b) (x y : Value) : NumV S ((w.setCell ⟨b, 0, none⟩ x).setCell ⟨b, 1, none⟩ y) v l :=
  (h.set (by simpa using hp) x).set (by intro k h1 h2; exact hp k h1 (by simpa [World.setCell] using h2)) y

set_option maxHeartbeats 4000000 in
set_option maxRecDepth 100000 in
theorem rat_parts {S : Nat → Prop} {v : Value} {q : Rat} {n : Nat} (w : World) (hv : RatI S w v q n) (h1 : 1 ≤ n) (hm : n ≤ 35184372088829) :
    Calls Try.prog 53 #[v] w fun e w' => ∃ r s z D, e = .returned (.tuple #[r, s]) ∧ IntI S w' r z n ∧ IntV (New w) w' s (D : Nat) ∧ 0 < D ∧ (dig D).length ≤ n ∧ ((z : Int) : Rat) / ((D : Nat) : Rat) = q ∧ Below w.heap.size w w' := by
  obtain ⟨neg, u, d, a, t, rfl, ha, ht, hq, hla, hlt⟩ := hv
  obtain ⟨A, c, rfl⟩ := ha.slice
  obtain ⟨B, d, rfl⟩ := ht.slice
  have hq0 := As.mk (rat_den0 (iv neg a) t)
  have haw := ha.mono (T := fun k => S k ∧ k < w.heap.size) (fun k h1 h2 => ⟨h1, h2⟩)
  replace hq := As.mk hq
  go_enter Try.func53, Try.ntmps53
  go_wp2_with fail
  obtain ⟨W, hW⟩ : ∃ W, (((w.alloc (Obj.cells #[Value.bool neg, Value.slice A a.length c, Value.slice B t.length d] 40)).alloc (Obj.cells #[Value.bool false, Value.slice none 0 0] 38)).alloc (Obj.cells #[Value.bool false, Value.slice none 0 0] 38)) = W := ⟨_, rfl⟩
  have hs : W.heap.size = w.heap.size + 3 := by rw [← hW]; simp
  have hB : Below w.heap.size w W := by rw [← hW]; exact ((((Below.refl _ _).alloc (by simp <;> omega) _).alloc (by simp <;> omega) _).alloc (by simp <;> omega) _)
  have cc0 : W.cell? ⟨w.heap.size, 0, none⟩ = some (.bool neg) := by subst hW; simp [go_sem]
  have cc1 : W.cell? ⟨w.heap.size, 1, none⟩ = some (.slice A a.length c) := by subst hW; simp [go_sem]
  have cc2 : W.cell? ⟨w.heap.size, 2, none⟩ = some (.slice B t.length d) := by subst hW; simp [go_sem]
  have hR1 : Res W (w.heap.size + 1) 2 := ⟨by omega, fun i hi => by
    subst hW
    rcases (by omega : i = 0 ∨ i = 1) with rfl | rfl
    · exact ⟨⟨.bool false, by simp [go_sem]⟩, by simp [go_sem]⟩
    · exact ⟨⟨.slice none 0 0, by simp [go_sem]⟩, by simp [go_sem]⟩⟩
  have hR2 : Res W (w.heap.size + 2) 2 := ⟨by omega, fun i hi => by
    subst hW
    rcases (by omega : i = 0 ∨ i = 1) with rfl | rfl
    · exact ⟨⟨.bool false, by simp [go_sem]⟩, by simp [go_sem]⟩
    · exact ⟨⟨.slice none 0 0, by simp [go_sem]⟩, by simp [go_sem]⟩⟩
  rw [hW]
  clear hW
  refine (nat_Bits _ (ht.below hB) (by omega)).mono ?_
  rintro e w2 ⟨k, rfl, hk, ⟨m2, rfl⟩⟩
  have hS : W.cell? ⟨w.heap.size, 0, none⟩ = some (.bool neg) ∧ W.cell? ⟨w.heap.size, 1, none⟩ = some (.slice A a.length c) ∧ W.cell? ⟨w.heap.size, 2, none⟩ = some (.slice B t.length d) ∧ Below w.heap.size w W ∧ Res W (w.heap.size + 1) 2 ∧ Res W (w.heap.size + 2) 2 := ⟨cc0, cc1, cc2, hB, hR1, hR2⟩
  replace hS := (keep_and (keep_and (keep_and (keep_B (keep_R (Res.below)))))) hS ((Below.refl _ _).drewsN m2)
  clear cc0 cc1 cc2 hB hR1 hR2
  generalize W.drewN m2 = W2 at *
  obtain ⟨cc0, cc1, cc2, hB, hR1, hR2⟩ := id hS
  rcases Nat.eq_zero_or_pos k with rfl | hkp
  · have ht0 := As.mk (hq0.out (hk.1 rfl))
    clear hk
    go_wp2_with fail
    refine (nat_Of 1 _ (by omega)).mono ?_
    rintro e w3 ⟨o, rfl, ho, hb3⟩
    replace hS := (keep_and (keep_and (keep_and (keep_B (keep_R (Res.below)))))) hS hb3
    go_wp2_with fail
    refine (rat_whole _ ho (by have := dig_one_len; omega)).mono ?_
    rintro e w4 ⟨o2, rfl, ho2, hb4⟩
    have hR9 := hS.2.2.2.2.2
    replace hS := (keep_and (keep_and (keep_and (keep_B (keep_R (Res.below)))))) hS hb4
    rw [nv_dig] at ho2
    obtain ⟨A2, c2, rfl, ho3⟩ := ho2.slice
    obtain ⟨⟨⟨x4, h4⟩, f4⟩, ⟨x5, h5⟩, f5⟩ := And.intro (hS.2.2.2.2.1.2 0 (by omega)) (hS.2.2.2.2.1.2 1 (by omega))
    obtain ⟨⟨⟨x6, h6⟩, f6⟩, ⟨x7, h7⟩, f7⟩ := And.intro (hS.2.2.2.2.2.2 0 (by omega)) (hS.2.2.2.2.2.2 1 (by omega))
    have hB9 := As.mk hS.2.2.2.1
    have hw3 : w.heap.size + 3 ≤ w3.heap.size := hR9.1
    clear hS cc0 cc1 cc2 hB hR1 hR2 hb3 hb4 ho ho2
    go_wp2_with fail
    refine bodyPost_ret (v := .tuple #[.agg #[.bool false, .slice none 0 0], .agg #[.bool (decide (((1 : Nat) : Int) < 0)), .slice A2 (sz ((1 : Nat) : Int)) c2]]) (by simp [results, Try.results53, go_sem, h4, h5, h6, h7]) rfl ?_
    have hn : ∀ k, New w3 k → k < w4.heap.size → k ≠ w.heap.size + 1 ∧ k ≠ w.heap.size + 2 := fun k hk _ => by have : w3.heap.size ≤ k := hk; omega
    refine ⟨_, _, 0, 1, rfl, ⟨false, _, [], rfl, NumV.nil _ _, rfl, Nat.zero_le _⟩, ⟨_, rfl, ?_⟩, by omega, Nat.le_trans dig_one_len h1, by rw [← hq.out, ht0.out]; exact rat_one0, (((hB9.out.setCell (by simp <;> omega) _).setCell (by simp <;> omega) _).setCell (by simp <;> omega) _).setCell (by simp <;> omega) _⟩
    exact ((ho3.set2 (fun k h1 h2 => (hn k h1 h2).1) _ _).set2 (fun k h1 h2 => (hn k h1 (by simpa [World.setCell] using h2)).2) _ _).mono (fun k hk _ => by have : w3.heap.size ≤ k := hk; show w.heap.size ≤ k; omega)
  · have hk0 : ((k : Int) == 0) = false := beq_eq_false_iff_ne.2 (by omega)
    have htp := As.mk (show 0 < nv t from Nat.pos_of_ne_zero (fun h => by have := hk.2 h; omega))
    replace hk := As.mk hk
    go_wp2_with fail
    go_region_held3 (fun w' => w'.cell? ⟨w.heap.size, 0, none⟩ = some (.bool neg) ∧ w'.cell? ⟨w.heap.size, 1, none⟩ = some (.slice A a.length c) ∧ w'.cell? ⟨w.heap.size, 2, none⟩ = some (.slice B t.length d) ∧ Below w.heap.size w w' ∧ Res w' (w.heap.size + 1) 2 ∧ Res w' (w.heap.size + 2) 2)
      ((first
        | exact (keep_and (keep_and (keep_and (keep_B (keep_R (Res.below)))))) ⟨cc0, cc1, cc2, hB, hR1, hR2⟩ (below_drew _)
        | exact (keep_and (keep_and (keep_and (keep_B (keep_R (Res.below)))))) (by assumption) (below_drew _)
        | exact (keep_and (keep_and (keep_and (keep_B (keep_R (Res.below)))))) (by assumption) (by assumption)
        | exact (set_held (by simp <;> omega) (set_held (by simp <;> omega) (set_held (by simp <;> omega) (set_B (by simp <;> omega) (set_R (set_R1)))))) ((set_held (by simp <;> omega) (set_held (by simp <;> omega) (set_held (by simp <;> omega) (set_B (by simp <;> omega) (set_R (set_R1)))))) (by assumption))))
      (first
        | (go_at_call 85; obtain ⟨_, _, _, hB1, hRg4, hRg5⟩ := ‹(_ = some _) ∧ (_ = some _) ∧ (_ = some _) ∧ Below _ _ _ ∧ Res _ _ _ ∧ Res _ _ _›; refine (rat_whole _ (ht.below hB1) (by omega)).mono ?_; rintro e w4 ⟨o2, rfl, ho2, hb4⟩; obtain ⟨A2, c2, rfl, ho3⟩ := ho2.slice; obtain ⟨⟨⟨x4, h4⟩, f4⟩, ⟨x5, h5⟩, f5⟩ := And.intro ((hRg4.below hb4).2 0 (by omega)) ((hRg4.below hb4).2 1 (by omega)); obtain ⟨⟨⟨x6, h6⟩, f6⟩, ⟨x7, h7⟩, f7⟩ := And.intro ((hRg5.below hb4).2 0 (by omega)) ((hRg5.below hb4).2 1 (by omega))))
    have hB9 := As.mk (hB1.after hB1.size hb4)
    have ho4 := ho3
    have hn : ∀ k, New W2.drew k → k < w4.heap.size → k ≠ w.heap.size + 1 ∧ k ≠ w.heap.size + 2 := fun k hk _ => by have : W2.heap.size ≤ k := hk; have := hR2.1; omega
    have hm1 : ∀ k, (S k ∧ k < w.heap.size) → k < w4.heap.size → k ≠ w.heap.size + 1 ∧ k ≠ w.heap.size + 2 := fun k hk _ => by have := hk.2; omega
    have haf := (haw.below hB1).below hb4
    have hW2 : w.heap.size ≤ W2.heap.size := hB.size
    clear cc0 cc1 cc2 hB hR1 hR2 hS
    go_wp2_with fail
    refine bodyPost_ret (v := .tuple #[.agg #[.bool neg, .slice A a.length c], .agg #[.bool (decide (((nv t : Nat) : Int) < 0)), .slice A2 (sz ((nv t : Nat) : Int)) c2]]) (by simp [results, Try.results53, go_sem, h4, h5, h6, h7]) rfl ?_
    refine ⟨_, _, iv neg a, nv t, rfl, ⟨neg, _, a, rfl, ?_, rfl, hla⟩, ⟨_, rfl, ?_⟩, htp.out, Nat.le_trans (dig_len_le ht.1) hlt, hq.out, (((hB9.out.setCell (by simp <;> omega) _).setCell (by simp <;> omega) _).setCell (by simp <;> omega) _).setCell (by simp <;> omega) _⟩
    · exact ((haf.set2 (fun k h1 h2 => (hm1 k h1 h2).1) _ _).set2 (fun k h1 h2 => (hm1 k h1 (by simpa [World.setCell] using h2)).2) _ _).mono (fun k hk _ => hk.1)
    · exact ((ho4.set2 (fun k h1 h2 => (hn k h1 h2).1) _ _).set2 (fun k h1 h2 => (hn k h1 (by simpa [World.setCell] using h2)).2) _ _).mono (fun k hk _ => by have : W2.heap.size ≤ k := hk; show w.heap.size ≤ k; omega)
end Go.Proofs.Ytdbpjnjgjmfomaa

/- The program's ratios, fourth part: two numerators and denominators; Mul. -/
namespace Go.Proofs.Ytdbpjnjgjmfomaa
open Go.RowKit

theorem IntV.pos {S : Nat → Prop} {w : World} {v : Value} {D : Nat} (h : IntV S w v (D : Nat)) : ∃ A c, v = .agg #[.bool false, .slice A (dig D).length c] ∧ NumV S w (.slice A (dig D).length c) (dig D) := by
  obtain ⟨A, c, rfl, hn⟩ := h.slice
  have h1 : decide (((D : Nat) : Int) < 0) = false := decide_eq_false (by omega)
  have h2 : ((D : Nat) : Int).natAbs = D := rfl
  unfold sz at hn ⊢
  rw [h2] at hn ⊢
  rw [h1]
  exact ⟨A, c, rfl, hn⟩
theorem set_I {S : Nat → Prop} {w : World} {v : Value} {z : Int} {n : Nat} {p : Addr} {x : Value} (hp : ∀ k, S k → k ≠ p.block) (h : IntI S w v z n) : IntI S (w.setCell p x) v z n := h.step (fun k hs _ => Below.heap_setCell w p x k (hp k hs))
theorem set_N {S : Nat → Prop} {w : World} {v : Value} {l : List Int} {p : Addr} {x : Value} (hp : ¬ S p.block) (h : NumV S w v l) : NumV S (w.setCell p x) v l := h.stored hp x
theorem sz_mul (x y : Int) : sz (x * y) ≤ sz x + sz y := by unfold sz; rw [Int.natAbs_mul]; exact dig_len_mul _ _
theorem rat_mul_eq (z1 z2 : Int) (D1 D2 : Nat) (_h1 : 0 < D1) (_h2 : 0 < D2) : ((z1 * z2 : Int) : Rat) / ((D1 * D2 : Nat) : Rat) = ((z1 : Rat) / (D1 : Rat)) * ((z2 : Rat) / (D2 : Rat)) := by
  rw [Rat.intCast_mul, Rat.natCast_mul]; grind

set_option maxHeartbeats 8000000 in
set_option maxRecDepth 100000 in
theorem rat_Mul {S T : Nat → Prop} {v u : Value} {p q : Rat} {m n : Nat} (w : World) (hv : RatI S w v p m) (hu : RatI T w u q n) (h1 : 1 ≤ m) (h2 : 1 ≤ n) (hm : m + n ≤ 35184372088829) :
    Calls Try.prog 28 #[v, u] w fun e w' => ∃ r, e = .returned r ∧ RatV (New w) w' r (p * q) ∧ Below w.heap.size w w' := by
  obtain ⟨na, u1, e1, a1, t1, rfl, ha1, ht1, hq1, hla1, hlt1⟩ := id hv
  obtain ⟨nb, u2, e2, a2, t2, rfl, ha2, ht2, hq2, hla2, hlt2⟩ := id hu
  obtain ⟨A1, c1, rfl⟩ := ha1.slice
  obtain ⟨B1, d1, rfl⟩ := ht1.slice
  obtain ⟨A2, c2, rfl⟩ := ha2.slice
  obtain ⟨B2, d2, rfl⟩ := ht2.slice
  have hv0 := hv.mono (T := fun k => k < w.heap.size) (fun k _ h2 => h2)
  have hu0 := hu.mono (T := fun k => k < w.heap.size) (fun k _ h2 => h2)
  clear hv hu ha1 ht1 ha2 ht2 hq1 hq2
  go_enter Try.func28, Try.ntmps28
  go_wp2_with fail
  obtain ⟨W, hW⟩ : ∃ W, (((w.alloc (Obj.cells #[Value.bool na, Value.slice A1 a1.length c1, Value.slice B1 t1.length d1] 40)).alloc (Obj.cells #[Value.bool nb, Value.slice A2 a2.length c2, Value.slice B2 t2.length d2] 40)).alloc (Obj.cells #[Value.bool false, Value.slice none 0 0, Value.slice none 0 0] 40)) = W := ⟨_, rfl⟩
  have hs : W.heap.size = w.heap.size + 3 := by rw [← hW]; simp
  have hB : Below w.heap.size w W := by rw [← hW]; exact ((((Below.refl _ _).alloc (by simp <;> omega) _).alloc (by simp <;> omega) _).alloc (by simp <;> omega) _)
  have cc0 : W.cell? ⟨w.heap.size, 0, none⟩ = some (.bool na) := by subst hW; simp [go_sem]
  have cc1 : W.cell? ⟨w.heap.size, 1, none⟩ = some (.slice A1 a1.length c1) := by subst hW; simp [go_sem]
  have cc2 : W.cell? ⟨w.heap.size, 2, none⟩ = some (.slice B1 t1.length d1) := by subst hW; simp [go_sem]
  have cc3 : W.cell? ⟨w.heap.size + 1, 0, none⟩ = some (.bool nb) := by subst hW; simp [go_sem]
  have cc4 : W.cell? ⟨w.heap.size + 1, 1, none⟩ = some (.slice A2 a2.length c2) := by subst hW; simp [go_sem]
  have cc5 : W.cell? ⟨w.heap.size + 1, 2, none⟩ = some (.slice B2 t2.length d2) := by subst hW; simp [go_sem]
  have hR2 : Res W (w.heap.size + 2) 3 := ⟨by omega, fun i hi => by
    subst hW
    rcases (by omega : i = 0 ∨ i = 1 ∨ i = 2) with rfl | rfl | rfl
    · exact ⟨⟨.bool false, by simp [go_sem]⟩, by simp [go_sem]⟩
    · exact ⟨⟨.slice none 0 0, by simp [go_sem]⟩, by simp [go_sem]⟩
    · exact ⟨⟨.slice none 0 0, by simp [go_sem]⟩, by simp [go_sem]⟩⟩
  rw [hW]
  clear hW
  have hS : W.cell? ⟨w.heap.size, 0, none⟩ = some (.bool na) ∧ W.cell? ⟨w.heap.size, 1, none⟩ = some (.slice A1 a1.length c1) ∧ W.cell? ⟨w.heap.size, 2, none⟩ = some (.slice B1 t1.length d1) ∧ W.cell? ⟨w.heap.size + 1, 0, none⟩ = some (.bool nb) ∧ W.cell? ⟨w.heap.size + 1, 1, none⟩ = some (.slice A2 a2.length c2) ∧ W.cell? ⟨w.heap.size + 1, 2, none⟩ = some (.slice B2 t2.length d2) ∧ Below w.heap.size w W ∧ Res W (w.heap.size + 2) 3 := ⟨cc0, cc1, cc2, cc3, cc4, cc5, hB, hR2⟩
  refine (rat_parts _ (hv0.below hB) h1 (by omega)).mono ?_
  rintro e w1 ⟨r1, s1, z1, D1, rfl, hr1, hs1, hD1, hl1, hq1, hb1⟩
  replace hr1 := hr1.mono (T := fun k => k < w.heap.size) (fun k h _ => h)
  obtain ⟨As1, cs1, rfl, hns1⟩ := hs1.pos
  replace hns1 := hns1.mono (T := fun k => w.heap.size + 3 ≤ k ∧ k < w1.heap.size) (fun k h1 h2 => ⟨by have : W.heap.size ≤ k := h1; omega, h2⟩)
  replace hS := (keep_and (keep_and (keep_and (keep_and (keep_and (keep_and (keep_B (Res.below)))))))) hS hb1
  have hz1 : w.heap.size + 3 ≤ w1.heap.size := by have := hb1.size; omega
  clear cc0 cc1 cc2 cc3 cc4 cc5 hB hb1 hR2
  obtain ⟨cc0, cc1, cc2, cc3, cc4, cc5, hB, hR2⟩ := id hS
  obtain ⟨nr, ur, lr, rfl, hur, hzr, hlr⟩ := id hr1
  obtain ⟨Ar, cr, rfl⟩ := hur.slice
  clear hur hzr hs1
  have l0 : w.heap.size < w1.heap.size := by omega
  have l1 : w.heap.size + 1 < w1.heap.size := by omega
  have l2 : w.heap.size + 2 < w1.heap.size := by omega
  go_wp2_with fail
  obtain ⟨W2, hW2⟩ : ∃ W2, ((w1.alloc (Obj.cells #[Value.bool nr, Value.slice Ar lr.length cr] 38)).alloc (Obj.cells #[Value.bool false, Value.slice As1 (dig D1).length cs1] 38)) = W2 := ⟨_, rfl⟩
  have hs2 : W2.heap.size = w1.heap.size + 2 := by rw [← hW2]; simp
  have hb12 : Below w1.heap.size w1 W2 := by rw [← hW2]; exact ((Below.refl _ _).alloc (by simp) _).alloc (by simp) _
  have k0 : W2.cell? ⟨w1.heap.size, 0, none⟩ = some (.bool nr) := by subst hW2; simp [go_sem]
  have k1 : W2.cell? ⟨w1.heap.size, 1, none⟩ = some (.slice Ar lr.length cr) := by subst hW2; simp [go_sem]
  have k2 : W2.cell? ⟨w1.heap.size + 1, 0, none⟩ = some (.bool false) := by subst hW2; simp [go_sem]
  have k3 : W2.cell? ⟨w1.heap.size + 1, 1, none⟩ = some (.slice As1 (dig D1).length cs1) := by subst hW2; simp [go_sem]
  rw [hW2]
  clear hW2
  replace hr1 := hr1.below hb12
  replace hns1 := hns1.below hb12
  replace hS := (keep_and (keep_and (keep_and (keep_and (keep_and (keep_and (keep_B (Res.below)))))))) hS hb12
  clear cc0 cc1 cc2 cc3 cc4 cc5 hB hb12 hR2
  obtain ⟨cc0, cc1, cc2, cc3, cc4, cc5, hB, hR2⟩ := id hS
  refine (rat_parts _ (hu0.below hB) h2 (by omega)).mono ?_
  rintro e w3 ⟨r2, s2, z2, D2, rfl, hr2, hs2', hD2, hl2, hq2, hb3⟩
  replace hr2 := hr2.mono (T := fun k => k < w.heap.size) (fun k h _ => h)
  obtain ⟨As2, cs2, rfl, hns2⟩ := hs2'.pos
  replace hns2 := hns2.mono (T := fun k => w.heap.size + 3 ≤ k ∧ k < w3.heap.size) (fun k h1 h2 => ⟨by have : W2.heap.size ≤ k := h1; omega, h2⟩)
  replace hS := (keep_and (keep_and (keep_and (keep_and (keep_and (keep_and (keep_B (Res.below)))))))) hS hb3
  have hk := (keep_and (keep_and (keep_and keep_cell))) ⟨k0, k1, k2, k3⟩ hb3
  replace hr1 := hr1.below hb3
  replace hns1 := hns1.below hb3
  have l3 : w1.heap.size + 2 ≤ w3.heap.size := by have := hb3.size; omega
  clear cc0 cc1 cc2 cc3 cc4 cc5 hB hb3 k0 k1 k2 k3 hs2 hR2 hs2'
  obtain ⟨cc0, cc1, cc2, cc3, cc4, cc5, hB, hR2⟩ := id hS
  obtain ⟨k0, k1, k2, k3⟩ := id hk
  obtain ⟨nr2, ur2, lr2, rfl, hur2, hzr2, hlr2⟩ := id hr2
  obtain ⟨Ar2, cr2, rfl⟩ := hur2.slice
  clear hur2 hzr2
  go_wp2_with fail
  obtain ⟨W4, hW4⟩ : ∃ W4, ((w3.alloc (Obj.cells #[Value.bool nr2, Value.slice Ar2 lr2.length cr2] 38)).alloc (Obj.cells #[Value.bool false, Value.slice As2 (dig D2).length cs2] 38)) = W4 := ⟨_, rfl⟩
  have hb34 : Below w3.heap.size w3 W4 := by rw [← hW4]; exact ((Below.refl _ _).alloc (by simp) _).alloc (by simp) _
  have k4 : W4.cell? ⟨w3.heap.size, 0, none⟩ = some (.bool nr2) := by subst hW4; simp [go_sem]
  have k5 : W4.cell? ⟨w3.heap.size, 1, none⟩ = some (.slice Ar2 lr2.length cr2) := by subst hW4; simp [go_sem]
  have k6 : W4.cell? ⟨w3.heap.size + 1, 0, none⟩ = some (.bool false) := by subst hW4; simp [go_sem]
  have k7 : W4.cell? ⟨w3.heap.size + 1, 1, none⟩ = some (.slice As2 (dig D2).length cs2) := by subst hW4; simp [go_sem]
  rw [hW4]
  clear hW4
  replace hr1 := hr1.below hb34
  replace hns1 := hns1.below hb34
  replace hr2 := hr2.below hb34
  replace hns2 := hns2.below hb34
  replace hS := (keep_and (keep_and (keep_and (keep_and (keep_and (keep_and (keep_B (Res.below)))))))) hS hb34
  replace hk := (keep_and (keep_and (keep_and keep_cell))) hk hb34
  clear cc0 cc1 cc2 cc3 cc4 cc5 hB hb34 k0 k1 k2 k3 hR2
  obtain ⟨cc0, cc1, cc2, cc3, cc4, cc5, hB, hR2⟩ := id hS
  obtain ⟨k0, k1, k2, k3⟩ := id hk
  clear cc0 cc1 cc2 cc3 cc4 cc5 hS hk l0 l1
  generalize w1.heap.size = N1 at *
  generalize w3.heap.size = N2 at *
  have hlm : sz (z1 * z2) ≤ 35184372088829 := by have := sz_mul z1 z2; have := hr1.sz; have := hr2.sz; omega
  have hQ : As (((z1 * z2 : Int) : Rat) / ((nv (dig (D1 * D2)) : Nat) : Rat) = p * q) := ⟨by rw [nv_dig, rat_mul_eq _ _ _ _ hD1 hD2, hq1, hq2]⟩
  have hln : (dig (D1 * D2)).length ≤ 35184372088829 := by have := dig_len_mul D1 D2; omega
  go_region_held3 (fun w' => w'.cell? ⟨N1, 0, none⟩ = some (.bool nr) ∧ w'.cell? ⟨N1, 1, none⟩ = some (.slice Ar lr.length cr) ∧ w'.cell? ⟨N1 + 1, 0, none⟩ = some (.bool false) ∧ w'.cell? ⟨N1 + 1, 1, none⟩ = some (.slice As1 (dig D1).length cs1) ∧ w'.cell? ⟨N2, 0, none⟩ = some (.bool nr2) ∧ w'.cell? ⟨N2, 1, none⟩ = some (.slice Ar2 lr2.length cr2) ∧ w'.cell? ⟨N2 + 1, 0, none⟩ = some (.bool false) ∧ w'.cell? ⟨N2 + 1, 1, none⟩ = some (.slice As2 (dig D2).length cs2) ∧ IntI (fun k => k < w.heap.size) w' (Value.agg #[Value.bool nr, Value.slice Ar lr.length cr]) z1 m ∧ IntI (fun k => k < w.heap.size) w' (Value.agg #[Value.bool nr2, Value.slice Ar2 lr2.length cr2]) z2 n ∧ NumV (fun k => w.heap.size + 3 ≤ k ∧ k < N1) w' (Value.slice As1 (dig D1).length cs1) (dig D1) ∧ NumV (fun k => w.heap.size + 3 ≤ k ∧ k < N2) w' (Value.slice As2 (dig D2).length cs2) (dig D2) ∧ Below w.heap.size w w' ∧ Res w' (w.heap.size + 2) 3)
    ((first
      | exact (keep_and (keep_and (keep_and (keep_and (keep_and (keep_and (keep_and (keep_and (keep_p IntI.below (keep_p IntI.below (keep_p NumV.below (keep_p NumV.below (keep_B (Res.below)))))))))))))) ⟨k0, k1, k2, k3, k4, k5, k6, k7, hr1, hr2, hns1, hns2, hB, hR2⟩ (below_drew _)
      | exact (keep_and (keep_and (keep_and (keep_and (keep_and (keep_and (keep_and (keep_and (keep_p IntI.below (keep_p IntI.below (keep_p NumV.below (keep_p NumV.below (keep_B (Res.below)))))))))))))) (by assumption) (below_drew _)
      | exact (keep_and (keep_and (keep_and (keep_and (keep_and (keep_and (keep_and (keep_and (keep_p IntI.below (keep_p IntI.below (keep_p NumV.below (keep_p NumV.below (keep_B (Res.below)))))))))))))) (by assumption) (by assumption)
      | exact (set_held (by simp <;> omega) (set_held (by simp <;> omega) (set_held (by simp <;> omega) (set_held (by simp <;> omega) (set_held (by simp <;> omega) (set_held (by simp <;> omega) (set_held (by simp <;> omega) (set_held (by simp <;> omega) (set_p (set_I (by intro k hk; simp <;> omega)) (set_p (set_I (by intro k hk; simp <;> omega)) (set_p (set_N (by simp <;> omega)) (set_p (set_N (by simp <;> omega)) (set_B (by simp <;> omega) (set_R1)))))))))))))) ((set_held (by simp <;> omega) (set_held (by simp <;> omega) (set_held (by simp <;> omega) (set_held (by simp <;> omega) (set_held (by simp <;> omega) (set_held (by simp <;> omega) (set_held (by simp <;> omega) (set_held (by simp <;> omega) (set_p (set_I (by intro k hk; simp <;> omega)) (set_p (set_I (by intro k hk; simp <;> omega)) (set_p (set_N (by simp <;> omega)) (set_p (set_N (by simp <;> omega)) (set_B (by simp <;> omega) (set_R1)))))))))))))) ((set_held (by simp <;> omega) (set_held (by simp <;> omega) (set_held (by simp <;> omega) (set_held (by simp <;> omega) (set_held (by simp <;> omega) (set_held (by simp <;> omega) (set_held (by simp <;> omega) (set_held (by simp <;> omega) (set_p (set_I (by intro k hk; simp <;> omega)) (set_p (set_I (by intro k hk; simp <;> omega)) (set_p (set_N (by simp <;> omega)) (set_p (set_N (by simp <;> omega)) (set_B (by simp <;> omega) (set_R1)))))))))))))) (by assumption)))))
    (first
      | (go_at_call 56; obtain ⟨_, _, _, _, _, _, _, _, hI1, hI2, hN1, hN2, hB1, hRg13⟩ := ‹(_ = some _) ∧ (_ = some _) ∧ (_ = some _) ∧ (_ = some _) ∧ (_ = some _) ∧ (_ = some _) ∧ (_ = some _) ∧ (_ = some _) ∧ IntI _ _ _ _ _ ∧ IntI _ _ _ _ _ ∧ NumV _ _ _ _ ∧ NumV _ _ _ _ ∧ Below _ _ _ ∧ Res _ _ _›; refine (int_mul _ hI1 hI2 (by omega)).mono ?_; rintro e w5 ⟨r5, rfl, hM, hb⟩; (try replace hN := hN.below hb))
      | (go_at_call 57; obtain ⟨_, _, _, _, _, _, _, _, hI1, hI2, hN1, hN2, hB1, hRg13⟩ := ‹(_ = some _) ∧ (_ = some _) ∧ (_ = some _) ∧ (_ = some _) ∧ (_ = some _) ∧ (_ = some _) ∧ (_ = some _) ∧ (_ = some _) ∧ IntI _ _ _ _ _ ∧ IntI _ _ _ _ _ ∧ NumV _ _ _ _ ∧ NumV _ _ _ _ ∧ Below _ _ _ ∧ Res _ _ _›; refine (nat_Mul _ hN1 hN2 (by omega)).mono ?_; rintro e w5 ⟨r6, rfl, hN, hb⟩; rw [nv_dig, nv_dig] at hN; (try replace hM := hM.below hb))
      | (go_at_call 54; obtain ⟨_, _, _, _, _, _, _, _, hI1, hI2, hN1, hN2, hB1, hRg13⟩ := ‹(_ = some _) ∧ (_ = some _) ∧ (_ = some _) ∧ (_ = some _) ∧ (_ = some _) ∧ (_ = some _) ∧ (_ = some _) ∧ (_ = some _) ∧ IntI _ _ _ _ _ ∧ IntI _ _ _ _ _ ∧ NumV _ _ _ _ ∧ NumV _ _ _ _ ∧ Below _ _ _ ∧ Res _ _ _›; refine (rat_lowest _ hM.i hN hlm hln).mono ?_; rintro e w7 ⟨r7, rfl, hL, hb⟩; obtain ⟨A7, c7, B7, d7, rfl⟩ := hL.slice; obtain ⟨⟨⟨x4, h4⟩, f4⟩, ⟨⟨x5, h5⟩, f5⟩, ⟨x6, h6⟩, f6⟩ := And.intro ((hRg13.below hb).2 0 (by omega)) (And.intro ((hRg13.below hb).2 1 (by omega)) ((hRg13.below hb).2 2 (by omega)))))
  all_goals
    go_wp2_with fail
    refine bodyPost_ret (v := .agg #[.bool (decide ((((z1 * z2 : Int) : Rat) / ((nv (dig (D1 * D2)) : Nat) : Rat)).num < 0)), .slice A7 (sz (((z1 * z2 : Int) : Rat) / ((nv (dig (D1 * D2)) : Nat) : Rat)).num) c7, .slice B7 (dig (((z1 * z2 : Int) : Rat) / ((nv (dig (D1 * D2)) : Nat) : Rat)).den).length d7]) (by simp [results, Try.results28, go_sem, h4, h5, h6]) rfl ?_
    have hst := fun x y z => RatV.stored (x := x) (y := y) (z := z) (show w.heap.size ≤ w.heap.size + 2 by omega) hRg13 hL
    rw [hQ.out] at hst ⊢
    exact ⟨_, rfl, hst _ _ _, (((hB1.after hB1.size hb).setCell (by simp <;> omega) _).setCell (by simp <;> omega) _).setCell (by simp <;> omega) _⟩
end Go.Proofs.Ytdbpjnjgjmfomaa

/- The program's ratios, fifth part: Add and Sub. -/
namespace Go.Proofs.Ytdbpjnjgjmfomaa
open Go.RowKit

theorem NumV.posI {S : Nat → Prop} {w : World} {v : Value} {D n : Nat} (h : NumV S w v (dig D)) (hl : (dig D).length ≤ n) : IntI S w (.agg #[.bool false, v]) ((D : Nat) : Int) n :=
  ⟨false, v, dig D, rfl, h, by show ((nv (dig D) : Nat) : Int) = _; rw [nv_dig], hl⟩
theorem sz_add (x y : Int) : sz (x + y) ≤ max (sz x) (sz y) + 1 := by
  unfold sz
  exact Nat.le_trans (dig_len_mono (Int.natAbs_add_le x y)) (dig_len_add _ _)
theorem sz_sub (x y : Int) : sz (x - y) ≤ max (sz x) (sz y) + 1 := by
  have := sz_add x (-y)
  rwa [sz_neg, ← Int.sub_eq_add_neg] at this
theorem rat_add_eq (z1 z2 : Int) (D1 D2 : Nat) (h1 : 0 < D1) (h2 : 0 < D2) : ((z1 * (D2 : Nat) + z2 * (D1 : Nat) : Int) : Rat) / ((D1 * D2 : Nat) : Rat) = ((z1 : Rat) / (D1 : Rat)) + ((z2 : Rat) / (D2 : Rat)) := by
  have e1 : (D1 : Rat) ≠ 0 := by simp; omega
  have e2 : (D2 : Rat) ≠ 0 := by simp; omega
  rw [Rat.intCast_add, Rat.intCast_mul, Rat.intCast_mul, Rat.natCast_mul, Rat.intCast_natCast, Rat.intCast_natCast]; grind
theorem rat_sub_eq (z1 z2 : Int) (D1 D2 : Nat) (h1 : 0 < D1) (h2 : 0 < D2) : ((z1 * (D2 : Nat) - z2 * (D1 : Nat) : Int) : Rat) / ((D1 * D2 : Nat) : Rat) = ((z1 : Rat) / (D1 : Rat)) - ((z2 : Rat) / (D2 : Rat)) := by
  have e1 : (D1 : Rat) ≠ 0 := by simp; omega
  have e2 : (D2 : Rat) ≠ 0 := by simp; omega
  rw [Rat.intCast_sub, Rat.intCast_mul, Rat.intCast_mul, Rat.natCast_mul, Rat.intCast_natCast, Rat.intCast_natCast]; grind

set_option maxHeartbeats 8000000 in
set_option maxRecDepth 100000 in
theorem rat_Add {S T : Nat → Prop} {v u : Value} {p q : Rat} {m n : Nat} (w : World) (hv : RatI S w v p m) (hu : RatI T w u q n) (h1 : 1 ≤ m) (h2 : 1 ≤ n) (hm : m + n ≤ 35184372088828) :
    Calls Try.prog 24 #[v, u] w fun e w' => ∃ r, e = .returned r ∧ RatV (New w) w' r (p + q) ∧ Below w.heap.size w w' := by
  obtain ⟨na, u1, e1, a1, t1, rfl, ha1, ht1, hq1, hla1, hlt1⟩ := id hv
  obtain ⟨nb, u2, e2, a2, t2, rfl, ha2, ht2, hq2, hla2, hlt2⟩ := id hu
  obtain ⟨A1, c1, rfl⟩ := ha1.slice
  obtain ⟨B1, d1, rfl⟩ := ht1.slice
  obtain ⟨A2, c2, rfl⟩ := ha2.slice
  obtain ⟨B2, d2, rfl⟩ := ht2.slice
  have hv0 := hv.mono (T := fun k => k < w.heap.size) (fun k _ h2 => h2)
  have hu0 := hu.mono (T := fun k => k < w.heap.size) (fun k _ h2 => h2)
  clear hv hu ha1 ht1 ha2 ht2 hq1 hq2
  go_enter Try.func24, Try.ntmps24
  go_wp2_with fail
  obtain ⟨W, hW⟩ : ∃ W, (((w.alloc (Obj.cells #[Value.bool na, Value.slice A1 a1.length c1, Value.slice B1 t1.length d1] 40)).alloc (Obj.cells #[Value.bool nb, Value.slice A2 a2.length c2, Value.slice B2 t2.length d2] 40)).alloc (Obj.cells #[Value.bool false, Value.slice none 0 0, Value.slice none 0 0] 40)) = W := ⟨_, rfl⟩
  have hs : W.heap.size = w.heap.size + 3 := by rw [← hW]; simp
  have hB : Below w.heap.size w W := by rw [← hW]; exact ((((Below.refl _ _).alloc (by simp <;> omega) _).alloc (by simp <;> omega) _).alloc (by simp <;> omega) _)
  have cc0 : W.cell? ⟨w.heap.size, 0, none⟩ = some (.bool na) := by subst hW; simp [go_sem]
  have cc1 : W.cell? ⟨w.heap.size, 1, none⟩ = some (.slice A1 a1.length c1) := by subst hW; simp [go_sem]
  have cc2 : W.cell? ⟨w.heap.size, 2, none⟩ = some (.slice B1 t1.length d1) := by subst hW; simp [go_sem]
  have cc3 : W.cell? ⟨w.heap.size + 1, 0, none⟩ = some (.bool nb) := by subst hW; simp [go_sem]
  have cc4 : W.cell? ⟨w.heap.size + 1, 1, none⟩ = some (.slice A2 a2.length c2) := by subst hW; simp [go_sem]
  have cc5 : W.cell? ⟨w.heap.size + 1, 2, none⟩ = some (.slice B2 t2.length d2) := by subst hW; simp [go_sem]
  have hR2 : Res W (w.heap.size + 2) 3 := ⟨by omega, fun i hi => by
    subst hW
    rcases (by omega : i = 0 ∨ i = 1 ∨ i = 2) with rfl | rfl | rfl
    · exact ⟨⟨.bool false, by simp [go_sem]⟩, by simp [go_sem]⟩
    · exact ⟨⟨.slice none 0 0, by simp [go_sem]⟩, by simp [go_sem]⟩
    · exact ⟨⟨.slice none 0 0, by simp [go_sem]⟩, by simp [go_sem]⟩⟩
  rw [hW]
  clear hW
  have hS : W.cell? ⟨w.heap.size, 0, none⟩ = some (.bool na) ∧ W.cell? ⟨w.heap.size, 1, none⟩ = some (.slice A1 a1.length c1) ∧ W.cell? ⟨w.heap.size, 2, none⟩ = some (.slice B1 t1.length d1) ∧ W.cell? ⟨w.heap.size + 1, 0, none⟩ = some (.bool nb) ∧ W.cell? ⟨w.heap.size + 1, 1, none⟩ = some (.slice A2 a2.length c2) ∧ W.cell? ⟨w.heap.size + 1, 2, none⟩ = some (.slice B2 t2.length d2) ∧ Below w.heap.size w W ∧ Res W (w.heap.size + 2) 3 := ⟨cc0, cc1, cc2, cc3, cc4, cc5, hB, hR2⟩
  refine (rat_parts _ (hv0.below hB) h1 (by omega)).mono ?_
  rintro e w1 ⟨r1, s1, z1, D1, rfl, hr1, hs1, hD1, hl1, hq1, hb1⟩
  replace hr1 := hr1.mono (T := fun k => k < w.heap.size) (fun k h _ => h)
  obtain ⟨As1, cs1, rfl, hns1⟩ := hs1.pos
  replace hns1 := hns1.mono (T := fun k => w.heap.size + 3 ≤ k ∧ k < w1.heap.size) (fun k h1 h2 => ⟨by have : W.heap.size ≤ k := h1; omega, h2⟩)
  replace hS := (keep_and (keep_and (keep_and (keep_and (keep_and (keep_and (keep_B (Res.below)))))))) hS hb1
  have hz1 : w.heap.size + 3 ≤ w1.heap.size := by have := hb1.size; omega
  clear cc0 cc1 cc2 cc3 cc4 cc5 hB hb1 hR2
  obtain ⟨cc0, cc1, cc2, cc3, cc4, cc5, hB, hR2⟩ := id hS
  obtain ⟨nr, ur, lr, rfl, hur, hzr, hlr⟩ := id hr1
  obtain ⟨Ar, cr, rfl⟩ := hur.slice
  clear hur hzr hs1
  have l0 : w.heap.size < w1.heap.size := by omega
  have l1 : w.heap.size + 1 < w1.heap.size := by omega
  have l2 : w.heap.size + 2 < w1.heap.size := by omega
  go_wp2_with fail
  obtain ⟨W2, hW2⟩ : ∃ W2, ((w1.alloc (Obj.cells #[Value.bool nr, Value.slice Ar lr.length cr] 38)).alloc (Obj.cells #[Value.bool false, Value.slice As1 (dig D1).length cs1] 38)) = W2 := ⟨_, rfl⟩
  have hs2 : W2.heap.size = w1.heap.size + 2 := by rw [← hW2]; simp
  have hb12 : Below w1.heap.size w1 W2 := by rw [← hW2]; exact ((Below.refl _ _).alloc (by simp) _).alloc (by simp) _
  have k0 : W2.cell? ⟨w1.heap.size, 0, none⟩ = some (.bool nr) := by subst hW2; simp [go_sem]
  have k1 : W2.cell? ⟨w1.heap.size, 1, none⟩ = some (.slice Ar lr.length cr) := by subst hW2; simp [go_sem]
  have k2 : W2.cell? ⟨w1.heap.size + 1, 0, none⟩ = some (.bool false) := by subst hW2; simp [go_sem]
  have k3 : W2.cell? ⟨w1.heap.size + 1, 1, none⟩ = some (.slice As1 (dig D1).length cs1) := by subst hW2; simp [go_sem]
  rw [hW2]
  clear hW2
  replace hr1 := hr1.below hb12
  replace hns1 := hns1.below hb12
  replace hS := (keep_and (keep_and (keep_and (keep_and (keep_and (keep_and (keep_B (Res.below)))))))) hS hb12
  clear cc0 cc1 cc2 cc3 cc4 cc5 hB hb12 hR2
  obtain ⟨cc0, cc1, cc2, cc3, cc4, cc5, hB, hR2⟩ := id hS
  refine (rat_parts _ (hu0.below hB) h2 (by omega)).mono ?_
  rintro e w3 ⟨r2, s2, z2, D2, rfl, hr2, hs2', hD2, hl2, hq2, hb3⟩
  replace hr2 := hr2.mono (T := fun k => k < w.heap.size) (fun k h _ => h)
  obtain ⟨As2, cs2, rfl, hns2⟩ := hs2'.pos
  replace hns2 := hns2.mono (T := fun k => w.heap.size + 3 ≤ k ∧ k < w3.heap.size) (fun k h1 h2 => ⟨by have : W2.heap.size ≤ k := h1; omega, h2⟩)
  replace hS := (keep_and (keep_and (keep_and (keep_and (keep_and (keep_and (keep_B (Res.below)))))))) hS hb3
  have hk := (keep_and (keep_and (keep_and keep_cell))) ⟨k0, k1, k2, k3⟩ hb3
  replace hr1 := hr1.below hb3
  replace hns1 := hns1.below hb3
  have l3 : w1.heap.size + 2 ≤ w3.heap.size := by have := hb3.size; omega
  clear cc0 cc1 cc2 cc3 cc4 cc5 hB hb3 k0 k1 k2 k3 hs2 hR2 hs2'
  obtain ⟨cc0, cc1, cc2, cc3, cc4, cc5, hB, hR2⟩ := id hS
  obtain ⟨k0, k1, k2, k3⟩ := id hk
  obtain ⟨nr2, ur2, lr2, rfl, hur2, hzr2, hlr2⟩ := id hr2
  obtain ⟨Ar2, cr2, rfl⟩ := hur2.slice
  clear hur2 hzr2
  go_wp2_with fail
  obtain ⟨W4, hW4⟩ : ∃ W4, ((w3.alloc (Obj.cells #[Value.bool nr2, Value.slice Ar2 lr2.length cr2] 38)).alloc (Obj.cells #[Value.bool false, Value.slice As2 (dig D2).length cs2] 38)) = W4 := ⟨_, rfl⟩
  have hb34 : Below w3.heap.size w3 W4 := by rw [← hW4]; exact ((Below.refl _ _).alloc (by simp) _).alloc (by simp) _
  have k4 : W4.cell? ⟨w3.heap.size, 0, none⟩ = some (.bool nr2) := by subst hW4; simp [go_sem]
  have k5 : W4.cell? ⟨w3.heap.size, 1, none⟩ = some (.slice Ar2 lr2.length cr2) := by subst hW4; simp [go_sem]
  have k6 : W4.cell? ⟨w3.heap.size + 1, 0, none⟩ = some (.bool false) := by subst hW4; simp [go_sem]
  have k7 : W4.cell? ⟨w3.heap.size + 1, 1, none⟩ = some (.slice As2 (dig D2).length cs2) := by subst hW4; simp [go_sem]
  rw [hW4]
  clear hW4
  replace hr1 := hr1.below hb34
  replace hns1 := hns1.below hb34
  replace hr2 := hr2.below hb34
  replace hns2 := hns2.below hb34
  replace hS := (keep_and (keep_and (keep_and (keep_and (keep_and (keep_and (keep_B (Res.below)))))))) hS hb34
  replace hk := (keep_and (keep_and (keep_and keep_cell))) hk hb34
  clear cc0 cc1 cc2 cc3 cc4 cc5 hB hb34 k0 k1 k2 k3 hR2
  obtain ⟨cc0, cc1, cc2, cc3, cc4, cc5, hB, hR2⟩ := id hS
  obtain ⟨k0, k1, k2, k3⟩ := id hk
  clear cc0 cc1 cc2 cc3 cc4 cc5 hS hk l0 l1
  generalize w1.heap.size = N1 at *
  generalize w3.heap.size = N2 at *
  have hmn : m + n ≤ 35184372088830 := by omega
  have hnm : n + m ≤ 35184372088830 := by omega
  have hs1 : sz (z1 * (D2 : Nat)) ≤ 35184372088829 := by have := sz_mul z1 (D2 : Nat); have := hr1.sz; have : sz ((D2 : Nat) : Int) = (dig D2).length := rfl; omega
  have hs2 : sz (z2 * (D1 : Nat)) ≤ 35184372088829 := by have := sz_mul z2 (D1 : Nat); have := hr2.sz; have : sz ((D1 : Nat) : Int) = (dig D1).length := rfl; omega
  have hlm : sz (z1 * (D2 : Nat) + z2 * (D1 : Nat)) ≤ 35184372088829 := by
    have := sz_mul z1 (D2 : Nat); have := hr1.sz; have : sz ((D2 : Nat) : Int) = (dig D2).length := rfl
    have := sz_mul z2 (D1 : Nat); have := hr2.sz; have : sz ((D1 : Nat) : Int) = (dig D1).length := rfl
    have := sz_add (z1 * (D2 : Nat)) (z2 * (D1 : Nat))
    omega
  have hQ : As ((((z1 * (D2 : Nat) + z2 * (D1 : Nat) : Int) : Rat) / ((nv (dig (D1 * D2)) : Nat) : Rat)) = p + q) := ⟨by rw [nv_dig, rat_add_eq _ _ _ _ hD1 hD2, hq1, hq2]⟩
  have hln : (dig (D1 * D2)).length ≤ 35184372088829 := by have := dig_len_mul D1 D2; omega
  go_region_held3 (fun w' => w'.cell? ⟨N1, 0, none⟩ = some (.bool nr) ∧ w'.cell? ⟨N1, 1, none⟩ = some (.slice Ar lr.length cr) ∧ w'.cell? ⟨N1 + 1, 0, none⟩ = some (.bool false) ∧ w'.cell? ⟨N1 + 1, 1, none⟩ = some (.slice As1 (dig D1).length cs1) ∧ w'.cell? ⟨N2, 0, none⟩ = some (.bool nr2) ∧ w'.cell? ⟨N2, 1, none⟩ = some (.slice Ar2 lr2.length cr2) ∧ w'.cell? ⟨N2 + 1, 0, none⟩ = some (.bool false) ∧ w'.cell? ⟨N2 + 1, 1, none⟩ = some (.slice As2 (dig D2).length cs2) ∧ IntI (fun k => k < w.heap.size) w' (Value.agg #[Value.bool nr, Value.slice Ar lr.length cr]) z1 m ∧ IntI (fun k => k < w.heap.size) w' (Value.agg #[Value.bool nr2, Value.slice Ar2 lr2.length cr2]) z2 n ∧ NumV (fun k => w.heap.size + 3 ≤ k ∧ k < N1) w' (Value.slice As1 (dig D1).length cs1) (dig D1) ∧ NumV (fun k => w.heap.size + 3 ≤ k ∧ k < N2) w' (Value.slice As2 (dig D2).length cs2) (dig D2) ∧ Below w.heap.size w w' ∧ Res w' (w.heap.size + 2) 3)
    ((first
      | exact (keep_and (keep_and (keep_and (keep_and (keep_and (keep_and (keep_and (keep_and (keep_p IntI.below (keep_p IntI.below (keep_p NumV.below (keep_p NumV.below (keep_B (Res.below)))))))))))))) ⟨k0, k1, k2, k3, k4, k5, k6, k7, hr1, hr2, hns1, hns2, hB, hR2⟩ (below_drew _)
      | exact (keep_and (keep_and (keep_and (keep_and (keep_and (keep_and (keep_and (keep_and (keep_p IntI.below (keep_p IntI.below (keep_p NumV.below (keep_p NumV.below (keep_B (Res.below)))))))))))))) (by assumption) (below_drew _)
      | exact (keep_and (keep_and (keep_and (keep_and (keep_and (keep_and (keep_and (keep_and (keep_p IntI.below (keep_p IntI.below (keep_p NumV.below (keep_p NumV.below (keep_B (Res.below)))))))))))))) (by assumption) (by assumption)
      | exact (set_held (by simp <;> omega) (set_held (by simp <;> omega) (set_held (by simp <;> omega) (set_held (by simp <;> omega) (set_held (by simp <;> omega) (set_held (by simp <;> omega) (set_held (by simp <;> omega) (set_held (by simp <;> omega) (set_p (set_I (by intro k hk; simp <;> omega)) (set_p (set_I (by intro k hk; simp <;> omega)) (set_p (set_N (by simp <;> omega)) (set_p (set_N (by simp <;> omega)) (set_B (by simp <;> omega) (set_R1)))))))))))))) ((set_held (by simp <;> omega) (set_held (by simp <;> omega) (set_held (by simp <;> omega) (set_held (by simp <;> omega) (set_held (by simp <;> omega) (set_held (by simp <;> omega) (set_held (by simp <;> omega) (set_held (by simp <;> omega) (set_p (set_I (by intro k hk; simp <;> omega)) (set_p (set_I (by intro k hk; simp <;> omega)) (set_p (set_N (by simp <;> omega)) (set_p (set_N (by simp <;> omega)) (set_B (by simp <;> omega) (set_R1)))))))))))))) ((set_held (by simp <;> omega) (set_held (by simp <;> omega) (set_held (by simp <;> omega) (set_held (by simp <;> omega) (set_held (by simp <;> omega) (set_held (by simp <;> omega) (set_held (by simp <;> omega) (set_held (by simp <;> omega) (set_p (set_I (by intro k hk; simp <;> omega)) (set_p (set_I (by intro k hk; simp <;> omega)) (set_p (set_N (by simp <;> omega)) (set_p (set_N (by simp <;> omega)) (set_B (by simp <;> omega) (set_R1)))))))))))))) (by assumption)))))
    (first
      | (go_at_call 56; obtain ⟨_, _, _, _, _, _, _, _, hI1, hI2, hN1, hN2, hB1, hRg13⟩ := ‹(_ = some _) ∧ (_ = some _) ∧ (_ = some _) ∧ (_ = some _) ∧ (_ = some _) ∧ (_ = some _) ∧ (_ = some _) ∧ (_ = some _) ∧ IntI _ _ _ _ _ ∧ IntI _ _ _ _ _ ∧ NumV _ _ _ _ ∧ NumV _ _ _ _ ∧ Below _ _ _ ∧ Res _ _ _›; first | (with_reducible refine (int_mul _ hI1 (hN2.posI hl2) hmn).mono ?_; rintro e w5 ⟨r5, rfl, hM1, hb⟩; (try replace hM2 := hM2.below hb); (try replace hN := hN.below hb)) | (with_reducible refine (int_mul _ hI2 (hN1.posI hl1) hnm).mono ?_; rintro e w5 ⟨r5, rfl, hM2, hb⟩; (try replace hM1 := hM1.below hb); (try replace hN := hN.below hb)))
      | (go_at_call 55; obtain ⟨_, _, _, _, _, _, _, _, hI1, hI2, hN1, hN2, hB1, hRg13⟩ := ‹(_ = some _) ∧ (_ = some _) ∧ (_ = some _) ∧ (_ = some _) ∧ (_ = some _) ∧ (_ = some _) ∧ (_ = some _) ∧ (_ = some _) ∧ IntI _ _ _ _ _ ∧ IntI _ _ _ _ _ ∧ NumV _ _ _ _ ∧ NumV _ _ _ _ ∧ Below _ _ _ ∧ Res _ _ _›; refine (int_Add _ hM1.i hM2.i hs1 hs2).mono ?_; rintro e w5 ⟨r6, rfl, hA, hb⟩; (try replace hN := hN.below hb))
      | (go_at_call 57; obtain ⟨_, _, _, _, _, _, _, _, hI1, hI2, hN1, hN2, hB1, hRg13⟩ := ‹(_ = some _) ∧ (_ = some _) ∧ (_ = some _) ∧ (_ = some _) ∧ (_ = some _) ∧ (_ = some _) ∧ (_ = some _) ∧ (_ = some _) ∧ IntI _ _ _ _ _ ∧ IntI _ _ _ _ _ ∧ NumV _ _ _ _ ∧ NumV _ _ _ _ ∧ Below _ _ _ ∧ Res _ _ _›; refine (nat_Mul _ hN1 hN2 (by omega)).mono ?_; rintro e w5 ⟨r8, rfl, hN, hb⟩; rw [nv_dig, nv_dig] at hN; (try replace hM1 := hM1.below hb); (try replace hM2 := hM2.below hb); (try replace hA := hA.below hb))
      | (go_at_call 54; obtain ⟨_, _, _, _, _, _, _, _, hI1, hI2, hN1, hN2, hB1, hRg13⟩ := ‹(_ = some _) ∧ (_ = some _) ∧ (_ = some _) ∧ (_ = some _) ∧ (_ = some _) ∧ (_ = some _) ∧ (_ = some _) ∧ (_ = some _) ∧ IntI _ _ _ _ _ ∧ IntI _ _ _ _ _ ∧ NumV _ _ _ _ ∧ NumV _ _ _ _ ∧ Below _ _ _ ∧ Res _ _ _›; refine (rat_lowest _ hA.i hN hlm hln).mono ?_; rintro e w7 ⟨r7, rfl, hL, hb⟩; obtain ⟨A7, c7, B7, d7, rfl⟩ := hL.slice; obtain ⟨⟨⟨x4, h4⟩, f4⟩, ⟨⟨x5, h5⟩, f5⟩, ⟨x6, h6⟩, f6⟩ := And.intro ((hRg13.below hb).2 0 (by omega)) (And.intro ((hRg13.below hb).2 1 (by omega)) ((hRg13.below hb).2 2 (by omega)))))
  all_goals
    go_wp2_with fail
    refine bodyPost_ret (v := .agg #[.bool (decide ((((z1 * (D2 : Nat) + z2 * (D1 : Nat) : Int) : Rat) / ((nv (dig (D1 * D2)) : Nat) : Rat)).num < 0)), .slice A7 (sz (((z1 * (D2 : Nat) + z2 * (D1 : Nat) : Int) : Rat) / ((nv (dig (D1 * D2)) : Nat) : Rat)).num) c7, .slice B7 (dig (((z1 * (D2 : Nat) + z2 * (D1 : Nat) : Int) : Rat) / ((nv (dig (D1 * D2)) : Nat) : Rat)).den).length d7]) (by simp [results, Try.results24, go_sem, h4, h5, h6]) rfl ?_
    have hst := fun x y z => RatV.stored (x := x) (y := y) (z := z) (show w.heap.size ≤ w.heap.size + 2 by omega) hRg13 hL
    rw [hQ.out] at hst ⊢
    exact ⟨_, rfl, hst _ _ _, (((hB1.after hB1.size hb).setCell (by simp <;> omega) _).setCell (by simp <;> omega) _).setCell (by simp <;> omega) _⟩

set_option maxHeartbeats 8000000 in
set_option maxRecDepth 100000 in
theorem rat_Sub {S T : Nat → Prop} {v u : Value} {p q : Rat} {m n : Nat} (w : World) (hv : RatI S w v p m) (hu : RatI T w u q n) (h1 : 1 ≤ m) (h2 : 1 ≤ n) (hm : m + n ≤ 35184372088828) :
    Calls Try.prog 29 #[v, u] w fun e w' => ∃ r, e = .returned r ∧ RatV (New w) w' r (p - q) ∧ Below w.heap.size w w' := by
  obtain ⟨na, u1, e1, a1, t1, rfl, ha1, ht1, hq1, hla1, hlt1⟩ := id hv
  obtain ⟨nb, u2, e2, a2, t2, rfl, ha2, ht2, hq2, hla2, hlt2⟩ := id hu
  obtain ⟨A1, c1, rfl⟩ := ha1.slice
  obtain ⟨B1, d1, rfl⟩ := ht1.slice
  obtain ⟨A2, c2, rfl⟩ := ha2.slice
  obtain ⟨B2, d2, rfl⟩ := ht2.slice
  have hv0 := hv.mono (T := fun k => k < w.heap.size) (fun k _ h2 => h2)
  have hu0 := hu.mono (T := fun k => k < w.heap.size) (fun k _ h2 => h2)
  clear hv hu ha1 ht1 ha2 ht2 hq1 hq2
  go_enter Try.func29, Try.ntmps29
  go_wp2_with fail
  obtain ⟨W, hW⟩ : ∃ W, (((w.alloc (Obj.cells #[Value.bool na, Value.slice A1 a1.length c1, Value.slice B1 t1.length d1] 40)).alloc (Obj.cells #[Value.bool nb, Value.slice A2 a2.length c2, Value.slice B2 t2.length d2] 40)).alloc (Obj.cells #[Value.bool false, Value.slice none 0 0, Value.slice none 0 0] 40)) = W := ⟨_, rfl⟩
  have hs : W.heap.size = w.heap.size + 3 := by rw [← hW]; simp
  have hB : Below w.heap.size w W := by rw [← hW]; exact ((((Below.refl _ _).alloc (by simp <;> omega) _).alloc (by simp <;> omega) _).alloc (by simp <;> omega) _)
  have cc0 : W.cell? ⟨w.heap.size, 0, none⟩ = some (.bool na) := by subst hW; simp [go_sem]
  have cc1 : W.cell? ⟨w.heap.size, 1, none⟩ = some (.slice A1 a1.length c1) := by subst hW; simp [go_sem]
  have cc2 : W.cell? ⟨w.heap.size, 2, none⟩ = some (.slice B1 t1.length d1) := by subst hW; simp [go_sem]
  have cc3 : W.cell? ⟨w.heap.size + 1, 0, none⟩ = some (.bool nb) := by subst hW; simp [go_sem]
  have cc4 : W.cell? ⟨w.heap.size + 1, 1, none⟩ = some (.slice A2 a2.length c2) := by subst hW; simp [go_sem]
  have cc5 : W.cell? ⟨w.heap.size + 1, 2, none⟩ = some (.slice B2 t2.length d2) := by subst hW; simp [go_sem]
  have hR2 : Res W (w.heap.size + 2) 3 := ⟨by omega, fun i hi => by
    subst hW
    rcases (by omega : i = 0 ∨ i = 1 ∨ i = 2) with rfl | rfl | rfl
    · exact ⟨⟨.bool false, by simp [go_sem]⟩, by simp [go_sem]⟩
    · exact ⟨⟨.slice none 0 0, by simp [go_sem]⟩, by simp [go_sem]⟩
    · exact ⟨⟨.slice none 0 0, by simp [go_sem]⟩, by simp [go_sem]⟩⟩
  rw [hW]
  clear hW
  have hS : W.cell? ⟨w.heap.size, 0, none⟩ = some (.bool na) ∧ W.cell? ⟨w.heap.size, 1, none⟩ = some (.slice A1 a1.length c1) ∧ W.cell? ⟨w.heap.size, 2, none⟩ = some (.slice B1 t1.length d1) ∧ W.cell? ⟨w.heap.size + 1, 0, none⟩ = some (.bool nb) ∧ W.cell? ⟨w.heap.size + 1, 1, none⟩ = some (.slice A2 a2.length c2) ∧ W.cell? ⟨w.heap.size + 1, 2, none⟩ = some (.slice B2 t2.length d2) ∧ Below w.heap.size w W ∧ Res W (w.heap.size + 2) 3 := ⟨cc0, cc1, cc2, cc3, cc4, cc5, hB, hR2⟩
  refine (rat_parts _ (hv0.below hB) h1 (by omega)).mono ?_
  rintro e w1 ⟨r1, s1, z1, D1, rfl, hr1, hs1, hD1, hl1, hq1, hb1⟩
  replace hr1 := hr1.mono (T := fun k => k < w.heap.size) (fun k h _ => h)
  obtain ⟨As1, cs1, rfl, hns1⟩ := hs1.pos
  replace hns1 := hns1.mono (T := fun k => w.heap.size + 3 ≤ k ∧ k < w1.heap.size) (fun k h1 h2 => ⟨by have : W.heap.size ≤ k := h1; omega, h2⟩)
  replace hS := (keep_and (keep_and (keep_and (keep_and (keep_and (keep_and (keep_B (Res.below)))))))) hS hb1
  have hz1 : w.heap.size + 3 ≤ w1.heap.size := by have := hb1.size; omega
  clear cc0 cc1 cc2 cc3 cc4 cc5 hB hb1 hR2
  obtain ⟨cc0, cc1, cc2, cc3, cc4, cc5, hB, hR2⟩ := id hS
  obtain ⟨nr, ur, lr, rfl, hur, hzr, hlr⟩ := id hr1
  obtain ⟨Ar, cr, rfl⟩ := hur.slice
  clear hur hzr hs1
  have l0 : w.heap.size < w1.heap.size := by omega
  have l1 : w.heap.size + 1 < w1.heap.size := by omega
  have l2 : w.heap.size + 2 < w1.heap.size := by omega
  go_wp2_with fail
  obtain ⟨W2, hW2⟩ : ∃ W2, ((w1.alloc (Obj.cells #[Value.bool nr, Value.slice Ar lr.length cr] 38)).alloc (Obj.cells #[Value.bool false, Value.slice As1 (dig D1).length cs1] 38)) = W2 := ⟨_, rfl⟩
  have hs2 : W2.heap.size = w1.heap.size + 2 := by rw [← hW2]; simp
  have hb12 : Below w1.heap.size w1 W2 := by rw [← hW2]; exact ((Below.refl _ _).alloc (by simp) _).alloc (by simp) _
  have k0 : W2.cell? ⟨w1.heap.size, 0, none⟩ = some (.bool nr) := by subst hW2; simp [go_sem]
  have k1 : W2.cell? ⟨w1.heap.size, 1, none⟩ = some (.slice Ar lr.length cr) := by subst hW2; simp [go_sem]
  have k2 : W2.cell? ⟨w1.heap.size + 1, 0, none⟩ = some (.bool false) := by subst hW2; simp [go_sem]
  have k3 : W2.cell? ⟨w1.heap.size + 1, 1, none⟩ = some (.slice As1 (dig D1).length cs1) := by subst hW2; simp [go_sem]
  rw [hW2]
  clear hW2
  replace hr1 := hr1.below hb12
  replace hns1 := hns1.below hb12
  replace hS := (keep_and (keep_and (keep_and (keep_and (keep_and (keep_and (keep_B (Res.below)))))))) hS hb12
  clear cc0 cc1 cc2 cc3 cc4 cc5 hB hb12 hR2
  obtain ⟨cc0, cc1, cc2, cc3, cc4, cc5, hB, hR2⟩ := id hS
  refine (rat_parts _ (hu0.below hB) h2 (by omega)).mono ?_
  rintro e w3 ⟨r2, s2, z2, D2, rfl, hr2, hs2', hD2, hl2, hq2, hb3⟩
  replace hr2 := hr2.mono (T := fun k => k < w.heap.size) (fun k h _ => h)
  obtain ⟨As2, cs2, rfl, hns2⟩ := hs2'.pos
  replace hns2 := hns2.mono (T := fun k => w.heap.size + 3 ≤ k ∧ k < w3.heap.size) (fun k h1 h2 => ⟨by have : W2.heap.size ≤ k := h1; omega, h2⟩)
  replace hS := (keep_and (keep_and (keep_and (keep_and (keep_and (keep_and (keep_B (Res.below)))))))) hS hb3
  have hk := (keep_and (keep_and (keep_and keep_cell))) ⟨k0, k1, k2, k3⟩ hb3
  replace hr1 := hr1.below hb3
  replace hns1 := hns1.below hb3
  have l3 : w1.heap.size + 2 ≤ w3.heap.size := by have := hb3.size; omega
  clear cc0 cc1 cc2 cc3 cc4 cc5 hB hb3 k0 k1 k2 k3 hs2 hR2 hs2'
  obtain ⟨cc0, cc1, cc2, cc3, cc4, cc5, hB, hR2⟩ := id hS
  obtain ⟨k0, k1, k2, k3⟩ := id hk
  obtain ⟨nr2, ur2, lr2, rfl, hur2, hzr2, hlr2⟩ := id hr2
  obtain ⟨Ar2, cr2, rfl⟩ := hur2.slice
  clear hur2 hzr2
  go_wp2_with fail
  obtain ⟨W4, hW4⟩ : ∃ W4, ((w3.alloc (Obj.cells #[Value.bool nr2, Value.slice Ar2 lr2.length cr2] 38)).alloc (Obj.cells #[Value.bool false, Value.slice As2 (dig D2).length cs2] 38)) = W4 := ⟨_, rfl⟩
  have hb34 : Below w3.heap.size w3 W4 := by rw [← hW4]; exact ((Below.refl _ _).alloc (by simp) _).alloc (by simp) _
  have k4 : W4.cell? ⟨w3.heap.size, 0, none⟩ = some (.bool nr2) := by subst hW4; simp [go_sem]
  have k5 : W4.cell? ⟨w3.heap.size, 1, none⟩ = some (.slice Ar2 lr2.length cr2) := by subst hW4; simp [go_sem]
  have k6 : W4.cell? ⟨w3.heap.size + 1, 0, none⟩ = some (.bool false) := by subst hW4; simp [go_sem]
  have k7 : W4.cell? ⟨w3.heap.size + 1, 1, none⟩ = some (.slice As2 (dig D2).length cs2) := by subst hW4; simp [go_sem]
  rw [hW4]
  clear hW4
  replace hr1 := hr1.below hb34
  replace hns1 := hns1.below hb34
  replace hr2 := hr2.below hb34
  replace hns2 := hns2.below hb34
  replace hS := (keep_and (keep_and (keep_and (keep_and (keep_and (keep_and (keep_B (Res.below)))))))) hS hb34
  replace hk := (keep_and (keep_and (keep_and keep_cell))) hk hb34
  clear cc0 cc1 cc2 cc3 cc4 cc5 hB hb34 k0 k1 k2 k3 hR2
  obtain ⟨cc0, cc1, cc2, cc3, cc4, cc5, hB, hR2⟩ := id hS
  obtain ⟨k0, k1, k2, k3⟩ := id hk
  clear cc0 cc1 cc2 cc3 cc4 cc5 hS hk l0 l1
  generalize w1.heap.size = N1 at *
  generalize w3.heap.size = N2 at *
  have hmn : m + n ≤ 35184372088830 := by omega
  have hnm : n + m ≤ 35184372088830 := by omega
  have hs1 : sz (z1 * (D2 : Nat)) ≤ 35184372088829 := by have := sz_mul z1 (D2 : Nat); have := hr1.sz; have : sz ((D2 : Nat) : Int) = (dig D2).length := rfl; omega
  have hs2 : sz (z2 * (D1 : Nat)) ≤ 35184372088829 := by have := sz_mul z2 (D1 : Nat); have := hr2.sz; have : sz ((D1 : Nat) : Int) = (dig D1).length := rfl; omega
  have hlm : sz (z1 * (D2 : Nat) - z2 * (D1 : Nat)) ≤ 35184372088829 := by
    have := sz_mul z1 (D2 : Nat); have := hr1.sz; have : sz ((D2 : Nat) : Int) = (dig D2).length := rfl
    have := sz_mul z2 (D1 : Nat); have := hr2.sz; have : sz ((D1 : Nat) : Int) = (dig D1).length := rfl
    have := sz_sub (z1 * (D2 : Nat)) (z2 * (D1 : Nat))
    omega
  have hQ : As ((((z1 * (D2 : Nat) - z2 * (D1 : Nat) : Int) : Rat) / ((nv (dig (D1 * D2)) : Nat) : Rat)) = p - q) := ⟨by rw [nv_dig, rat_sub_eq _ _ _ _ hD1 hD2, hq1, hq2]⟩
  have hln : (dig (D1 * D2)).length ≤ 35184372088829 := by have := dig_len_mul D1 D2; omega
  go_region_held3 (fun w' => w'.cell? ⟨N1, 0, none⟩ = some (.bool nr) ∧ w'.cell? ⟨N1, 1, none⟩ = some (.slice Ar lr.length cr) ∧ w'.cell? ⟨N1 + 1, 0, none⟩ = some (.bool false) ∧ w'.cell? ⟨N1 + 1, 1, none⟩ = some (.slice As1 (dig D1).length cs1) ∧ w'.cell? ⟨N2, 0, none⟩ = some (.bool nr2) ∧ w'.cell? ⟨N2, 1, none⟩ = some (.slice Ar2 lr2.length cr2) ∧ w'.cell? ⟨N2 + 1, 0, none⟩ = some (.bool false) ∧ w'.cell? ⟨N2 + 1, 1, none⟩ = some (.slice As2 (dig D2).length cs2) ∧ IntI (fun k => k < w.heap.size) w' (Value.agg #[Value.bool nr, Value.slice Ar lr.length cr]) z1 m ∧ IntI (fun k => k < w.heap.size) w' (Value.agg #[Value.bool nr2, Value.slice Ar2 lr2.length cr2]) z2 n ∧ NumV (fun k => w.heap.size + 3 ≤ k ∧ k < N1) w' (Value.slice As1 (dig D1).length cs1) (dig D1) ∧ NumV (fun k => w.heap.size + 3 ≤ k ∧ k < N2) w' (Value.slice As2 (dig D2).length cs2) (dig D2) ∧ Below w.heap.size w w' ∧ Res w' (w.heap.size + 2) 3)
    ((first
      | exact (keep_and (keep_and (keep_and (keep_and (keep_and (keep_and (keep_and (keep_and (keep_p IntI.below (keep_p IntI.below (keep_p NumV.below (keep_p NumV.below (keep_B (Res.below)))))))))))))) ⟨k0, k1, k2, k3, k4, k5, k6, k7, hr1, hr2, hns1, hns2, hB, hR2⟩ (below_drew _)
      | exact (keep_and (keep_and (keep_and (keep_and (keep_and (keep_and (keep_and (keep_and (keep_p IntI.below (keep_p IntI.below (keep_p NumV.below (keep_p NumV.below (keep_B (Res.below)))))))))))))) (by assumption) (below_drew _)
      | exact (keep_and (keep_and (keep_and (keep_and (keep_and (keep_and (keep_and (keep_and (keep_p IntI.below (keep_p IntI.below (keep_p NumV.below (keep_p NumV.below (keep_B (Res.below)))))))))))))) (by assumption) (by assumption)
      | exact (set_held (by simp <;> omega) (set_held (by simp <;> omega) (set_held (by simp <;> omega) (set_held (by simp <;> omega) (set_held (by simp <;> omega) (set_held (by simp <;> omega) (set_held (by simp <;> omega) (set_held (by simp <;> omega) (set_p (set_I (by intro k hk; simp <;> omega)) (set_p (set_I (by intro k hk; simp <;> omega)) (set_p (set_N (by simp <;> omega)) (set_p (set_N (by simp <;> omega)) (set_B (by simp <;> omega) (set_R1)))))))))))))) ((set_held (by simp <;> omega) (set_held (by simp <;> omega) (set_held (by simp <;> omega) (set_held (by simp <;> omega) (set_held (by simp <;> omega) (set_held (by simp <;> omega) (set_held (by simp <;> omega) (set_held (by simp <;> omega) (set_p (set_I (by intro k hk; simp <;> omega)) (set_p (set_I (by intro k hk; simp <;> omega)) (set_p (set_N (by simp <;> omega)) (set_p (set_N (by simp <;> omega)) (set_B (by simp <;> omega) (set_R1)))))))))))))) ((set_held (by simp <;> omega) (set_held (by simp <;> omega) (set_held (by simp <;> omega) (set_held (by simp <;> omega) (set_held (by simp <;> omega) (set_held (by simp <;> omega) (set_held (by simp <;> omega) (set_held (by simp <;> omega) (set_p (set_I (by intro k hk; simp <;> omega)) (set_p (set_I (by intro k hk; simp <;> omega)) (set_p (set_N (by simp <;> omega)) (set_p (set_N (by simp <;> omega)) (set_B (by simp <;> omega) (set_R1)))))))))))))) (by assumption)))))
    (first
      | (go_at_call 56; obtain ⟨_, _, _, _, _, _, _, _, hI1, hI2, hN1, hN2, hB1, hRg13⟩ := ‹(_ = some _) ∧ (_ = some _) ∧ (_ = some _) ∧ (_ = some _) ∧ (_ = some _) ∧ (_ = some _) ∧ (_ = some _) ∧ (_ = some _) ∧ IntI _ _ _ _ _ ∧ IntI _ _ _ _ _ ∧ NumV _ _ _ _ ∧ NumV _ _ _ _ ∧ Below _ _ _ ∧ Res _ _ _›; first | (with_reducible refine (int_mul _ hI1 (hN2.posI hl2) hmn).mono ?_; rintro e w5 ⟨r5, rfl, hM1, hb⟩; (try replace hM2 := hM2.below hb); (try replace hN := hN.below hb)) | (with_reducible refine (int_mul _ hI2 (hN1.posI hl1) hnm).mono ?_; rintro e w5 ⟨r5, rfl, hM2, hb⟩; (try replace hM1 := hM1.below hb); (try replace hN := hN.below hb)))
      | (go_at_call 61; obtain ⟨_, _, _, _, _, _, _, _, hI1, hI2, hN1, hN2, hB1, hRg13⟩ := ‹(_ = some _) ∧ (_ = some _) ∧ (_ = some _) ∧ (_ = some _) ∧ (_ = some _) ∧ (_ = some _) ∧ (_ = some _) ∧ (_ = some _) ∧ IntI _ _ _ _ _ ∧ IntI _ _ _ _ _ ∧ NumV _ _ _ _ ∧ NumV _ _ _ _ ∧ Below _ _ _ ∧ Res _ _ _›; refine (int_Sub _ hM1.i hM2.i hs1 hs2).mono ?_; rintro e w5 ⟨r6, rfl, hA, hb⟩; (try replace hN := hN.below hb))
      | (go_at_call 57; obtain ⟨_, _, _, _, _, _, _, _, hI1, hI2, hN1, hN2, hB1, hRg13⟩ := ‹(_ = some _) ∧ (_ = some _) ∧ (_ = some _) ∧ (_ = some _) ∧ (_ = some _) ∧ (_ = some _) ∧ (_ = some _) ∧ (_ = some _) ∧ IntI _ _ _ _ _ ∧ IntI _ _ _ _ _ ∧ NumV _ _ _ _ ∧ NumV _ _ _ _ ∧ Below _ _ _ ∧ Res _ _ _›; refine (nat_Mul _ hN1 hN2 (by omega)).mono ?_; rintro e w5 ⟨r8, rfl, hN, hb⟩; rw [nv_dig, nv_dig] at hN; (try replace hM1 := hM1.below hb); (try replace hM2 := hM2.below hb); (try replace hA := hA.below hb))
      | (go_at_call 54; obtain ⟨_, _, _, _, _, _, _, _, hI1, hI2, hN1, hN2, hB1, hRg13⟩ := ‹(_ = some _) ∧ (_ = some _) ∧ (_ = some _) ∧ (_ = some _) ∧ (_ = some _) ∧ (_ = some _) ∧ (_ = some _) ∧ (_ = some _) ∧ IntI _ _ _ _ _ ∧ IntI _ _ _ _ _ ∧ NumV _ _ _ _ ∧ NumV _ _ _ _ ∧ Below _ _ _ ∧ Res _ _ _›; refine (rat_lowest _ hA.i hN hlm hln).mono ?_; rintro e w7 ⟨r7, rfl, hL, hb⟩; obtain ⟨A7, c7, B7, d7, rfl⟩ := hL.slice; obtain ⟨⟨⟨x4, h4⟩, f4⟩, ⟨⟨x5, h5⟩, f5⟩, ⟨x6, h6⟩, f6⟩ := And.intro ((hRg13.below hb).2 0 (by omega)) (And.intro ((hRg13.below hb).2 1 (by omega)) ((hRg13.below hb).2 2 (by omega)))))
  all_goals
    go_wp2_with fail
    refine bodyPost_ret (v := .agg #[.bool (decide ((((z1 * (D2 : Nat) - z2 * (D1 : Nat) : Int) : Rat) / ((nv (dig (D1 * D2)) : Nat) : Rat)).num < 0)), .slice A7 (sz (((z1 * (D2 : Nat) - z2 * (D1 : Nat) : Int) : Rat) / ((nv (dig (D1 * D2)) : Nat) : Rat)).num) c7, .slice B7 (dig (((z1 * (D2 : Nat) - z2 * (D1 : Nat) : Int) : Rat) / ((nv (dig (D1 * D2)) : Nat) : Rat)).den).length d7]) (by simp [results, Try.results29, go_sem, h4, h5, h6]) rfl ?_
    have hst := fun x y z => RatV.stored (x := x) (y := y) (z := z) (show w.heap.size ≤ w.heap.size + 2 by omega) hRg13 hL
    rw [hQ.out] at hst ⊢
    exact ⟨_, rfl, hst _ _ _, (((hB1.after hB1.size hb).setCell (by simp <;> omega) _).setCell (by simp <;> omega) _).setCell (by simp <;> omega) _⟩
end Go.Proofs.Ytdbpjnjgjmfomaa
