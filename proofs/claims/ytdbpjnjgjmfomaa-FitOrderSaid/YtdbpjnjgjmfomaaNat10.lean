/- The program's natural numbers, tenth part: DivMod, Knuth's algorithm. -/
import Derived.Test.YtdbpjnjgjmfomaaNat9
import Derived.StillTailTactics
namespace Go.Proofs.Ytdbpjnjgjmfomaa
open Go.RowKit

theorem add_zero_off (g j : Nat) : (⟨g, 0, none⟩ : Addr).add j = ⟨g, j, none⟩ := by unfold Addr.add; split <;> simp_all
theorem guess_ex {u2 u1 u0 v1 v0 : Int} (h2 : 0 ≤ u2) (h1 : 0 ≤ u1) (h0 : 0 ≤ u0) (g1 : 2147483648 ≤ v1) (g0 : 0 ≤ v0) : ∃ d, GuessP u2 u1 u0 v1 v0 d := by
  obtain ⟨V, hV⟩ : ∃ V, v1 * 4294967296 + v0 = V := ⟨_, rfl⟩
  obtain ⟨U, hU⟩ : ∃ U, (u2 * 4294967296 + u1) * 4294967296 + u0 = U := ⟨_, rfl⟩
  have e := Int.mul_ediv_add_emod U V
  have e0 := Int.emod_nonneg U (show V ≠ 0 by omega)
  have e1 := Int.emod_lt_of_pos U (show 0 < V by omega)
  have q0 := Int.ediv_nonneg (show 0 ≤ U by omega) (show 0 ≤ V by omega)
  generalize U / V = Q at *
  generalize U % V = R at *
  unfold GuessP
  rw [hV, hU]
  by_cases h : Q ≤ 4294967295
  · refine ⟨Q, q0, h, by rw [Int.mul_comm]; omega, fun q _ hle => ?_⟩
    by_cases hq : q ≤ Q
    · exact hq
    · exfalso
      have := Int.mul_le_mul_of_nonneg_right (show Q + 1 ≤ q by omega) (show 0 ≤ V by omega)
      rw [Int.add_mul, Int.one_mul, Int.mul_comm] at this
      omega
  · refine ⟨4294967295, by omega, by omega, ?_, fun q hq _ => hq⟩
    have := Int.mul_le_mul_of_nonneg_right (show (4294967295 : Int) ≤ Q by omega) (show 0 ≤ V by omega)
    rw [Int.mul_comm] at e
    omega
theorem guess_unique {u2 u1 u0 v1 v0 d d' : Int} (h : GuessP u2 u1 u0 v1 v0 d) (h' : GuessP u2 u1 u0 v1 v0 d') : d = d' := by
  have a := h.2.2.2 d' h'.2.1 h'.2.2.1
  have b := h'.2.2.2 d h.2.1 h.2.2.1
  omega
theorem nat_guess_fix {u2 u1 u0 v1 v0 d : Int} (w : World) (hd : GuessP u2 u1 u0 v1 v0 d) (h2 : 0 ≤ u2) (h2' : u2 ≤ v1) (h1 : 0 ≤ u1) (h1' : u1 < 4294967296) (h0 : 0 ≤ u0) (h0' : u0 < 4294967296) (g1 : 2147483648 ≤ v1) (g1' : v1 < 4294967296) (g0 : 0 ≤ v0) (g0' : v0 < 4294967296) :
    Calls Try.prog 116 #[.int .u32 u2, .int .u32 u1, .int .u32 u0, .int .u32 v1, .int .u32 v0] w fun e w' => e = .returned (.int .u64 d) ∧ ∃ n, w' = w.drewN n :=
  (nat_guess w h2 h2' h1 h1' h0 h0' g1 g1' g0 g0').mono fun _ _ ⟨_, he, hp, hw⟩ => ⟨by rw [he, guess_unique hp hd], hw.out⟩
/-- The shift that brings the highest limb up. -/
theorem shift_top {y : Int} (h0 : 0 < y) (h1 : y < 4294967296) : ∃ s : Nat, (32 - (Lib.bitLen y.toNat : Int)) = s ∧ s < 32 ∧ 2147483648 ≤ y * 2 ^ s ∧ (y + 1) * 2 ^ s ≤ 4294967296 := by
  obtain ⟨b1, b2, b3, b4⟩ := bitLen_bounds y.toNat (by omega) (by omega)
  refine ⟨32 - Lib.bitLen y.toNat, by omega, by omega, ?_, ?_⟩
  · have := Nat.mul_le_mul_right (2 ^ (32 - Lib.bitLen y.toNat)) b3
    rw [← Nat.pow_add, show Lib.bitLen y.toNat - 1 + (32 - Lib.bitLen y.toNat) = 31 from by omega] at this
    have e : ((2 ^ (32 - Lib.bitLen y.toNat) : Nat) : Int) = (2 : Int) ^ (32 - Lib.bitLen y.toNat) := by rw [Int.natCast_pow]; rfl
    rw [← e]
    have e2 : ((y.toNat * 2 ^ (32 - Lib.bitLen y.toNat) : Nat) : Int) = y * ((2 ^ (32 - Lib.bitLen y.toNat) : Nat) : Int) := by rw [Int.natCast_mul]; congr 1; omega
    have e3 : (2 : Nat) ^ 31 = 2147483648 := by decide
    omega
  · have := Nat.mul_le_mul_right (2 ^ (32 - Lib.bitLen y.toNat)) (show y.toNat + 1 ≤ 2 ^ Lib.bitLen y.toNat by omega)
    rw [← Nat.pow_add, show Lib.bitLen y.toNat + (32 - Lib.bitLen y.toNat) = 32 from by omega] at this
    have e : ((2 ^ (32 - Lib.bitLen y.toNat) : Nat) : Int) = (2 : Int) ^ (32 - Lib.bitLen y.toNat) := by rw [Int.natCast_pow]; rfl
    rw [← e]
    have e2 : (((y.toNat + 1) * 2 ^ (32 - Lib.bitLen y.toNat) : Nat) : Int) = (y + 1) * ((2 ^ (32 - Lib.bitLen y.toNat) : Nat) : Int) := by rw [Int.natCast_mul]; congr 1; omega
    have e3 : (2 : Nat) ^ 32 = 4294967296 := by decide
    omega

set_option maxHeartbeats 8000000 in
set_option maxRecDepth 100000 in
theorem nat_DivMod_knuth {S T : Nat → Prop} {v u : Value} {a b : List Int} {n : Nat} (w : World) (ha : NumV S w v a) (hb : NumV T w u b) (hm : a.length ≤ 35184372088830) (hm' : b.length ≤ 35184372088830) (hle : nv b ≤ nv a) (h1 : (dig (nv b)).length = n + 2) :
    Calls Try.prog 89 #[v, u] w fun e w' => ∃ q r, e = .returned (.tuple #[q, r, .bool true]) ∧ NumV (New w) w' q (dig (nv a / nv b)) ∧ NumV (New w) w' r (dig (nv a % nv b)) ∧ Below w.heap.size w w' := by
  obtain ⟨hla, A, c, rfl, hc, hr⟩ := id ha
  obtain ⟨hlb, B, c', rfl, hc', hr'⟩ := id hb
  have HL : (dig (nv a)).length ≤ 35184372088830 := Nat.le_trans (dig_len_le hla) hm
  have HL' : (dig (nv b)).length ≤ 35184372088830 := Nat.le_trans (dig_len_le hlb) hm'
  have HA := ha.trim
  have HB := hb.trim
  have hC := cmpI_nonneg hle
  have hC' := (cmpI_le (nv a) (nv b)).1
  obtain ⟨C, hCC⟩ : ∃ C, cmpI (nv a) (nv b) = C := ⟨_, rfl⟩
  rw [hCC] at hC hC'
  replace hCC := As.mk hCC
  obtain ⟨M, hML⟩ : ∃ M, (dig (nv a)).length = M + (n + 2) := ⟨(dig (nv a)).length - (n + 2), by have := dig_len_mono hle; omega⟩
  obtain ⟨y0, y1⟩ := dig_last_pos h1
  obtain ⟨bd, hBB, hcb⟩ := HB.at (n + 1) (by omega)
  subst hBB
  obtain ⟨Y, hY⟩ : ∃ Y, (dig (nv b)).getD (n + 1) 0 = Y := ⟨_, rfl⟩
  rw [hY] at y0 y1 hcb
  obtain ⟨s, hs, hs32, hsa, hsb⟩ := shift_top y0 y1
  have hp := two_pow_bounds s hs32
  have hstart := As.mk (fun U W => dm_start (U := U) (W := W) (p := 2 ^ s) (Lim_dig (nv a)) (Lim_dig (nv b)) hML h1 (by omega) hp.2 (by rw [hY]; exact hsa) (by rw [hY]; exact hsb))
  rw [add_succ] at hcb
  rw [h1] at HB HL'
  rw [hML] at HA HL
  replace h1 := As.mk h1
  replace hML := As.mk hML
  replace hp := As.mk hp
  clear hY hle hsa hsb
  go_enter Try.func89, Try.ntmps89
  go_wp2_with fail
  refine (nat_trim _ ha (by omega)).mono ?_
  rintro e w' ⟨rfl, ⟨m, rfl⟩⟩
  go_wp2_with fail
  refine (nat_trim _ (hb.drewN m) (by omega)).mono ?_
  rintro e w' ⟨rfl, ⟨m2, rfl⟩⟩
  rw [h1.out, hML.out]
  go_wp2_with fail
  refine (nat_Cmp _ (by rw [← hML.out] at HA ⊢; exact HA.drewN _) (by rw [← h1.out] at HB ⊢; exact HB.drewN _) (by rw [hML.out]; omega) (by rw [h1.out]; omega)).mono ?_
  rintro e w' ⟨rfl, ⟨m3, rfl⟩⟩
  rw [nv_dig, nv_dig, hCC.out]
  go_wp2_with fail
  refine (bits_LeadingZeros32 _ _ (by omega) (by omega)).mono ?_
  rintro e w' ⟨rfl, rfl⟩
  rw [hs]
  go_wp2_with fail
  refine (nat_shiftUp (n := s) _ (by rw [← hML.out] at HA ⊢; exact HA.drewN _) (by rw [hML.out]; omega) hs32).mono ?_
  rintro e w1 ⟨g, U0, rfl, hg, hU0, lenU, limU, valU, hb1⟩
  subst hg
  rw [show (w.drewN (m + m2 + m3)).heap.size = w.heap.size from rfl] at hU0 hb1 ⊢
  rw [hML.out] at hU0 ⊢
  go_wp2_with fail
  have HB1 := (HB.drewN (m + m2 + m3)).below hb1
  refine (nat_shiftUp (n := s) _ (by rw [← h1.out] at HB1 ⊢; exact HB1) (by rw [h1.out]; omega) hs32).mono ?_
  rintro e w2 ⟨g2, W, rfl, hg2, hW, lenW, limW, valW, hb2⟩
  subst hg2
  rw [h1.out] at hW ⊢
  have hsz1 : w.heap.size < w1.heap.size := by
    obtain ⟨g, cap, e, _, h⟩ := hU0.form (by omega)
    injection e with e; injection e with e; injection e with e
    omega
  have hsz2 : w1.heap.size < w2.heap.size := by
    obtain ⟨g, cap, e, _, h⟩ := hW.form (by omega)
    injection e with e; injection e with e; injection e with e
    omega
  obtain ⟨lenV, valV, topV, hD0⟩ := hstart.out U0 W lenU limU valU lenW limW valW
  have limV := limW.take (n + 2)
  have HV := (hW.num limW).take (n + 2) (n + 2 + 1) (by rw [lenW, h1.out]; omega) (by omega)
  replace HV := HV.mono (T := fun k => k = w1.heap.size) (fun k hk _ => by have := hk.2.2; simpa [Value.ownBlock] using this.symm)
  have hdone := As.mk (fun U Q h => dm_done (U0 := U0) (V := W.take (n + 2)) (U := U) (Q := Q) (m := M) (X := nv a) (Y := nv b) (p := 2 ^ s) h limV (Nat.two_pow_pos s) (by rw [valU, val_dig, Int.natCast_pow]; rfl) (by rw [valV, val_dig, Int.natCast_pow]; rfl) (by
    rcases Nat.eq_zero_or_pos (nv b) with h0 | h0
    · have := h1.out; rw [h0, dig_zero] at this; simp at this
    · exact h0))
  obtain ⟨V, hVe⟩ : ∃ V, W.take (n + 2) = V := ⟨_, rfl⟩
  rw [hVe] at lenV valV topV hD0 limV HV hdone
  have hb02 : Below w.heap.size w w2 := (((Below.refl _ _).drewsN _).after (by simp) hb1).after (by omega) hb2
  replace hU0 := hU0.below hb2
  clear hstart lenU valU lenW limW valW hW HB1 hb1 hb2 hVe ha hb hr hr' hcb HA HB hs
  replace lenV := As.mk lenV
  replace valV := As.mk valV
  replace topV := As.mk topV
  replace limV := As.mk limV
  replace hD0 := As.mk hD0
  have hmk : ∀ W, (Instr.makeSlice 36 (.int .i64 ((M : Int) + 1)) (.int .i64 ((M : Int) + 1))).run Try.prog W = .ok (.slice (some ⟨W.heap.size, 0, none⟩) (M + 1) (M + 1)) (W.alloc (.cells (madeCells #[.int .u32 0] (M + 1)) 100)) :=
    fun W => make_nums 36 Try.underlying36 (by kernel_rfl) (M + 1) (M + 1) (by omega) (by omega) W
  go_wp2_with fail
  clear hmk
  have HQ := Own.made w2 w2.heap.size (M + 1) (Nat.le_refl _) (by omega)
  obtain ⟨N, hN⟩ : ∃ N, n + 2 = N := ⟨_, rfl⟩
  obtain ⟨L, hL⟩ : ∃ L, M + (n + 2) + 1 = L := ⟨_, rfl⟩
  rw [show ((n : Int) + 2) = (N : Int) from by omega]
  rw [hL] at hU0 ⊢
  rw [hN] at HV lenV h1 ⊢
  go_loopw [16, 17] (fun v16 _ wr => ∃ (k : Nat) (U Q : List Int), k ≤ M + 1 ∧ v16 = .int .i64 ((k : Int) - 1) ∧ As (DmInv U0 V M k U Q) ∧ Own wr w.heap.size (.slice (some ⟨w.heap.size, 0, none⟩) L L) U ∧ Own wr w2.heap.size (.slice (some ⟨w2.heap.size, 0, none⟩) (M + 1) (M + 1)) Q ∧ NumV (fun k => k = w1.heap.size) wr (.slice (some ⟨w1.heap.size, 0, none⟩) N (N + 1)) V ∧ Below w.heap.size w wr ∧ w2.heap.size < wr.heap.size) (fun v16 _ _ => (intOf v16 + 1).toNat)
  case atStart => exact ⟨M + 1, U0, _, Nat.le_refl _, val_int (by omega), hD0, hU0.below ((Below.refl _ _).alloc (Nat.le_refl _) _), HQ, HV.alloc _, hb02.alloc (by omega) _, by simp⟩
  case round =>
    clear hD0 hU0 HQ HV hb02
    obtain ⟨k, U, Q, hk, rfl, HJ, hown, hownQ, HV, hbel, hsz⟩ := hrel
    cases k with
    | zero =>
      obtain ⟨hG1, hG2⟩ := hdone.out U Q HJ.out
      have lenU : As (U.length = L) := ⟨by have := HJ.out.1; have := lenV.out; omega⟩
      have lenQ : As (Q.length = M + 1) := ⟨HJ.out.2.2.1⟩
      have hnumQ := hownQ.num HJ.out.2.2.2.1
      have hnumU := (hown.num HJ.out.2.1).take N L (by have := lenU.out; omega) (by omega)
      rw [lenV.out] at hG2
      replace hG1 := As.mk hG1
      replace hG2 := As.mk hG2
      have hlt : As ((U.take N).length = N) := ⟨by rw [List.length_take]; have := lenU.out; omega⟩
      clear hdone HJ HV
      have hQt := hnumQ.drewN 1
      have hUt := hnumU.drewN 1
      rw [← lenQ.out] at hQt ⊢
      go_wp2_with fail
      have z1 := eq_true (show 0 ≤ (N : Int) by omega)
      have z2 := eq_true (show (N : Int) ≤ (L : Int) by omega)
      have z3 := eq_true (show N ≤ L by omega)
      go_still_tail 6, (by kernel_rfl)
      still_call (nat_trim0 _ hQt (by have := lenQ.out; omega))
      repeat still_step
      refine wpStill_nil ?_
      change wpList _ _ _ _ _ (wr.drewN 1)
      go_wp2_with fail
      refine (nat_shiftDown (n := s) _ hUt (by rw [hlt.out]; omega) hs32).mono ?_
      rintro e w4 ⟨r, rfl, hr, hb4⟩
      rw [hG2.out] at hr
      have hq := (hQt.trim.below hb4).mono (T := New w) (fun q hq _ => by show w.heap.size ≤ q; omega)
      rw [hG1.out] at hq
      rw [hG1.out]
      have hsz3 := hbel.size
      go_wp2_with fail
      go_ret3
      exact ⟨_, _, rfl, hq, hr.mono (fun q hq _ => Nat.le_trans hsz3 hq), (hbel.drewsN 1).after (by simp; omega) hb4⟩
    | succ k =>
      rw [show (((k + 1 : Nat) : Int) - 1) = (k : Int) from by omega]
      have limU := HJ.out.2.1
      have lenU : As (U.length = L) := ⟨by have := HJ.out.1; have := lenV.out; omega⟩
      have lenQ : As (Q.length = M + 1) := ⟨HJ.out.2.2.1⟩
      obtain ⟨hu2, hround⟩ := dm_round (n := n) HJ.out limV.out (by rw [lenV.out, hN]) (by omega) topV.out
      obtain ⟨i2, hi2⟩ : ∃ i2, k + (n + 2) = i2 := ⟨_, rfl⟩
      obtain ⟨i1, hi1⟩ : ∃ i1, k + (n + 1) = i1 := ⟨_, rfl⟩
      obtain ⟨i0, hi0⟩ : ∃ i0, k + n = i0 := ⟨_, rfl⟩
      obtain ⟨j1, hj1⟩ : ∃ j1, n + 1 = j1 := ⟨_, rfl⟩
      have tv := topV.out
      rw [hi2, hi1, hi0, hj1] at hround
      rw [hi2, hj1] at hu2
      rw [hj1] at tv
      have b2 := limU.get i2
      have b1 := limU.get i1
      have b0 := limU.get i0
      have c1 := limV.out.get j1
      have c0 := limV.out.get n
      obtain ⟨D, hD⟩ := guess_ex b2.1 b1.1 b0.1 tv c0.1
      have hr2 := hround D hD
      have hfix := As.mk (fun W => nat_guess_fix W hD b2.1 hu2 b1.1 b1.2 b0.1 b0.2 tv c1.2 c0.1 c0.2)
      have e2 := (hown.cell i2 (by have := lenU.out; omega)).1
      have e1 := (hown.cell i1 (by have := lenU.out; omega)).1
      have e0 := (hown.cell i0 (by have := lenU.out; omega)).1
      obtain ⟨_, hg1, f1⟩ := HV.at j1 (by have := lenV.out; omega)
      injection hg1 with hg1; subst hg1
      obtain ⟨_, hg1, f0⟩ := HV.at n (by have := lenV.out; omega)
      injection hg1 with hg1; subst hg1
      rw [add_zero_off] at f1 f0
      have hD01 := guess_min hD
      replace hD := As.mk hD
      replace hr2 := As.mk hr2
      clear hround
      generalize U.getD i2 0 = u2 at *
      generalize U.getD i1 0 = u1 at *
      generalize U.getD i0 0 = u0 at *
      generalize V.getD j1 0 = v1 at *
      generalize V.getD n 0 = v0 at *
      have s2 : IntKind.i64.wrap ((k : Int) + (N : Int)) = (i2 : Int) := by rw [IntWalk.i64_in _ (by omega)]; omega
      have s1 : IntKind.i64.wrap ((i2 : Int) - 1) = (i1 : Int) := by rw [IntWalk.i64_in _ (by omega)]; omega
      have s0 : IntKind.i64.wrap ((i2 : Int) - 2) = (i0 : Int) := by rw [IntWalk.i64_in _ (by omega)]; omega
      have r1 : IntKind.i64.wrap ((N : Int) - 1) = (j1 : Int) := by rw [IntWalk.i64_in _ (by omega)]; omega
      have r0 : IntKind.i64.wrap ((N : Int) - 2) = (n : Int) := by rw [IntWalk.i64_in _ (by omega)]; omega
      have p2 := eq_true (show 0 ≤ (i2 : Int) by omega)
      have p1 := eq_true (show 0 ≤ (i1 : Int) by omega)
      have p0 := eq_true (show 0 ≤ (i0 : Int) by omega)
      have p3 := eq_true (show 0 ≤ (j1 : Int) by omega)
      have p4 := eq_true (show 0 ≤ (n : Int) by omega)
      have q2 := eq_true (show (i2 : Int) < (L : Int) by omega)
      have q1 := eq_true (show (i1 : Int) < (L : Int) by omega)
      have q0 := eq_true (show (i0 : Int) < (L : Int) by omega)
      have q3 := eq_true (show (j1 : Int) < (N : Int) by omega)
      have q4 := eq_true (show (n : Int) < (N : Int) by omega)
      replace hi2 := As.mk hi2
      replace hi1 := As.mk hi1
      replace hi0 := As.mk hi0
      replace hj1 := As.mk hj1
      go_wp2_with fail
      go_quiet ((go_at_call 116; refine Calls.quiet_of (hfix.out _)))
      clear s2 s1 s0 r1 r0 p2 p1 p0 p3 p4 q2 q1 q0 q3 q4 e2 e1 e0 f1 f0 b2 b1 b0 c1 c0 hfix hu2 tv
      go_wp2_with fail
      rw [show k + N + 1 - k = V.length + 1 from by rw [lenV.out]; omega]
      refine (nat_subtract (j := k) _ (hown.drewN nq) lenU.out.symm limU (HV.drewN nq) (by intro q hq; omega) (by have := lenU.out; have := lenV.out; omega) (by have := lenU.out; omega) hD01.1 hD01.2).mono ?_
      rintro e w4 ⟨U1, t, rfl, hown1, hsame, hseg, hg⟩
      have hr3 := As.mk (hr2.out U1 t hsame hseg)
      have lenU1 : As (U1.length = L) := ⟨by rw [hsame.1]; exact lenU.out⟩
      have limU1 := As.mk hsame.2.1
      have HV1 := (HV.drewN nq).grown hg (by intro q hq; omega)
      have hownQ1 : Own w4 w2.heap.size (.slice (some ⟨w2.heap.size, 0, none⟩) (M + 1) (M + 1)) Q := (hownQ.drewN nq).kept (fun q hq => hg.block q (by have := (World.ownsRow.lt hownQ q hq).2; simpa using this) (by intro e; injection e with e; have := (World.ownsRow.lt hownQ q hq).1; omega))
      have hbel1 : Below w.heap.size w w4 := (hbel.drewsN nq).trans ⟨hg.os, hg.tape, hg.output, hg.size, fun q hq => hg.block q (by have := hbel.size; simp; omega) (by intro e; injection e with e; omega)⟩
      have hsz4 : w2.heap.size < w4.heap.size := by have := hg.size; simp at this; omega
      have hq1 := (hownQ1.cell k (by have := lenQ.out; omega))
      have hst := As.mk (fun x => Own.store hownQ1 k x)
      clear hsame hseg hr2 hown hownQ HV hbel hg hsz limU lenU HJ
      obtain ⟨hqc, hqf⟩ := hq1
      by_cases htn : t < 0
      · obtain ⟨hD1, hr4⟩ := hr3.out.2 htn
        replace hr4 := As.mk hr4
        rw [show decide (t < 0) = true from decide_eq_true htn]
        clear htn hr3
        go_wp2_with fail
        rw [show k + N + 1 - k = V.length + 1 from by rw [lenV.out]; omega]
        refine (nat_addBack (j := k) _ hown1 lenU1.out.symm limU1.out HV1 (by intro q hq; omega) (by have := lenU1.out; have := lenV.out; omega) (by have := lenU1.out; omega)).mono ?_
        rintro e w5 ⟨U2, rfl, hown2, hsame2, hseg2, hg2⟩
        have hr5 := hr4.out U2 hsame2 hseg2
        rw [show (D - 1) % 4294967296 = D - 1 from by omega] at hr5
        replace hr5 := As.mk hr5
        have HV2 := HV1.grown hg2 (by intro q hq; omega)
        have hownQ2 : Own w5 w2.heap.size (.slice (some ⟨w2.heap.size, 0, none⟩) (M + 1) (M + 1)) Q := hownQ1.kept (fun q hq => hg2.block q (World.ownsRow.lt hownQ1 q hq).2 (by intro e; injection e with e; have := (World.ownsRow.lt hownQ1 q hq).1; omega))
        have hbel2 : Below w.heap.size w w5 := hbel1.trans ⟨hg2.os, hg2.tape, hg2.output, hg2.size, fun q hq => hg2.block q (by omega) (by intro e; injection e with e; omega)⟩
        have hsz5 : w2.heap.size < w5.heap.size := by have := hg2.size; omega
        obtain ⟨hqc, hqf⟩ := (hownQ2.cell k (by have := lenQ.out; omega))
        have hst := As.mk (fun x => Own.store hownQ2 k x)
        clear hsame2 hseg2 hr4 hown1 hownQ1 HV1 hbel1 hsz4 hg2 limU1 lenU1
        generalize Q.getD k 0 = O at *
        go_wp2_with fail
        go_roundw
        case rel => exact ⟨k, _, _, by omega, rfl, hr5, hown2.kept (fun q hq => Below.heap_setCell _ _ _ _ (by simp [Value.ownBlock] at hq; simp; omega)), hst.out _, HV2.set (by intro q hq _; simp; omega) _, hbel2.setCell (by simp; omega) _, by simpa [World.setCell] using hsz5⟩
        case measure => simp [intOf]
      · have hr4 := hr3.out.1 (by omega)
        rw [show D % 4294967296 = D from by omega] at hr4
        replace hr4 := As.mk hr4
        rw [show decide (t < 0) = false from decide_eq_false htn]
        clear htn hr3
        go_wp2_with fail
        go_roundw
        case rel => exact ⟨k, _, _, by omega, rfl, hr4, hown1.kept (fun q hq => Below.heap_setCell _ _ _ _ (by simp [Value.ownBlock] at hq; simp; omega)), hst.out _, HV1.set (by intro q hq _; simp; omega) _, hbel1.setCell (by simp; omega) _, by simpa [World.setCell] using hsz4⟩
        case measure => simp [intOf]

/-- DivMod, for a divisor that isn't 0. -/
theorem nat_DivMod {S T : Nat → Prop} {v u : Value} {a b : List Int} (w : World) (ha : NumV S w v a) (hb : NumV T w u b) (hm : a.length ≤ 35184372088830) (hm' : b.length ≤ 35184372088830) (h0 : 0 < nv b) :
    Calls Try.prog 89 #[v, u] w fun e w' => ∃ q r, e = .returned (.tuple #[q, r, .bool true]) ∧ NumV (New w) w' q (dig (nv a / nv b)) ∧ NumV (New w) w' r (dig (nv a % nv b)) ∧ Below w.heap.size w w' := by
  rcases Nat.lt_or_ge (nv a) (nv b) with h | h
  · exact nat_DivMod_less w ha hb (by omega) (by omega) h
  · rcases hn : (dig (nv b)).length with _ | _ | n
    · rw [dig_nil_iff] at hn; omega
    · exact nat_DivMod_one w ha hb (by omega) (by omega) h hn
    · exact nat_DivMod_knuth w ha hb hm hm' h hn
end Go.Proofs.Ytdbpjnjgjmfomaa
