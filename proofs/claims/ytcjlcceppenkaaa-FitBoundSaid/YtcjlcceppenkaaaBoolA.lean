/- fit.Guttman and fit.Runs, and those of the reference, walked. -/
import Derived.Test.YtcjlcceppenkaaaBoolPure
namespace Go.Proofs.Ytcjlcceppenkaaa
open Go.RowKit

set_option maxHeartbeats 2000000 in
set_option maxRecDepth 100000 in
theorem fit_Guttman (w : World) (A : Option Addr) (c : Nat) (x : List Bool) (h : Bs w A x) (hm : x.length ≤ 140737488351232) :
    Calls Try.prog 12 #[.slice A x.length c] w fun e w' => e = .returned (.tuple (if 20 < x.length then #[.int .i64 0, .int .i64 5] else #[.int .i64 (gn x x.length), .int .i64 0])) ∧ Drawn w w' := by
  obtain ⟨n, hn⟩ : ∃ n, x.length = n := ⟨_, rfl⟩
  rw [hn] at hm ⊢
  replace hn := As.mk hn
  go_enter Try.func12, Try.ntmps12
  by_cases hb : 20 < n
  · go_wp2_with fail
    go_ret2
    exact ⟨rfl, by repeat (first | exact Drawn.refl _ | apply Drawn.step)⟩
  go_wp2_with fail
  go_loopw [4, 5, 13] (fun v4 v5 v13 wr => ∃ k : Nat, k ≤ n ∧ v13 = .int .i64 k ∧ v4 = .int .i64 (gw x k) ∧ v5 = .int .i64 (gn x k) ∧ Drawn w wr) (fun _ _ v13 _ => (n - intOf v13).toNat)
  case atStart => exact ⟨0, by omega, rfl, rfl, rfl, by repeat (first | exact Drawn.refl _ | apply Drawn.step)⟩
  case round =>
    obtain ⟨k, hk, rfl, rfl, rfl, hd⟩ := hrel
    by_cases hlt : k < n
    · obtain ⟨ad, hA, hc⟩ := (h.below hd.below).at k (by have := hn.out; omega)
      subst hA
      have hck := hc k (by have := hn.out; omega)
      have hw := gw_le x k
      have hg := gn_small x k (by omega)
      have hW : gw x (k + 1) = if x.getD k false = true then gw x k else gw x k + 1 := rfl
      have hG : gn x (k + 1) = if x.getD k false = true then gn x k + gw x k else gn x k := rfl
      clear hc h
      generalize hgw1 : gw x (k + 1) = W1 at *
      generalize hgn1 : gn x (k + 1) = G1 at *
      replace hgw1 := As.mk hgw1
      replace hgn1 := As.mk hgn1
      generalize hgw0 : gw x k = W0 at *
      generalize hgn0 : gn x k = G0 at *
      replace hgw0 := As.mk hgw0
      replace hgn0 := As.mk hgn0
      cases hX : x.getD k false
      · rw [hX] at hck hW hG
        replace hX := As.mk hX
        simp only [Bool.false_eq_true, if_false] at hW hG
        go_wp2_with fail
        go_roundw
        case rel => exact ⟨k + 1, by omega, by go_num, by rw [hgw1.out]; exact val_int (by omega), by rw [hgn1.out]; exact val_int (by omega), by repeat (first | exact hd | apply Drawn.step)⟩
        case measure => simp [intOf]; omega
      · rw [hX] at hck hW hG
        replace hX := As.mk hX
        simp only [if_true] at hW hG
        go_wp2_with fail
        go_roundw
        case rel => exact ⟨k + 1, by omega, by go_num, by rw [hgw1.out]; exact val_int (by omega), by rw [hgn1.out]; exact val_int (by omega), by repeat (first | exact hd | apply Drawn.step)⟩
        case measure => simp [intOf]; omega
    · obtain rfl : k = n := by omega
      go_wp2_with fail
      go_ret2
      exact ⟨rfl, by repeat (first | exact hd | apply Drawn.step)⟩

set_option maxHeartbeats 4000000 in
set_option maxRecDepth 100000 in
theorem fit_Runs (w : World) (A : Option Addr) (c : Nat) (x : List Bool) (h : Bs w A x) (hm : x.length ≤ 140737488351232) :
    Calls Try.prog 14 #[.slice A x.length c] w fun e w' => e = .returned (.int .i64 (lo x x.length)) ∧ Drawn w w' := by
  obtain ⟨n, hn⟩ : ∃ n, x.length = n := ⟨_, rfl⟩
  rw [hn] at hm ⊢
  replace hn := As.mk hn
  go_enter Try.func14, Try.ntmps14
  go_wp2_with fail
  go_loopw [3, 4, 8] (fun v3 v4 v8 wr => ∃ k : Nat, k ≤ n ∧ v8 = .int .i64 k ∧ v3 = .int .i64 (lo x k) ∧ v4 = .int .i64 (ru x k) ∧ Drawn w wr) (fun _ _ v8 _ => (n - intOf v8).toNat)
  case atStart => exact ⟨0, by omega, rfl, rfl, rfl, by repeat (first | exact Drawn.refl _ | apply Drawn.step)⟩
  case round =>
    obtain ⟨k, hk, rfl, rfl, rfl, hd⟩ := hrel
    by_cases hlt : k < n
    · obtain ⟨ad, hA, hc⟩ := (h.below hd.below).at k (by have := hn.out; omega)
      subst hA
      have hr := ru_le x k
      have hl := lo_le x k
      have hR : ru x (k + 1) = if 0 < k ∧ (x.getD k false != x.getD (k - 1) false) = true then 1 else ru x k + 1 := rfl
      have hL : lo x (k + 1) = max (lo x k) (ru x (k + 1)) := rfl
      generalize hr1 : ru x (k + 1) = R1 at *
      generalize hl1 : lo x (k + 1) = L1 at *
      replace hr1 := As.mk hr1
      replace hl1 := As.mk hl1
      clear h
      rcases Nat.eq_zero_or_pos k with rfl | hp
      · clear hc
        have hr0 : ru x 0 = 0 := rfl
        have hl0 : lo x 0 = 0 := rfl
        rw [hr0] at hr hR ⊢
        rw [hl0] at hl hL ⊢
        simp at hR
        subst hR
        simp at hL
        subst hL
        go_wp2_with fail
        go_quiet (fail)
        go_wp2_with fail
        go_roundw
        case rel => exact ⟨1, by omega, by go_num, by rw [hl1.out]; rfl, by rw [hr1.out]; rfl, by repeat (first | exact hd | apply Drawn.step)⟩
        case measure => simp [intOf]; omega
      · have hX := hc k (by have := hn.out; omega)
        have hY := hc (k - 1) (by have := hn.out; omega)
        clear hc
        obtain ⟨J, hJ⟩ : ∃ J : Int, J = (k : Int) - 1 := ⟨_, rfl⟩
        have hw1 : IntKind.i64.wrap ((k : Int) - 1) = J := by rw [IntWalk.i64_in _ (by omega)]; omega
        rw [show k - 1 = J.toNat by omega] at hY
        rw [show k - 1 = J.toNat by omega] at hR
        have b0 : (0 ≤ J) = True := eq_true (by omega)
        have b1 : (J < (n : Int)) = True := eq_true (by omega)
        have b2 : ((k : Int) < (n : Int)) = True := eq_true (by omega)
        have b3 : (0 ≤ (k : Int)) = True := eq_true (by omega)
        have b4 : ((k : Int) == 0) = false := beq_eq_false_iff_ne.2 (by omega)
        have hR' : R1 = if (x.getD k false != x.getD J.toNat false) = true then 1 else ru x k + 1 := by rw [hR]; simp [hp]
        clear hR
        replace hJ := As.mk hJ
        generalize x.getD k false = X at *
        generalize x.getD J.toNat false = Y at *
        generalize hr0 : ru x k = R0 at *
        generalize hl0 : lo x k = L0 at *
        replace hr0 := As.mk hr0
        replace hl0 := As.mk hl0
        simp only [bne] at hR'
        cases hXY : (X == Y)
        · simp [hXY] at hR'
          go_wp2_with fail
          go_quiet (fail)
          go_wp2_with fail
          go_roundw
          case rel => exact ⟨k + 1, by omega, by go_num, by rw [hl1.out]; exact val_int (by omega), by rw [hr1.out]; exact val_int (by omega), by repeat (first | exact hd | apply Drawn.step)⟩
          case measure => simp [intOf]; omega
        · simp [hXY] at hR'
          go_wp2_with fail
          go_quiet (fail)
          go_wp2_with fail
          go_roundw
          case rel => exact ⟨k + 1, by omega, by go_num, by rw [hl1.out]; exact val_int (by omega), by rw [hr1.out]; exact val_int (by omega), by repeat (first | exact hd | apply Drawn.step)⟩
          case measure => simp [intOf]; omega
    · obtain rfl : k = n := by omega
      go_wp2_with fail
      go_ret
      exact ⟨rfl, by repeat (first | exact hd | apply Drawn.step)⟩
end Go.Proofs.Ytcjlcceppenkaaa
