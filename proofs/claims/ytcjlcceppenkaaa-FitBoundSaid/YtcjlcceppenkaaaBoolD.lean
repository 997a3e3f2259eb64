/- The law FitBound, walked. -/
import Derived.Test.YtcjlcceppenkaaaBoolC
namespace Go.Proofs.Ytcjlcceppenkaaa
open Go.RowKit

set_option maxHeartbeats 8000000 in
set_option maxRecDepth 100000 in
theorem law_FitBound (w : World) (A : Option Addr) (c : Nat) (x : List Bool) (h : Bs w A x) (hm : x.length ≤ 140737488351232) :
    Calls Try.prog 4 #[.slice A x.length c] w fun e w' => e = .returned (.bool true) ∧ Below w.heap.size w w' := by
  go_enter Try.func4, Try.ntmps4
  go_wp2_with fail
  refine (fit_Guttman w A c x h hm).mono ?_
  rintro e w' ⟨rfl, ⟨n1, rfl⟩⟩
  by_cases hb : 20 < x.length
  · rw [if_pos hb]
    go_wp2_with fail
    go_ret
    exact ⟨rfl, by repeat (first | exact Below.refl _ _ | apply Below.drewsN)⟩
  rw [if_neg hb]
  obtain ⟨n, hn⟩ : ∃ n, x.length = n := ⟨_, rfl⟩
  rw [hn] at hm hb ⊢
  replace hn := As.mk hn
  obtain ⟨T, hT⟩ : ∃ T, gn x n = T := ⟨_, rfl⟩
  have hT1 := gn_bound x n
  have hT2 := gn_le x n
  have hT3 := gn_small x n (by omega)
  have hT4 := gw_le x n
  rw [hT] at hT1 hT2 hT3 ⊢
  replace hT := As.mk hT
  replace hT1 := As.mk hT1
  replace hT2 := As.mk hT2
  go_wp2_with fail
  go_loopw [5, 6, 7, 8, 9, 10] (fun v5 v6 v7 v8 v9 v10 wr => ∃ k : Nat, k ≤ n ∧ v10 = .int .i64 k ∧ v5 = .int .i64 ((k - gw x k : Nat) : Int) ∧ v6 = .int .i64 (gw x k) ∧ v7 = .bool (decide (0 < gn x k)) ∧ v8 = .int .i64 (lo x k) ∧ v9 = .int .i64 (ru x k) ∧ Drawn w wr) (fun _ _ _ _ _ v10 _ => (n - intOf v10).toNat)
  case atStart => exact ⟨0, by omega, rfl, rfl, rfl, rfl, rfl, rfl, by repeat (first | exact Drawn.refl _ | apply Drawn.step)⟩
  case round =>
    obtain ⟨k, hk, rfl, rfl, rfl, rfl, rfl, rfl, hd⟩ := hrel
    by_cases hlt : k < n
    · obtain ⟨ad, hA, hc⟩ := (h.below hd.below).at k (by have := hn.out; omega)
      subst hA
      have hr := ru_le x k
      have hl := lo_le x k
      have hw := gw_le x k
      have hR : ru x (k + 1) = if 0 < k ∧ (x.getD k false != x.getD (k - 1) false) = true then 1 else ru x k + 1 := rfl
      have hL : lo x (k + 1) = max (lo x k) (ru x (k + 1)) := rfl
      have hW : gw x (k + 1) = if x.getD k false = true then gw x k else gw x k + 1 := rfl
      have hF := gn_pos x k
      have hX := hc k (by have := hn.out; omega)
      have hY := hc (k - 1) (by have := hn.out; omega)
      clear hc h
      obtain ⟨r0, hr0⟩ : ∃ r0, k - gw x k = r0 := ⟨_, rfl⟩
      obtain ⟨r1, hr1'⟩ : ∃ r1, k + 1 - gw x (k + 1) = r1 := ⟨_, rfl⟩
      rw [hr0]
      replace hr0 : r0 + gw x k = k := by omega
      generalize hr1 : ru x (k + 1) = R1 at *
      generalize hl1 : lo x (k + 1) = L1 at *
      generalize hgw1 : gw x (k + 1) = W1 at *
      generalize hf1 : decide (0 < gn x (k + 1)) = F1 at *
      generalize hgf : decide (0 < gn x k) = F0 at *
      generalize hru0 : ru x k = R0 at *
      generalize hlo0 : lo x k = L0 at *
      generalize hgw0 : gw x k = W0 at *
      replace hr1 := As.mk hr1
      replace hl1 := As.mk hl1
      replace hgw1 := As.mk hgw1
      replace hf1 := As.mk hf1
      replace hru0 := As.mk hru0
      replace hlo0 := As.mk hlo0
      replace hgw0 := As.mk hgw0
      replace hgf := As.mk hgf
      have b2 : ((k : Int) < (n : Int)) = True := eq_true (by omega)
      have b3 : (0 ≤ (k : Int)) = True := eq_true (by omega)
      by_cases hp : 0 < k
      · obtain ⟨J, hJ⟩ : ∃ J : Int, J = (k : Int) - 1 := ⟨_, rfl⟩
        have hw1 : IntKind.i64.wrap ((k : Int) - 1) = J := by rw [IntWalk.i64_in _ (by omega)]; omega
        rw [show k - 1 = J.toNat by omega] at hY
        rw [show k - 1 = J.toNat by omega] at hR
        have b0 : (0 ≤ J) = True := eq_true (by omega)
        have b1 : (J < (n : Int)) = True := eq_true (by omega)
        have b4 : (0 < (k : Int)) = True := eq_true (by omega)
        replace hR : R1 = if (x.getD k false != x.getD J.toNat false) = true then 1 else R0 + 1 := by rw [hR]; simp [hp]
        replace hJ := As.mk hJ
        generalize x.getD k false = X at *
        generalize x.getD J.toNat false = Y at *
        simp only [bne] at hR
        cases X
        · simp at hW hF
          cases Y
          · simp at hR
            go_wp2_with fail
            go_quiet (fail)
            go_wp2_with fail
            go_roundw
            case rel => exact ⟨k + 1, by omega, by go_num, by rw [hgw1.out, hr1']; exact val_int (by omega), by rw [hgw1.out]; exact val_int (by omega), by rw [hf1.out, hF]; try simp, by rw [hl1.out]; exact val_int (by omega), by rw [hr1.out]; exact val_int (by omega), by repeat (first | exact hd | apply Drawn.step)⟩
            case measure => simp [intOf]; omega
          · simp at hR
            go_wp2_with fail
            go_quiet (fail)
            go_wp2_with fail
            go_roundw
            case rel => exact ⟨k + 1, by omega, by go_num, by rw [hgw1.out, hr1']; exact val_int (by omega), by rw [hgw1.out]; exact val_int (by omega), by rw [hf1.out, hF]; try simp, by rw [hl1.out]; exact val_int (by omega), by rw [hr1.out]; exact val_int (by omega), by repeat (first | exact hd | apply Drawn.step)⟩
            case measure => simp [intOf]; omega
        · simp at hW hF
          cases F0
          · cases Y
            · simp at hR
              go_wp2_with fail
              go_quiet (fail)
              go_wp2_with fail
              go_roundw
              case rel => exact ⟨k + 1, by omega, by go_num, by rw [hgw1.out, hr1']; exact val_int (by omega), by rw [hgw1.out]; exact val_int (by omega), by rw [hf1.out, hF]; try simp, by rw [hl1.out]; exact val_int (by omega), by rw [hr1.out]; exact val_int (by omega), by repeat (first | exact hd | apply Drawn.step)⟩
              case measure => simp [intOf]; omega
            · simp at hR
              go_wp2_with fail
              go_quiet (fail)
              go_wp2_with fail
              go_roundw
              case rel => exact ⟨k + 1, by omega, by go_num, by rw [hgw1.out, hr1']; exact val_int (by omega), by rw [hgw1.out]; exact val_int (by omega), by rw [hf1.out, hF]; try simp, by rw [hl1.out]; exact val_int (by omega), by rw [hr1.out]; exact val_int (by omega), by repeat (first | exact hd | apply Drawn.step)⟩
              case measure => simp [intOf]; omega
          · cases Y
            · simp at hR
              go_wp2_with fail
              go_quiet (fail)
              go_wp2_with fail
              go_roundw
              case rel => exact ⟨k + 1, by omega, by go_num, by rw [hgw1.out, hr1']; exact val_int (by omega), by rw [hgw1.out]; exact val_int (by omega), by rw [hf1.out, hF]; try simp, by rw [hl1.out]; exact val_int (by omega), by rw [hr1.out]; exact val_int (by omega), by repeat (first | exact hd | apply Drawn.step)⟩
              case measure => simp [intOf]; omega
            · simp at hR
              go_wp2_with fail
              go_quiet (fail)
              go_wp2_with fail
              go_roundw
              case rel => exact ⟨k + 1, by omega, by go_num, by rw [hgw1.out, hr1']; exact val_int (by omega), by rw [hgw1.out]; exact val_int (by omega), by rw [hf1.out, hF]; try simp, by rw [hl1.out]; exact val_int (by omega), by rw [hr1.out]; exact val_int (by omega), by repeat (first | exact hd | apply Drawn.step)⟩
              case measure => simp [intOf]; omega
      · have b4 : (0 < (k : Int)) = False := eq_false (by omega)
        replace hR : R1 = R0 + 1 := by rw [hR, if_neg (fun h => hp h.1)]
        clear hY
        generalize x.getD k false = X at *
        cases X
        · simp at hW hF
          go_wp2_with fail
          go_quiet (fail)
          go_wp2_with fail
          go_roundw
          case rel => exact ⟨k + 1, by omega, by go_num, by rw [hgw1.out, hr1']; exact val_int (by omega), by rw [hgw1.out]; exact val_int (by omega), by rw [hf1.out, hF]; try simp, by rw [hl1.out]; exact val_int (by omega), by rw [hr1.out]; exact val_int (by omega), by repeat (first | exact hd | apply Drawn.step)⟩
          case measure => simp [intOf]; omega
        · simp at hW hF
          cases F0
          · go_wp2_with fail
            go_quiet (fail)
            go_wp2_with fail
            go_roundw
            case rel => exact ⟨k + 1, by omega, by go_num, by rw [hgw1.out, hr1']; exact val_int (by omega), by rw [hgw1.out]; exact val_int (by omega), by rw [hf1.out, hF]; try simp, by rw [hl1.out]; exact val_int (by omega), by rw [hr1.out]; exact val_int (by omega), by repeat (first | exact hd | apply Drawn.step)⟩
            case measure => simp [intOf]; omega
          · go_wp2_with fail
            go_quiet (fail)
            go_wp2_with fail
            go_roundw
            case rel => exact ⟨k + 1, by omega, by go_num, by rw [hgw1.out, hr1']; exact val_int (by omega), by rw [hgw1.out]; exact val_int (by omega), by rw [hf1.out, hF]; try simp, by rw [hl1.out]; exact val_int (by omega), by rw [hr1.out]; exact val_int (by omega), by repeat (first | exact hd | apply Drawn.step)⟩
            case measure => simp [intOf]; omega
    · obtain rfl : k = n := by omega
      have hT1 := hT1.out
      have hT2 := hT2.out
      have hTn := hT.out
      rw [hTn]
      obtain ⟨r0, hr0⟩ : ∃ r0, k - gw x k = r0 := ⟨_, rfl⟩
      rw [hr0] at hT2 ⊢
      have hP : r0 * gw x k ≤ 20 * 20 := Nat.mul_le_mul (by omega) (by omega)
      have hQ : k * k ≤ 20 * 20 := Nat.mul_le_mul (by omega) (by omega)
      have hP1 : IntKind.i64.wrap ((r0 : Int) * (gw x k : Int)) = ((r0 * gw x k : Nat) : Int) := by rw [IntWalk.i64_in _ (by rw [← Int.natCast_mul]; omega)]; simp
      have hQ1 : IntKind.i64.wrap ((k : Int) * (k : Int)) = ((k * k : Nat) : Int) := by rw [IntWalk.i64_in _ (by rw [← Int.natCast_mul]; omega)]; simp
      have hQ2 : Int.tdiv ((k * k : Nat) : Int) 4 = ((k * k / 4 : Nat) : Int) := by rw [Int.tdiv_eq_ediv_of_nonneg (by omega)]; omega
      generalize gw x k = W at *
      generalize r0 * W = P at *
      generalize k * k = Q at *
      have hQ3 : Q / 4 ≤ 100 := by omega
      generalize Q / 4 = R at *
      have c1 : ((T : Int) ≤ (P : Int)) = True := eq_true (by omega)
      have c2 : ((T : Int) ≤ (R : Int)) = True := eq_true (by omega)
      have c3 : (0 ≤ (T : Int)) = True := eq_true (by omega)
      have hRun := fun m => fit_Runs (wr.drewN m) A c x ((h.below hd.below).drewN m) (by rw [hn.out]; exact hm)
      rw [hn.out] at hRun
      clear hT1 hT2 hr0 hTn
      have hRu0 := fit_Runs wr A c x (h.below hd.below) (by rw [hn.out]; exact hm)
      rw [hn.out] at hRu0
      have c4 : decide (0 < (T : Int)) = decide (0 < T) := by simp
      go_wp2_with fail
      first | refine hRu0.mono ?_ | refine (hRun _).mono ?_
      rintro e w' ⟨rfl, ⟨n2, rfl⟩⟩
      go_wp2_with fail
      go_ret
      trace_state
      exact ⟨by simp, by repeat (first | exact hd.below | apply Below.drewsN)⟩
end Go.Proofs.Ytcjlcceppenkaaa
