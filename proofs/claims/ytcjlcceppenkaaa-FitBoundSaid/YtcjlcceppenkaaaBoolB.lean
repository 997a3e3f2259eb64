/- The reference's Guttman and Runs, walked. -/
import Derived.Test.YtcjlcceppenkaaaBoolA
namespace Go.Proofs.Ytcjlcceppenkaaa
open Go.RowKit

set_option maxHeartbeats 4000000 in
set_option maxRecDepth 100000 in
theorem ref_Guttman (w : World) (A : Option Addr) (c : Nat) (x : List Bool) (h : Bs w A x) (hm : x.length ≤ 140737488351232) :
    Calls Try.prog 13 #[.slice A x.length c] w fun e w' => e = .returned (.tuple (if 20 < x.length then #[.int .i64 0, .int .i64 5] else #[.int .i64 (gutR x), .int .i64 0])) ∧ Drawn w w' := by
  obtain ⟨n, hn⟩ : ∃ n, x.length = n := ⟨_, rfl⟩
  rw [hn] at hm ⊢
  replace hn := As.mk hn
  go_enter Try.func13, Try.ntmps13
  by_cases hb : 20 < n
  · go_wp2_with fail
    go_ret2
    exact ⟨rfl, by repeat (first | exact Drawn.refl _ | apply Drawn.step)⟩
  have hT := gutR_small x (by have := hn.out; omega)
  obtain ⟨T, hTT⟩ : ∃ T, gutR x = T := ⟨_, rfl⟩
  rw [hTT] at hT ⊢
  replace hTT := As.mk hTT
  go_wp2_with fail
  go_loopw [4, 5, 6] (fun v4 v5 _ wr => ∃ k m : Nat, k ≤ n ∧ v5 = .int .i64 k ∧ v4 = .int .i64 m ∧ As (m + gutR (x.drop k) = T) ∧ Drawn w wr) (fun _ v5 _ _ => (n - intOf v5).toNat)
  case atStart => exact ⟨0, 0, by omega, rfl, rfl, ⟨by rw [← hTT.out]; simp⟩, by repeat (first | exact Drawn.refl _ | apply Drawn.step)⟩
  case round =>
    obtain ⟨k, m, hk, rfl, rfl, hI, hd⟩ := hrel
    by_cases hlt : k < n
    · have hgd := gutR_drop x k (by have := hn.out; omega)
      replace hI : As (m + ((if x.getD k false = true then 0 else cnt (x.drop (k + 1))) + gutR (x.drop (k + 1))) = T) := ⟨by rw [← hI.out, hgd]⟩
      clear hgd
      go_wp2_with fail
      go_loopw [4, 6] (fun v4 v6 wr2 => ∃ j m : Nat, k < j ∧ j ≤ n ∧ v6 = .int .i64 j ∧ v4 = .int .i64 m ∧ As (m + ((if x.getD k false = true then 0 else cnt (x.drop j)) + gutR (x.drop (k + 1))) = T) ∧ Drawn w wr2) (fun _ v6 _ => (n - intOf v6).toNat)
      case atStart => exact ⟨k + 1, m, by omega, by omega, by go_num, rfl, hI, by repeat (first | exact hd | apply Drawn.step)⟩
      case round =>
        clear hI hd
        obtain ⟨j, m, hkj, hj, rfl, rfl, hI, hd⟩ := hrel
        by_cases hlj : j < n
        · obtain ⟨ad, hA, hc⟩ := (h.below hd.below).at k (by have := hn.out; omega)
          subst hA
          have hX := hc k (by have := hn.out; omega)
          have hY := hc j (by have := hn.out; omega)
          have hcd := cnt_drop x j (by have := hn.out; omega)
          have hI2 := hI.out
          rw [hcd] at hI2
          clear hc h hcd hI
          generalize x.getD k false = X at *
          generalize x.getD j false = Y at *
          have b2 : ((k : Int) < (n : Int)) = True := eq_true (by omega)
          have b3 : ((j : Int) < (n : Int)) = True := eq_true (by omega)
          have b4 : (0 ≤ (k : Int)) = True := eq_true (by omega)
          have b5 : (0 ≤ (j : Int)) = True := eq_true (by omega)
          cases X
          · cases Y
            · simp at hI2
              replace hI2 := As.mk hI2
              go_wp2_with fail
              try (go_quiet (fail))
              go_wp2_with fail
              go_roundw
              case rel => exact ⟨j + 1, m, by omega, by omega, by go_num, rfl, ⟨by simpa using hI2.out⟩, by repeat (first | exact hd | apply Drawn.step)⟩
              case measure => simp [intOf]; omega
            · simp at hI2
              have hm1 : m + 1 ≤ T := by omega
              replace hI2 := As.mk hI2
              go_wp2_with fail
              try (go_quiet (fail))
              go_wp2_with fail
              go_roundw
              case rel => exact ⟨j + 1, m + 1, by omega, by omega, by go_num, by go_num, ⟨by have := hI2.out; simp; omega⟩, by repeat (first | exact hd | apply Drawn.step)⟩
              case measure => simp [intOf]; omega
          · simp at hI2
            replace hI2 := As.mk hI2
            go_wp2_with fail
            try (go_quiet (fail))
            go_wp2_with fail
            go_roundw
            case rel => exact ⟨j + 1, m, by omega, by omega, by go_num, rfl, ⟨by simpa using hI2.out⟩, by repeat (first | exact hd | apply Drawn.step)⟩
            case measure => simp [intOf]; omega
        · obtain rfl : j = n := by omega
          have hI2 := hI.out
          rw [show cnt (x.drop j) = 0 by rw [← hn.out]; exact cnt_end x] at hI2
          replace hI2 : As (m + gutR (x.drop (k + 1)) = T) := ⟨by split at hI2 <;> omega⟩
          go_wp2_with fail
          go_roundw
          case rel => exact ⟨k + 1, m, by omega, by go_num, rfl, hI2, by repeat (first | exact hd | apply Drawn.step)⟩
          case measure => simp [intOf]; omega
    · obtain rfl : k = n := by omega
      have hI2 := hI.out
      rw [show gutR (x.drop k) = 0 by rw [← hn.out]; exact gutR_end x] at hI2
      obtain rfl : m = T := by omega
      go_wp2_with fail
      go_ret2
      exact ⟨rfl, by repeat (first | exact hd | apply Drawn.step)⟩
end Go.Proofs.Ytcjlcceppenkaaa
