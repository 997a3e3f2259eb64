/- classical: scores. -/
import Derived.Test.YtdbpjnjgjmfomaaCls1
namespace Go.Proofs.Ytdbpjnjgjmfomaa
open Go.RowKit

/-- All scores lie within their bounds. -/
def okScores (l : List Int) : Bool := l.all (fun z => decide (-1000000 ≤ z) && decide (z ≤ 1000000))
theorem okScores_at {l : List Int} (h : okScores l = true) (i : Nat) (hi : i < l.length) : -1000000 ≤ l.getD i 0 ∧ l.getD i 0 ≤ 1000000 := by
  have := List.all_eq_true.1 h (l.getD i 0) (by rw [List.getD_eq_getElem?_getD, List.getElem?_eq_getElem hi]; exact List.getElem_mem hi)
  simpa using this

set_option maxHeartbeats 4000000 in
set_option maxRecDepth 100000 in
theorem cls_scores {S : Nat → Prop} {v : Value} {l : List Int} (w : World) (hv : IntsV S w v l) (hm : l.length ≤ 140737488351232) :
    Calls Try.prog 42 #[v] w fun e w' => e = .returned (.bool (okScores l)) ∧ Drawn w w' := by
  obtain ⟨A, c, rfl⟩ := hv.slice
  obtain ⟨n, hn⟩ : ∃ n, l.length = n := ⟨_, rfl⟩
  rw [hn] at hm ⊢
  rw [hn] at hv
  replace hn := As.mk hn
  go_enter Try.func42, Try.ntmps42
  go_wp2_with fail
  go_loopw [4, 7] (fun _ v7 wr => ∃ k : Nat, k ≤ n ∧ v7 = .int .i64 k ∧ As (okScores l = okScores (l.drop k)) ∧ Drawn w wr) (fun _ v7 _ => (n - intOf v7).toNat)
  case atStart => exact ⟨0, by omega, rfl, ⟨by simp⟩, by repeat (first | exact Drawn.refl _ | apply Drawn.step)⟩
  case round =>
    obtain ⟨k, hk, rfl, hI, hd⟩ := hrel
    by_cases hlt : k < n
    · obtain ⟨ad, hA, hc⟩ := (hv.below hd.below).cells (by have := hn.out; omega)
      subst hA
      have hck := hc k (by have := hn.out; omega)
      have hst : As (okScores (l.drop k) = (decide (-1000000 ≤ l.getD k 0) && decide (l.getD k 0 ≤ 1000000) && okScores (l.drop (k + 1)))) := ⟨by
        have hkl : k < l.length := by have := hn.out; omega
        unfold okScores
        rw [List.drop_eq_getElem_cons hkl, List.all_cons, List.getD_eq_getElem?_getD, List.getElem?_eq_getElem hkl]; rfl⟩
      clear hc
      generalize l.getD k 0 = x at *
      by_cases h1 : x < -1000000
      · have R : As (okScores l = false) := ⟨by rw [hI.out, hst.out, decide_eq_false (by omega)]; rfl⟩
        clear hI hst
        go_wp2_with fail
        go_ret
        exact ⟨by rw [R.out]; rfl, by repeat (first | exact hd | apply Drawn.step)⟩
      · by_cases h2 : 1000000 < x
        · have R : As (okScores l = false) := ⟨by rw [hI.out, hst.out, decide_eq_false (show ¬ x ≤ 1000000 by omega)]; simp⟩
          clear hI hst
          go_wp2_with fail
          go_ret
          exact ⟨by rw [R.out]; rfl, by repeat (first | exact hd | apply Drawn.step)⟩
        · have R : As (okScores l = okScores (l.drop (k + 1))) := ⟨by rw [hI.out, hst.out, decide_eq_true (show x ≤ 1000000 by omega), decide_eq_true (show -1000000 ≤ x by omega)]; simp⟩
          clear hI hst
          go_wp2_with fail
          go_roundw
          case rel => exact ⟨k + 1, by omega, by go_num, R, by repeat (first | exact hd | apply Drawn.step)⟩
          case measure => simp [intOf]; omega
    · obtain rfl : k = n := by omega
      have R : As (okScores l = true) := ⟨by rw [hI.out, ← hn.out]; simp [okScores]⟩
      clear hI
      go_wp2_with fail
      go_ret
      exact ⟨by rw [R.out]; rfl, by repeat (first | exact hd | apply Drawn.step)⟩
end Go.Proofs.Ytdbpjnjgjmfomaa
