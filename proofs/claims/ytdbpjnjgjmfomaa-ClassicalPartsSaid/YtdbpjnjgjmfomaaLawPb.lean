/- The law's own helper much over chapter 25. -/
import Derived.Test.YtdbpjnjgjmfomaaMix
namespace Go.Proofs.Ytdbpjnjgjmfomaa
open Go.RowKit

def wide (r : List Int) : Bool := decide (8 < r.length ∧ r.length ≤ 60)
/-- Whether rows have more than 12 persons or 8 items, and not more than are permitted. -/
def muchB (rows : List (List Int)) : Bool := if rows.length ≤ 200 then (if 12 < rows.length then true else rows.any wide) else false

set_option maxHeartbeats 8000000 in
set_option maxRecDepth 100000 in
theorem law_much {S : Nat → Prop} {v : Value} {rows : List (List Int)} (w : World) (hv : RowsV S w v rows) (hm : rows.length ≤ 140737488351232) (hr : ∀ i, (rows.getD i []).length ≤ 140737488351232) :
    Calls Try.prog 20 #[v] w fun e w' => e = .returned (.bool (muchB rows)) ∧ Drawn w w' := by
  obtain ⟨A, c, rfl⟩ := hv.slice
  obtain ⟨n, hn⟩ : ∃ n, rows.length = n := ⟨_, rfl⟩
  have hE : As (muchB rows = if n ≤ 200 then (if 12 < n then true else rows.any wide) else false) := ⟨by unfold muchB; rw [hn]⟩
  rw [hn] at hm hv ⊢
  replace hn := As.mk hn
  have hrow : As (∀ W, Drawn w W → ∀ k, k < n → ∃ ad, A = some ad ∧ ∃ B d, W.cell? (ad.add k) = some (.slice B (rows.getD k []).length d)) := ⟨fun W hd k hk => by
    obtain ⟨ad, e, h⟩ := (hv.below hd.below).row (by rw [hn.out]; omega)
    obtain ⟨B, d, h1, _⟩ := h k (by rw [hn.out]; exact hk)
    exact ⟨ad, e, B, d, h1⟩⟩
  have hdr : As (∀ p k, k < n → (rows.drop k).any p = (p (rows.getD k []) || (rows.drop (k + 1)).any p)) := ⟨fun p k hk => any_drop rows p [] k (by rw [hn.out]; exact hk)⟩
  have hdn : As (∀ p, (rows.drop n).any p = false) := ⟨fun p => by rw [← hn.out]; simp⟩
  replace hr := As.mk hr
  generalize muchB rows = E at *
  clear hv
  go_enter Try.func20, Try.ntmps20
  by_cases hbig : 200 < n
  · have hE2 := As.mk (show E = false by rw [hE.out, if_neg (by omega)])
    clear hE
    have b1 : ((n : Int) ≤ 200) = False := eq_false (by omega)
    have b2 : (12 < (n : Int)) = True := eq_true (by omega)
    go_wp2_with fail
    go_loopw [3] (fun v3 wr => v3 = .int .i64 0 ∧ Drawn w wr) (fun _ _ => 0)
    case atStart => exact ⟨rfl, by repeat (first | exact Drawn.refl _ | apply Drawn.step)⟩
    case round =>
      obtain ⟨rfl, hd⟩ := hrel
      go_wp2_with fail
      go_ret
      exact ⟨by rw [hE2.out]; rfl, by repeat (first | exact hd | apply Drawn.step)⟩
  replace hE := As.mk (hE.out.trans (if_pos (by omega)))
  by_cases h12 : 12 < n
  · have hE2 := As.mk (show E = true by rw [hE.out, if_pos h12])
    clear hE
    go_wp2_with fail
    go_ret
    exact ⟨by rw [hE2.out]; rfl, by repeat (first | exact Drawn.refl _ | apply Drawn.step)⟩
  replace hE := As.mk (hE.out.trans (if_neg h12))
  go_wp2_with fail
  go_loopw [3] (fun v3 wr => ∃ k : Nat, k ≤ n ∧ v3 = .int .i64 k ∧ As (rows.any wide = (rows.drop k).any wide) ∧ Drawn w wr) (fun v3 _ => (n - intOf v3).toNat)
  case atStart => exact ⟨0, by omega, rfl, ⟨by simp⟩, by repeat (first | exact Drawn.refl _ | apply Drawn.step)⟩
  case round =>
    obtain ⟨k, hk, rfl, hI, hd⟩ := hrel
    by_cases hlt : k < n
    · obtain ⟨ad, hA, B, d, hcell⟩ := hrow.out _ hd k hlt
      subst hA
      have hst := As.mk (hdr.out wide k hlt)
      have hlr := hr.out k
      obtain ⟨L, hL⟩ : ∃ L, (rows.getD k []).length = L := ⟨_, rfl⟩
      rw [hL] at hcell hlr
      have hp : As (wide (rows.getD k []) = decide (8 < L ∧ L ≤ 60)) := ⟨by rw [← hL]; rfl⟩
      replace hL := As.mk hL
      have p1 := eq_true (show 0 ≤ (k : Int) by omega)
      have p2 := eq_true (show (k : Int) < (n : Int) by omega)
      by_cases h8 : 8 < L
      · by_cases h60 : L ≤ 60
        · have R := As.mk (show E = true by rw [hE.out, hI.out, hst.out, hp.out, decide_eq_true ⟨h8, h60⟩]; rfl)
          clear hE hI hst hp
          go_wp2_with fail
          go_ret
          exact ⟨by rw [R.out]; rfl, by repeat (first | exact hd | apply Drawn.step)⟩
        · have R : As (rows.any wide = (rows.drop (k + 1)).any wide) := ⟨by rw [hI.out, hst.out, hp.out, decide_eq_false (by omega)]; rfl⟩
          clear hI hst hp
          go_wp2_with fail
          go_roundw
          case rel => exact ⟨k + 1, by omega, by go_num, R, by repeat (first | exact hd | apply Drawn.step)⟩
          case measure => simp [intOf]; omega
      · have R : As (rows.any wide = (rows.drop (k + 1)).any wide) := ⟨by rw [hI.out, hst.out, hp.out, decide_eq_false (by omega)]; rfl⟩
        clear hI hst hp
        go_wp2_with fail
        go_roundw
        case rel => exact ⟨k + 1, by omega, by go_num, R, by repeat (first | exact hd | apply Drawn.step)⟩
        case measure => simp [intOf]; omega
    · obtain rfl : k = n := by omega
      have R := As.mk (show E = false by rw [hE.out, hI.out, hdn.out])
      clear hE hI
      go_wp2_with fail
      go_ret
      exact ⟨by rw [R.out]; rfl, by repeat (first | exact hd | apply Drawn.step)⟩
end Go.Proofs.Ytdbpjnjgjmfomaa
