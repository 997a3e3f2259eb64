/- slices.SortStableFunc over at most 20 indexes: one block, by insertion. -/
import Derived.Test.YtdbpjnjgjmfomaaInsSort
namespace Go.Proofs.Ytdbpjnjgjmfomaa
open Go.RowKit

set_option maxHeartbeats 8000000 in
set_option maxRecDepth 100000 in
theorem sl_insertion_none {w : World} {g n cap pb a : Nat} (ha : n ≤ a + 1) (_hn : n ≤ 20) (ha2 : a ≤ 20) :
    Calls Try.prog 109 #[.slice (some ⟨g, 0, none⟩) n cap, .int .i64 a, .int .i64 n, lessV pb] w fun e w' => e = .returned (.tuple #[]) ∧ w' = w := by
  have hw : IntKind.i64.wrap ((a : Int) + 1) = (a : Int) + 1 := IntWalk.i64_in _ (by omega)
  have hb : ((a : Int) + 1 < (n : Int)) = False := eq_false (by omega)
  go_enter Try.func109, Try.ntmps109
  go_wp2_with fail
  go_loopw [8, 9] (fun v8 _ wr => v8 = .int .i64 ((a : Int) + 1) ∧ wr = w) (fun _ _ _ => 0)
  case atStart => exact ⟨by first | rfl | rw [hw], rfl⟩
  case round =>
    obtain ⟨rfl, rfl⟩ := hrel
    go_wp2_with fail
    go_end0
    exact ⟨rfl, rfl⟩

set_option maxHeartbeats 8000000 in
set_option maxRecDepth 100000 in
theorem sl_stable {q : Int → Rat} {w : World} {G g cap n pb : Nat} {l0 : List Int} (hG : G ≤ w.heap.size) (hg : G ≤ g) (hO0 : OwnI w G (.slice (some ⟨g, 0, none⟩) n cap) l0) (hP0 : InsP q n l0 1) (hn : n ≤ 20)
    (HC : As (∀ W, Below G w W → ∀ x y : Int, 0 ≤ x → x < n → 0 ≤ y → y < n → Calls Try.prog 78 #[.int .i64 x, .int .i64 y, .pointer (some ⟨pb, 0, none⟩)] W fun e w' => e = .returned (.int .i64 (cmpR (q y) (q x))) ∧ Below W.heap.size W w')) :
    Calls Try.prog 80 #[.slice (some ⟨g, 0, none⟩) n cap, .int .i64 n, lessV pb] w fun e w' => e = .returned (.tuple #[]) ∧ Below G w w' ∧ ∃ l', OwnI w' G (.slice (some ⟨g, 0, none⟩) n cap) l' ∧ InsP q n l' (max 1 n) := by
  have HI := As.mk (sl_insertion (pb := pb) hG hg hO0 hP0 hn HC)
  clear hO0 hP0 HC
  go_enter Try.func80, Try.ntmps80
  go_wp2_with fail
  go_loopw [7, 8] (fun v7 v8 wr => (v7 = .int .i64 0 ∧ v8 = .int .i64 20 ∧ wr = w) ∨ (n = 20 ∧ v7 = .int .i64 20 ∧ v8 = .int .i64 40 ∧ Below G w wr ∧ ∃ l', OwnI wr G (.slice (some ⟨g, 0, none⟩) n cap) l' ∧ InsP q n l' (max 1 n))) (fun _ v8 _ => (40 - intOf v8).toNat)
  case atStart => exact .inl ⟨rfl, rfl, rfl⟩
  case round =>
    rcases hrel with ⟨rfl, rfl, rfl⟩ | ⟨h20, rfl, rfl, hB, l', hO, hP⟩
    · by_cases h20 : n = 20
      · have b1 : (20 ≤ (n : Int)) = True := eq_true (by omega)
        have hnn : ((n : Nat) : Int) = 20 := by omega
        have HI2 : As (Calls Try.prog 109 #[.slice (some ⟨g, 0, none⟩) n cap, .int .i64 0, .int .i64 20, lessV pb] wr fun e w' => e = .returned (.tuple #[]) ∧ Below G wr w' ∧ ∃ l', OwnI w' G (.slice (some ⟨g, 0, none⟩) n cap) l' ∧ InsP q n l' (max 1 n)) := ⟨by rw [← hnn]; exact HI.out⟩
        replace hnn := As.mk hnn
        replace h20 := As.mk h20
        clear HI
        go_wp2_with fail
        refine HI2.out.mono ?_
        rintro e w1 ⟨rfl, hB, l', hO, hP⟩
        go_wp2_with fail
        go_roundw
        case rel => exact .inr ⟨h20.out, rfl, rfl, hB, l', hO, hP⟩
        case measure => simp [intOf]
      · have b1 : (20 ≤ (n : Int)) = False := eq_false (by omega)
        have b2 : (20 < (n : Int)) = False := eq_false (by omega)
        go_wp2_with fail
        refine HI.out.mono ?_
        rintro e w1 ⟨rfl, hB, l', hO, hP⟩
        clear HI
        go_wp2_with fail
        go_loopw [6, 7, 8, 9] (fun v6 _ _ _ W => v6 = .int .i64 20 ∧ W = w1) (fun _ _ _ _ _ => 0)
        case atStart => exact ⟨rfl, rfl⟩
        case round =>
          obtain ⟨rfl, rfl⟩ := hrel
          go_wp2_with fail
          go_end0
          exact ⟨rfl, hB, l', hO, hP⟩
    · have b1 : (40 ≤ (n : Int)) = False := eq_false (by omega)
      have b2 : (20 < (n : Int)) = False := eq_false (by omega)
      have HN : As (Calls Try.prog 109 #[.slice (some ⟨g, 0, none⟩) n cap, .int .i64 20, .int .i64 n, lessV pb] wr fun e w' => e = .returned (.tuple #[]) ∧ w' = wr) := ⟨sl_insertion_none (a := 20) (by omega) (by omega) (by omega)⟩
      clear HI
      replace h20 := As.mk h20
      go_wp2_with fail
      refine HN.out.mono ?_
      rintro e w1 ⟨rfl, rfl⟩
      clear HN
      go_wp2_with fail
      go_loopw [6, 7, 8, 9] (fun v6 _ _ _ W => v6 = .int .i64 20 ∧ W = w1) (fun _ _ _ _ _ => 0)
      case atStart => exact ⟨rfl, rfl⟩
      case round =>
        obtain ⟨rfl, rfl⟩ := hrel
        go_wp2_with fail
        go_end0
        exact ⟨rfl, hB, l', hO, hP⟩

set_option maxHeartbeats 8000000 in
set_option maxRecDepth 100000 in
theorem sl_sort {q : Int → Rat} {w : World} {G g cap n pb : Nat} {l0 : List Int} (hG : G ≤ w.heap.size) (hg : G ≤ g) (hO0 : OwnI w G (.slice (some ⟨g, 0, none⟩) n cap) l0) (hP0 : InsP q n l0 1) (hn : n ≤ 20)
    (HC : As (∀ W, Below G w W → ∀ x y : Int, 0 ≤ x → x < n → 0 ≤ y → y < n → Calls Try.prog 78 #[.int .i64 x, .int .i64 y, .pointer (some ⟨pb, 0, none⟩)] W fun e w' => e = .returned (.int .i64 (cmpR (q y) (q x))) ∧ Below W.heap.size W w')) :
    Calls Try.prog 43 #[.slice (some ⟨g, 0, none⟩) n cap, lessV pb] w fun e w' => e = .returned (.tuple #[]) ∧ Below G w w' ∧ ∃ l', OwnI w' G (.slice (some ⟨g, 0, none⟩) n cap) l' ∧ InsP q n l' (max 1 n) := by
  have HI := As.mk (sl_stable (pb := pb) hG hg hO0 hP0 hn HC)
  clear hO0 hP0 HC
  go_enter Try.func43, Try.ntmps43
  go_wp2_with fail
  refine HI.out.mono ?_
  rintro e w1 ⟨rfl, hB, hE⟩
  go_wp2_with fail
  go_end0
  exact ⟨rfl, hB, hE⟩
end Go.Proofs.Ytdbpjnjgjmfomaa
