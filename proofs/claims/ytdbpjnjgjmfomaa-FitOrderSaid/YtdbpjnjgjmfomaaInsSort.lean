/- slices.SortStableFunc over at most 20 indexes, by fit.Order's closure. -/
import Derived.Test.YtdbpjnjgjmfomaaRsV
import Derived.Test.YtdbpjnjgjmfomaaInsPure
namespace Go.Proofs.Ytdbpjnjgjmfomaa
open Go.RowKit

/-- The closure, as it is called. -/
abbrev lessV (pb : Nat) : Value := .func (.func 78) #[] #[.pointer (some ⟨pb, 0, none⟩)]
theorem cmpR_lt {p q : Rat} : cmpR p q < 0 ↔ p < q := by
  constructor
  · intro h
    by_cases h2 : p < q
    · exact h2
    · have := cmpR_nonneg h2; omega
  · intro h; rw [cmpR_neg h]; omega

set_option maxHeartbeats 8000000 in
set_option maxRecDepth 100000 in
theorem sl_insertion {q : Int → Rat} {w : World} {G g cap n pb : Nat} {l0 : List Int} (hG : G ≤ w.heap.size) (hg : G ≤ g) (hO0 : OwnI w G (.slice (some ⟨g, 0, none⟩) n cap) l0) (hP0 : InsP q n l0 1) (hn : n ≤ 20)
    (HC : As (∀ W, Below G w W → ∀ x y : Int, 0 ≤ x → x < n → 0 ≤ y → y < n → Calls Try.prog 78 #[.int .i64 x, .int .i64 y, .pointer (some ⟨pb, 0, none⟩)] W fun e w' => e = .returned (.int .i64 (cmpR (q y) (q x))) ∧ Below W.heap.size W w')) :
    Calls Try.prog 109 #[.slice (some ⟨g, 0, none⟩) n cap, .int .i64 0, .int .i64 n, lessV pb] w fun e w' => e = .returned (.tuple #[]) ∧ Below G w w' ∧ ∃ l', OwnI w' G (.slice (some ⟨g, 0, none⟩) n cap) l' ∧ InsP q n l' (max 1 n) := by
  have hkG : ∀ {W W' : World}, Below G w W → Below W.heap.size W W' → Below G w W' := fun h hb => below_own hG h hb
  go_enter Try.func109, Try.ntmps109
  go_wp2_with fail
  go_loopw [8, 9] (fun v8 _ wr => ∃ (i : Nat) (l : List Int), 1 ≤ i ∧ i ≤ max 1 n ∧ v8 = .int .i64 i ∧ Below G w wr ∧ OwnI wr G (.slice (some ⟨g, 0, none⟩) n cap) l ∧ InsP q n l i) (fun v8 _ _ => (n - intOf v8).toNat)
  case atStart => exact ⟨1, l0, by omega, by omega, rfl, (Below.refl _ _).mono hG, hO0, hP0⟩
  case round =>
    clear hO0 hP0
    obtain ⟨i, l, hi1, hi2, rfl, hd, hO, hP⟩ := hrel
    by_cases hlt : i < n
    · have bi : ((i : Int) < (n : Int)) = True := eq_true (by omega)
      have hJ0 := hP.start hlt
      clear hP
      go_wp2_with fail
      go_loopw [9] (fun v9 wr => ∃ (j : Nat) (l : List Int), v9 = .int .i64 j ∧ Below G w wr ∧ OwnI wr G (.slice (some ⟨g, 0, none⟩) n cap) l ∧ InsJ q n l i j) (fun v9 _ => (intOf v9).toNat)
      case atStart => exact ⟨i, l, rfl, hd, hO, hJ0⟩
      case round =>
        clear hO hJ0 hd
        clear l
        obtain ⟨j, l, rfl, hd, hO, hJ⟩ := hrel
        by_cases hj0 : j = 0
        · subst hj0
          have hP1 := hJ.stop (.inl rfl)
          have hd' := fun m => hd.drewsN m
          have hO' := fun m => hO.drewN m
          clear hJ hO hd
          go_wp2_with fail
          go_quiet (fail)
          go_wp2_with fail
          go_roundw
          case rel => exact ⟨i + 1, l, by omega, by omega, by go_num, hd' _, hO' _, hP1⟩
          case measure => simp [intOf]; omega
        · obtain ⟨k, hk⟩ : ∃ k, j = k + 1 := ⟨j - 1, by omega⟩
          have hji := hJ.ji
          have hjn : j < n := by omega
          have hlen := hJ.len
          obtain ⟨hcx, hfx⟩ := hO.cell j (by omega)
          obtain ⟨hcy, hfy⟩ := hO.cell k (by omega)
          have ejk : j - 1 = k := by omega
          have hst : q (l.getD k 0) < q (i : Int) → InsJ q n ((l.set j (l.getD k 0)).set k (l.getD j 0)) i k := fun h => by
            have := hJ.step (by omega) (by rw [ejk]; exact h)
            rwa [ejk] at this
          have hsp : ¬ q (l.getD k 0) < q (i : Int) → InsP q n l (i + 1) := fun h => hJ.stop (.inr (by rw [ejk]; exact h))
          clear ejk
          have hX := hJ.at_
          have hYb := hJ.lo k (by omega) (by omega)
          have hX0 : 0 ≤ l.getD j 0 := by omega
          have hX1 : l.getD j 0 < (n : Int) := by omega
          obtain ⟨hY0, hY1'⟩ := hYb
          have hY1 : l.getD k 0 < (n : Int) := by omega
          rw [← hX] at hst hsp
          have hw : IntKind.i64.wrap ((j : Int) - 1) = (k : Int) := by rw [show (j : Int) - 1 = (k : Int) by omega]; exact IntWalk.i64_in _ (by omega)
          have hj1 : (0 < (j : Int)) = True := eq_true (by omega)
          have hj1n : (0 < j) = True := eq_true (by omega)
          have hj2 : ((j : Int) < (n : Int)) = True := eq_true (by omega)
          have hj3 : (0 ≤ (j : Int)) = True := eq_true (by omega)
          have hk2 : ((k : Int) < (n : Int)) = True := eq_true (by omega)
          have hk3 : (0 ≤ (k : Int)) = True := eq_true (by omega)
          clear hJ hX hY1'
          obtain ⟨X, hXe⟩ : ∃ X, l.getD j 0 = X := ⟨_, rfl⟩
          obtain ⟨Y, hYe⟩ : ∃ Y, l.getD k 0 = Y := ⟨_, rfl⟩
          rw [hXe] at hcx hst hsp hX0 hX1
          rw [hYe] at hcy hst hsp hY0 hY1
          replace hXe := As.mk hXe
          replace hYe := As.mk hYe
          obtain ⟨s, hs⟩ : ∃ s, cmpR (q Y) (q X) = s := ⟨_, rfl⟩
          have hsl := cmpR_lt (p := q Y) (q := q X)
          rw [hs] at hsl
          replace hs := As.mk hs
          replace hk := As.mk hk
          by_cases hyx : q Y < q X
          · have hs0 : (s < 0) = True := eq_true (hsl.2 hyx)
            replace hst := As.mk (hst hyx)
            clear hsp hsl
            go_wp2_with fail
            go_region_held3 (fun w' => w'.cell? ⟨g, j, none⟩ = some (.int .i64 X) ∧ w'.cell? ⟨g, k, none⟩ = some (.int .i64 Y) ∧ Below G w w' ∧ OwnI w' G (.slice (some ⟨g, 0, none⟩) n cap) l)
              ((first
                | with_reducible exact (keep_p cell_below (keep_p cell_below (keep_p hkG (OwnI.below)))) ⟨hcx, hcy, hd, hO⟩ (below_drew _)
                | with_reducible exact (keep_p cell_below (keep_p cell_below (keep_p hkG (OwnI.below)))) (by with_reducible assumption) (below_drew _)
                | with_reducible exact (keep_p cell_below (keep_p cell_below (keep_p hkG (OwnI.below)))) (by with_reducible assumption) (by with_reducible assumption)))
              (first
                | (go_at_call 78; obtain ⟨_, _, hG1, hO1⟩ := ‹(_ = some _) ∧ (_ = some _) ∧ Below _ _ _ ∧ OwnI _ _ _ _›; refine (HC.out _ hG1 X Y hX0 hX1 hY0 hY1).mono ?_; rw [hs.out]; rintro e w9 ⟨rfl, hb⟩; have hd9 := below_own hG hG1 hb; have hO9 := hO1.below hb))
            all_goals
              have hkj : k ≠ j := by have := hk.out; omega
              have hkn : k < n := by have := hk.out; omega
              have hdr := (Below.refl w9.heap.size w9).drew
              have hd10 := below_own hG hd9 hdr
              have hO10 := hO9.below hdr
              obtain ⟨hcx0, hfx0⟩ := hO9.cell j (by omega)
              obtain ⟨hcy0, hfy0⟩ := hO9.cell k (by omega)
              rw [hXe.out] at hcx0
              rw [hYe.out] at hcy0
              have hjk : j ≠ k := fun e => hkj e.symm
              obtain ⟨hcx', hfx'⟩ := hO10.cell j (by omega)
              obtain ⟨hcy', hfy'⟩ := hO10.cell k (by omega)
              rw [hXe.out] at hcx'
              rw [hYe.out] at hcy'
              have hstore : As (OwnI ((w9.setCell ⟨g, j, none⟩ (.int .i64 Y)).setCell ⟨g, k, none⟩ (.int .i64 X)).drew G (.slice (some ⟨g, 0, none⟩) n cap) ((l.set j Y).set k X)) := ⟨((hO9.store j Y).store k X).below (Below.refl _ _).drew⟩
              have hdst : As (Below G w ((w9.setCell ⟨g, j, none⟩ (.int .i64 Y)).setCell ⟨g, k, none⟩ (.int .i64 X)).drew) := ⟨((hd9.setCell (by exact hg) _).setCell (by exact hg) _).drew⟩
              clear hd9 hO9 hdr hO10 hd10 hd hO hcx hcy hfx hfy
              go_wp2_with fail
              go_region
              all_goals
                go_wp2_with fail
                go_roundw
                case rel => exact ⟨k, (l.set j Y).set k X, by first | rfl | go_num, hdst.out, hstore.out, hst.out⟩
                case measure => have := hk.out; simp [intOf]; omega
          · have hs0 : (s < 0) = False := eq_false (fun h => hyx (hsl.1 h))
            replace hsp := As.mk (hsp hyx)
            clear hst hsl
            go_wp2_with fail
            go_region_held3 (fun w' => w'.cell? ⟨g, j, none⟩ = some (.int .i64 X) ∧ w'.cell? ⟨g, k, none⟩ = some (.int .i64 Y) ∧ Below G w w' ∧ OwnI w' G (.slice (some ⟨g, 0, none⟩) n cap) l)
              ((first
                | with_reducible exact (keep_p cell_below (keep_p cell_below (keep_p hkG (OwnI.below)))) ⟨hcx, hcy, hd, hO⟩ (below_drew _)
                | with_reducible exact (keep_p cell_below (keep_p cell_below (keep_p hkG (OwnI.below)))) (by with_reducible assumption) (below_drew _)
                | with_reducible exact (keep_p cell_below (keep_p cell_below (keep_p hkG (OwnI.below)))) (by with_reducible assumption) (by with_reducible assumption)))
              (first
                | (go_at_call 78; obtain ⟨_, _, hG1, hO1⟩ := ‹(_ = some _) ∧ (_ = some _) ∧ Below _ _ _ ∧ OwnI _ _ _ _›; refine (HC.out _ hG1 X Y hX0 hX1 hY0 hY1).mono ?_; rw [hs.out]; rintro e w9 ⟨rfl, hb⟩; have hd9 := below_own hG hG1 hb; have hO9 := hO1.below hb))
            all_goals
              go_wp2_with fail
              go_roundw
              case rel => exact ⟨i + 1, l, by omega, by omega, by go_num, hd9, hO9, hsp.out⟩
              case measure => simp [intOf]; omega
    · have hi : i = max 1 n := by omega
      subst hi
      go_wp2_with fail
      go_end0
      exact ⟨rfl, hd, l, hO, hP⟩
end Go.Proofs.Ytdbpjnjgjmfomaa
