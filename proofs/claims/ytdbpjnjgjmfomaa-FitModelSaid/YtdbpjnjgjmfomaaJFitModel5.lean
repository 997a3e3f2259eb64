/- Joined texts: Null1, RatSum, ExValid, BoolPure, ModelPure, BoolA, OwnB, AppB. -/
import Derived.Test.YtdbpjnjgjmfomaaJFitModel4
/- fit.Null, the good case. -/
namespace Go.Proofs.Ytdbpjnjgjmfomaa
open Go.RowKit

theorem w64n (n : Int) (a : -9223372036854775808 ≤ n) (b : n ≤ 9223372036854775807) : wrap64 n = n := by unfold wrap64; omega
theorem size_wrap {n : Nat} (h : n ≤ 20) : wrap64 (wrap64 ((wrap64 ((n : Int) * (n : Int))).tdiv 4) + 1) = ((n * n / 4 + 1 : Nat) : Int) := by
  have h1 : n * n ≤ 20 * 20 := Nat.mul_le_mul h h
  have e1 : wrap64 ((n : Int) * (n : Int)) = ((n * n : Nat) : Int) := by
    have : (n : Int) * (n : Int) = ((n * n : Nat) : Int) := by simp
    rw [this]
    exact w64n _ (by omega) (by omega)
  rw [e1]
  have e2 : ((n * n : Nat) : Int).tdiv 4 = ((n * n / 4 : Nat) : Int) := by
    rw [Int.tdiv_eq_ediv_of_nonneg (by omega)]; rfl
  rw [e2, w64n ((n * n / 4 : Nat) : Int) (by omega) (by omega)]
  exact w64n _ (by omega) (by omega)
/-- The cells of a fresh ratio, behind a call. -/
theorem fresh3 {w w' : World} (hb : Below (w.alloc (.cells #[.bool false, .slice none 0 0, .slice none 0 0] 40)).heap.size (w.alloc (.cells #[.bool false, .slice none 0 0, .slice none 0 0] 40)) w') :
    (w'.cell? ⟨w.heap.size, 0, none⟩ = some (.bool false) ∧ w'.cell? ⟨w.heap.size, 1, none⟩ = some (.slice none 0 0) ∧ w'.cell? ⟨w.heap.size, 2, none⟩ = some (.slice none 0 0)) ∧ w'.frozen? ⟨w.heap.size, 0, none⟩ = false ∧ w'.frozen? ⟨w.heap.size, 1, none⟩ = false ∧ w'.frozen? ⟨w.heap.size, 2, none⟩ = false := by
  have hlt : w.heap.size < (w.alloc (.cells #[.bool false, .slice none 0 0, .slice none 0 0] 40)).heap.size := by simp
  exact ⟨⟨(hb.cell (p := ⟨w.heap.size, 0, none⟩) hlt).trans (by simp [go_sem]), (hb.cell (p := ⟨w.heap.size, 1, none⟩) hlt).trans (by simp [go_sem]), (hb.cell (p := ⟨w.heap.size, 2, none⟩) hlt).trans (by simp [go_sem])⟩,
    (hb.frozen (p := ⟨w.heap.size, 0, none⟩) hlt).trans (by simp [go_sem]), (hb.frozen (p := ⟨w.heap.size, 1, none⟩) hlt).trans (by simp [go_sem]), (hb.frozen (p := ⟨w.heap.size, 2, none⟩) hlt).trans (by simp [go_sem])⟩
theorem fresh3d {w w' : World} (hb : Below (w.alloc (.cells #[.bool false, .slice none 0 0, .slice none 0 0] 40)).drew.heap.size (w.alloc (.cells #[.bool false, .slice none 0 0, .slice none 0 0] 40)).drew w') :
    (w'.cell? ⟨w.heap.size, 0, none⟩ = some (.bool false) ∧ w'.cell? ⟨w.heap.size, 1, none⟩ = some (.slice none 0 0) ∧ w'.cell? ⟨w.heap.size, 2, none⟩ = some (.slice none 0 0)) ∧ w'.frozen? ⟨w.heap.size, 0, none⟩ = false ∧ w'.frozen? ⟨w.heap.size, 1, none⟩ = false ∧ w'.frozen? ⟨w.heap.size, 2, none⟩ = false :=
  fresh3 ((below_drew _).after (below_drew _).size hb)
/-- The blocks outside a table of n rows that begins with its outer row at gt. -/
abbrev OffT (gt n : Nat) : Nat → Prop := fun k => ¬ (gt ≤ k ∧ k ≤ gt + n)

set_option maxHeartbeats 16000000 in
set_option maxRecDepth 100000 in
theorem fit_Null_ok {S : Nat → Prop} {A : Option Addr} {c : Nat} {es : List Rt} (w : World) (hv : RsV S w A es) (h20 : es.length ≤ 20) (hl : Short es) (hE : ckE es = 0) :
    Calls Try.prog 31 #[.slice A es.length c] w fun e w' => ∃ g, e = .returned (.tuple #[.slice (some ⟨g, 0, none⟩) (es.length * es.length / 4 + 1) (es.length * es.length / 4 + 1), .int .i64 0]) ∧ w.heap.size ≤ g ∧ Below w.heap.size w w' ∧ RowQ (fun k => w.heap.size ≤ k ∧ k ≠ g) w' g (es.length * es.length / 4 + 1) (nulQ (fun i => qe (es.getD i rt0)) es.length) ∧ RowN (fun k => w.heap.size ≤ k ∧ k ≠ g) w' g (fun j => j < es.length * es.length / 4 + 1) (nulQ (fun i => qe (es.getD i rt0)) es.length) := by
  have HC : As (∀ W, Below w.heap.size w W → Calls Try.prog 62 #[.slice A es.length c] W fun e w' => e = .returned (.int .i64 0) ∧ Below W.heap.size W w') := ⟨fun W hb => by
    rw [← hE]
    exact fit_check W (hv.below hb) (by omega) hl⟩
  have K := As.mk (HC.out w (Below.refl _ _))
  obtain ⟨n, hn⟩ : ∃ n, es.length = n := ⟨_, rfl⟩
  rw [hn] at K h20 ⊢
  have hsw := size_wrap h20
  have hm101 : n * n / 4 + 1 ≤ 101 := by
    have h1 : n * n ≤ 20 * 20 := Nat.mul_le_mul h20 h20
    omega
  obtain ⟨m, hm⟩ : ∃ m, n * n / 4 + 1 = m := ⟨_, rfl⟩
  have hm0 : 1 ≤ m := by omega
  rw [hm] at hsw hm101 ⊢
  have hmkO : ∀ W, (Instr.makeSlice 79 (.int .i64 ((n : Int) + 1)) (.int .i64 ((n : Int) + 1))).run Try.prog W = .ok (.slice (some ⟨W.heap.size, 0, none⟩) (n + 1) (n + 1)) (W.alloc (.cells (madeCells #[.slice none 0 0] (n + 1)) 49)) :=
    fun W => by simpa using make_slices 79 49 Try.underlying79 ratios_info (n + 1) (n + 1) (by omega) (by omega) W
  have hmkR : ∀ W, (Instr.makeSlice 49 (.int .i64 (m : Int)) (.int .i64 (m : Int))).run Try.prog W = .ok (.slice (some ⟨W.heap.size, 0, none⟩) m m) (W.alloc (.cells (madeCells zq (m * 3)) 40)) :=
    fun W => make_ratios 49 Try.underlying49 ratio_info m m (by omega) (by omega) W
  have hrzp : As (∀ j, j < n → rz (qe (es.getD j rt0)) ≤ 1000) := ⟨fun j hj => by
    obtain ⟨a, b⟩ := hl (by omega) j (by omega)
    obtain ⟨_, _, N, U, k, c, B, l, d, _, _, _, e1, e2, hI⟩ := hv.at j (by omega)
    exact (hI.le (n := 1000) (by omega)).rz (by omega)⟩
  replace hm := As.mk hm
  replace hn := As.mk hn
  replace hv := As.mk hv
  replace hl := As.mk hl
  clear HC hE
  go_enter Try.func31, Try.ntmps31
  go_wp2_with fail
  refine K.out.mono ?_
  rintro e w1 ⟨rfl, hb1⟩
  clear K
  go_wp2_with fail
  rw [hsw]
  clear hsw
  have hGr := GrowQ.start (OffT w1.heap.size (n + 1)) w1 (n + 1) m (by omega)
  have hB5 := (Below.refl w1.heap.size w1).alloc (Nat.le_refl _) (.cells (madeCells #[.slice none 0 0] (n + 1)) 49)
  have hw1 := hb1.size
  have hbb1 := As.mk hb1
  clear hb1
  obtain ⟨W5, hW5⟩ : ∃ W, w1.alloc (.cells (madeCells #[.slice none 0 0] (n + 1)) 49) = W := ⟨_, rfl⟩
  obtain ⟨gt, hgt⟩ : ∃ gt, w1.heap.size = gt := ⟨_, rfl⟩
  rw [hW5] at hGr hB5 ⊢
  rw [hgt] at hGr hB5 hw1 ⊢
  clear hW5
  replace hgt := As.mk hgt
  go_loopw [8, 37] (fun _ v37 wr => ∃ r : Nat, r ≤ n + 1 ∧ v37 = .int .i64 r ∧ Below gt w1 wr ∧ GrowQ (OffT gt (n + 1)) wr gt (n + 1) m r) (fun _ v37 _ => (n + 1 - intOf v37).toNat)
  case atStart => exact ⟨0, by omega, rfl, hB5, hGr⟩
  case round =>
    clear hGr hB5
    rename World => wq
    obtain ⟨r, hr, rfl, hB, hGr⟩ := hrel
    by_cases hlr : r < n + 1
    · have br : ((r : Int) < (n : Int) + 1) = True := eq_true (by omega)
      obtain ⟨⟨x, hx⟩, hf⟩ := hGr.res.2 r hlr
      have hsq := hGr.size
      have hG1 := As.mk (hGr.step hlr (by omega) (fun j a b => fun c => c ⟨a, b⟩))
      have hB1 : As (Below gt w1 ((wq.setCell ⟨gt, r, none⟩ (.slice (some ⟨gt + 1 + r, 0, none⟩) m m)).alloc (.cells (madeCells zq (m * 3)) 40))) := ⟨(hB.setCell (by exact Nat.le_refl _) _).alloc (by simp [World.setCell]; omega) _⟩
      have hlt9 : gt < wq.heap.size := by omega
      have hcom : (wq.alloc (.cells (madeCells zq (m * 3)) 40)).setCell ⟨gt, r, none⟩ (.slice (some ⟨gt + 1 + r, 0, none⟩) m m) = (wq.setCell ⟨gt, r, none⟩ (.slice (some ⟨gt + 1 + r, 0, none⟩) m m)).alloc (.cells (madeCells zq (m * 3)) 40) := by first | exact World.setCell_alloc _ _ _ _ hlt9 | exact World.setCell_alloc_lt _ _ _ _ hlt9 | simp [go_sem, hlt9]
      have br0 : (0 ≤ (r : Int)) = True := eq_true (by omega)
      have hx' : (wq.alloc (.cells (madeCells zq (m * 3)) 40)).cell? ⟨gt, r, none⟩ = some x := cell_below hx ((Below.refl _ _).alloc (Nat.le_refl _) _)
      have hf' : (wq.alloc (.cells (madeCells zq (m * 3)) 40)).frozen? ⟨gt, r, none⟩ = false := by simp [go_sem, hf, hlt9]
      clear hGr hB
      go_wp2_with fail
      go_roundw
      case rel => exact ⟨r + 1, by omega, by go_num, hB1.out, hG1.out⟩
      case measure => simp [intOf]; omega
    · obtain rfl : r = n + 1 := by omega
      have br : (((n + 1 : Nat) : Int) < (n : Int) + 1) = False := eq_false (by omega)
      have hT0 := hGr.done
      have hgts := hGr.size
      clear hGr
      go_wp2_with fail
      have hdw := below_drew wq
      have ht0 := cell_below (hT0.top 0 (by omega)) hdw
      have hz0 : gt + 1 < wq.heap.size := by omega
      have bm0 : (0 < (m : Int)) = True := eq_true (by omega)
      have bm1 : (0 < m) = True := eq_true (by omega)
      have hn1 : gt ≠ gt + 1 + 0 := by omega
      have hT1 := hT0.below hdw
      go_region_held3 (fun w' => w'.cell? ⟨gt, 0, none⟩ = some (.slice (some ⟨gt + 1 + 0, 0, none⟩) m m))
        ((first
          | with_reducible exact set_cell (set_cell (set_cell (cell_below ht0 hb) hn1) hn1) hn1
          | with_reducible exact cell_below ht0 hb
          | with_reducible exact ht0))
        (first
          | (go_at_call 63; refine (fit_whole _ 1 (by decide) (by decide)).mono ?_; rintro e w2 ⟨r1, rfl, hR, hb⟩; rw [one_fr] at hR; obtain ⟨N1, A1, k1, c1, B1, l1, d1, rfl⟩ := hR.letters; have hRs := ((hT1.below hb).row 0 (by omega)).res; obtain ⟨⟨_, e0⟩, f0⟩ := hRs.2 (0 * 3) (by omega); obtain ⟨⟨_, e1⟩, f1⟩ := hRs.2 (0 * 3 + 1) (by omega); obtain ⟨⟨_, e2⟩, f2⟩ := hRs.2 (0 * 3 + 2) (by omega)))
      all_goals
        have hT2 := (hT1.below hb).set (g := 0) (x := 0) (by omega) (by omega) (hR.i.mono (T := OffT gt (n + 1)) (fun k hk _ => by have : wq.drew.heap.size ≤ k := hk; simp at this; omega))
        have hT3 := hT2.congr (U := dpQ (fun i => qe (es.getD i rt0)) 0) (fun r _ k _ => by
          show (if r = 0 ∧ k = 0 then (1 : Rat) else 0) = _
          rfl)
        have hB3 : Below w.heap.size w (((w2.setCell ⟨gt + 1 + 0, 0 * 3, none⟩ (.bool N1)).setCell ⟨gt + 1 + 0, 0 * 3 + 1, none⟩ (.slice A1 k1 c1)).setCell ⟨gt + 1 + 0, 0 * 3 + 2, none⟩ (.slice B1 l1 d1)) :=
          (((((hbb1.out.trans (hB.mono (by omega))).after (by omega) (hdw.after hdw.size hb)).setCell (by show w.heap.size ≤ gt + 1 + 0; omega) _).setCell (by show w.heap.size ≤ gt + 1 + 0; omega) _).setCell (by show w.heap.size ≤ gt + 1 + 0; omega) _)
        have hz3 : gt + (n + 1) < (((w2.setCell ⟨gt + 1 + 0, 0 * 3, none⟩ (.bool N1)).setCell ⟨gt + 1 + 0, 0 * 3 + 1, none⟩ (.slice A1 k1 c1)).setCell ⟨gt + 1 + 0, 0 * 3 + 2, none⟩ (.slice B1 l1 d1)).heap.size := by
          have := hb.size
          simp [World.setCell]
          simp at this
          omega
        obtain ⟨W6, hW6⟩ : ∃ W, (((w2.setCell ⟨gt + 1 + 0, 0 * 3, none⟩ (.bool N1)).setCell ⟨gt + 1 + 0, 0 * 3 + 1, none⟩ (.slice A1 k1 c1)).setCell ⟨gt + 1 + 0, 0 * 3 + 2, none⟩ (.slice B1 l1 d1)) = W := ⟨_, rfl⟩
        change Exit.then _ _ _ _ (((w2.setCell ⟨gt + 1 + 0, 0 * 3, none⟩ (.bool N1)).setCell ⟨gt + 1 + 0, 0 * 3 + 1, none⟩ (.slice A1 k1 c1)).setCell ⟨gt + 1 + 0, 0 * 3 + 2, none⟩ (.slice B1 l1 d1))
        rw [hW6] at hB3 hz3 ⊢
        have hT4 : TabQ (OffT gt (n + 1)) W6 gt (n + 1) m (fun r => gt + 1 + r) (dpQ (fun i => qe (es.getD i rt0)) 0) := by rw [← hW6]; exact hT3
        clear hT0 hT1 hT2 hT3 hW6 hR hRs e0 f0 e1 f1 e2 f2 hb ht0 hdw hB
        go_wp2_with fail
        go_loopw [7, 9, 10, 11, 12, 13, 14, 15, 16, 53] (fun v7 _ _ _ _ _ _ _ _ v53 wr => ∃ i gb : Nat, i ≤ n ∧ v53 = .int .i64 i ∧ v7 = .slice (some ⟨gb, 0, none⟩) (n + 1) (n + 1) ∧ w.heap.size ≤ gb ∧ gb + (n + 1) < wr.heap.size ∧ Below w.heap.size w wr ∧ TabQ (OffT gb (n + 1)) wr gb (n + 1) m (fun r => gb + 1 + r) (dpQ (fun i => qe (es.getD i rt0)) i)) (fun _ _ _ _ _ _ _ _ _ v53 _ => (n - intOf v53).toNat)
        case atStart => exact ⟨0, gt, by omega, rfl, rfl, hw1, hz3, hB3, hT4⟩
        case round =>
          clear hB3 hz3 hT4 hz0 hn1 hgts
          rename World => wr
          obtain ⟨i, gb, hi, rfl, rfl, hgb, hgz, hB, hT⟩ := hrel
          by_cases hlt : i < n
          · have bi : ((i : Int) < (n : Int)) = True := eq_true (by omega)
            have bi0 : (0 ≤ (i : Int)) = True := eq_true (by omega)
            obtain ⟨ad, rfl, pN, pU, pk, pc, pB, pl, pd, p0, p1, p2, pek, pel, hIp⟩ := (hv.out.below hB).at i (by rw [hn.out]; exact hlt)
            obtain ⟨hs1, hs2⟩ := hl.out (by rw [hn.out]; omega) i (by rw [hn.out]; exact hlt)
            have hP := hIp.le (n := 1000) (by omega)
            clear hIp pek pel hs1 hs2
            go_wp2_with fail
            have hb7 := (Below.refl wr.heap.size wr).alloc (Nat.le_refl _) (.cells #[.bool pN, .slice pU pk pc, .slice pB pl pd] 40)
            have hP7 := hP.below hb7
            obtain ⟨W7, hW7⟩ : ∃ W, wr.alloc (.cells #[.bool pN, .slice pU pk pc, .slice pB pl pd] 40) = W := ⟨_, rfl⟩
            have hs7 : W7.heap.size = wr.heap.size + 1 := by rw [← hW7]; simp
            obtain ⟨pb, hpb⟩ : ∃ pb, wr.heap.size = pb := ⟨_, rfl⟩
            have x0 : W7.cell? ⟨pb, 0, none⟩ = some (.bool pN) := by rw [← hW7, ← hpb]; simp [go_sem]
            have x1 : W7.cell? ⟨pb, 1, none⟩ = some (.slice pU pk pc) := by rw [← hW7, ← hpb]; simp [go_sem]
            have x2 : W7.cell? ⟨pb, 2, none⟩ = some (.slice pB pl pd) := by rw [← hW7, ← hpb]; simp [go_sem]
            have hT7 := hT.below hb7
            have hB7 := hB.after hB.size hb7
            rw [hW7] at hT7 hB7 hP7 hb7 ⊢
            rw [hpb] at hs7 hgz ⊢
            have hs7a : pb < W7.heap.size := by omega
            have hs7b : W7.heap.size ≤ pb + 1 := by omega
            clear hW7 hT hB p0 p1 p2 hP hb7 hpb hs7
            go_upto_region 16 with fail
            go_cut [11] (fun v11 wx => ∃ qb qN qU qk qc qB ql qd, v11 = .pointer (some ⟨qb, 0, none⟩) ∧ Below W7.heap.size W7 wx ∧ W7.heap.size ≤ qb ∧ qb < wx.heap.size ∧ wx.cell? ⟨qb, 0, none⟩ = some (.bool qN) ∧ wx.cell? ⟨qb, 1, none⟩ = some (.slice qU qk qc) ∧ wx.cell? ⟨qb, 2, none⟩ = some (.slice qB ql qd) ∧ RatI (fun k => k ≠ qb) wx (.agg #[.bool qN, .slice qU qk qc, .slice qB ql qd]) (1 - qe (es.getD i rt0)) (rz (1 - qe (es.getD i rt0))))
            case first =>
              have hone := rz_one'
              have hrp := rz_pos (1 : Rat)
              go_region_held3 (fun w' => w'.cell? ⟨pb, 0, none⟩ = some (.bool pN) ∧ w'.cell? ⟨pb, 1, none⟩ = some (.slice pU pk pc) ∧ w'.cell? ⟨pb, 2, none⟩ = some (.slice pB pl pd) ∧ Below W7.heap.size W7 w')
                ((first
                  | with_reducible exact keep_and (keep_and (keep_and keep_end)) ⟨x0, x1, x2, Below.refl _ _⟩ (below_drew _)
                  | with_reducible exact keep_and (keep_and (keep_and keep_end)) (by with_reducible assumption) (by with_reducible assumption)
                  | with_reducible exact keep_and (keep_and (keep_and keep_end)) (by with_reducible assumption) ((Below.refl _ _).alloc (Nat.le_refl _) _)
                  | exact keep_and (keep_and (keep_and keep_end)) (keep_and (keep_and (keep_and keep_end)) (keep_and (keep_and (keep_and keep_end)) (keep_and (keep_and (keep_and keep_end)) ⟨x0, x1, x2, Below.refl _ _⟩ (below_drew _)) hb) hb3) ((Below.refl _ _).alloc (Nat.le_refl _) _)
                  | exact (set_held (by simp <;> omega) (set_held (by simp <;> omega) (set_held (by simp <;> omega) (fun h => set_end h (by simp <;> omega))))) ((set_held (by simp <;> omega) (set_held (by simp <;> omega) (set_held (by simp <;> omega) (fun h => set_end h (by simp <;> omega))))) ((set_held (by simp <;> omega) (set_held (by simp <;> omega) (set_held (by simp <;> omega) (fun h => set_end h (by simp <;> omega))))) (by with_reducible assumption)))))
                (first
                  | (go_at_call 63; refine (fit_whole _ 1 (by decide) (by decide)).mono ?_; rintro e w2 ⟨r1, rfl, hR, hb⟩; rw [one_fr] at hR; have z8 := hb.size; simp at z8; (try (have hfr := fresh3d hb; obtain ⟨⟨e0, e1, e2⟩, f0, f1, f2⟩ := hfr)))
                  | (go_at_call 29; obtain ⟨_, _, _, hB1⟩ := ‹(_ = some _) ∧ (_ = some _) ∧ (_ = some _) ∧ Below _ _ _›; (first | (refine (rat_Sub _ hR.i (hP7.below hB1) hrp (by omega) (by omega)).mono ?_) | (refine (rat_Sub _ (hR.below ((Below.refl _ _).alloc (Nat.le_refl _) _)).i (hP7.below hB1) hrp (by omega) (by omega)).mono ?_)); rintro e w3 ⟨r3, rfl, hM, hb3⟩; obtain ⟨mN, mU, mk, mc, mB, ml, md, rfl⟩ := hM.letters; (try (have g0 := cell_below e0 hb3; have g1 := cell_below e1 hb3; have g2 := cell_below e2 hb3; have k0 := (hb3.frozen (World.block_lt_of_cell? _ _ e0)).trans f0; have k1 := (hb3.frozen (World.block_lt_of_cell? _ _ e1)).trans f1; have k2 := (hb3.frozen (World.block_lt_of_cell? _ _ e2)).trans f2)); (try (have hfr := fresh3 hb3; obtain ⟨⟨e0, e1, e2⟩, f0, f1, f2⟩ := hfr))))
              all_goals
                obtain ⟨_, _, _, hBx⟩ := ‹(_ = some _) ∧ (_ = some _) ∧ (_ = some _) ∧ Below _ _ _›
                have z1 := hb.size
                have z2 := hb3.size
                simp at z1 z2
                go_wp2_with fail
                go_meet
                case rel =>
                  first
                    | exact ⟨w3.heap.size, mN, mU, mk, mc, mB, ml, md, rfl, hBx, by omega, by simp, by simp [go_sem], by simp [go_sem], by simp [go_sem], (hM.i.mono (T := fun k => k ≠ w3.heap.size) (fun k _ h => by omega)).below ((Below.refl _ _).alloc (Nat.le_refl _) _)⟩
                    | exact ⟨w2.heap.size, mN, mU, mk, mc, mB, ml, md, rfl, hBx, by omega, by simp [World.setCell]; omega, by simp [go_sem, e0], by simp [go_sem, e1], by simp [go_sem, e2], (((hM.i.mono (T := fun k => k ≠ w2.heap.size) (fun k h _ => by have h : (w2.alloc _).heap.size ≤ k := h; simp at h; omega)).setc (by simp)).setc (by simp)).setc (by simp)⟩
                    | exact ⟨W7.heap.size, mN, mU, mk, mc, mB, ml, md, rfl, hBx, by omega, by simp [World.setCell]; omega, by simp [go_sem, g0], by simp [go_sem, g1], by simp [go_sem, g2], (((hM.i.mono (T := fun k => k ≠ W7.heap.size) (fun k h _ => by have h : w2.heap.size ≤ k := h; omega)).setc (by simp)).setc (by simp)).setc (by simp)⟩
            case rest =>
              obtain ⟨qb, qN, qU, qk, qc, qB, ql, qd, rfl, hb8, hq1, hq2, y0, y1, y2, hQ⟩ := hcut
              have hT8 := hT7.below hb8
              have hP8 := hP7.below hb8
              have hB8 := hB7.after hB7.size hb8
              replace x0 := cell_below x0 hb8
              replace x1 := cell_below x1 hb8
              replace x2 := cell_below x2 hb8
              have hs8 := hb8.size
              clear hT7 hP7 hB7 hb8
              rename World => w8
              have hGr := GrowQ.start (OffT w8.heap.size (n + 1)) w8 (n + 1) m (by omega)
              have hB9 := (Below.refl w8.heap.size w8).alloc (Nat.le_refl _) (.cells (madeCells #[.slice none 0 0] (n + 1)) 49)
              go_wp2_with fail
              obtain ⟨W9, hW9⟩ : ∃ W, w8.alloc (.cells (madeCells #[.slice none 0 0] (n + 1)) 49) = W := ⟨_, rfl⟩
              obtain ⟨ga, hga⟩ : ∃ ga, w8.heap.size = ga := ⟨_, rfl⟩
              rw [hW9] at hGr hB9 ⊢
              rw [hga] at hGr hB9 hq2 hs8 ⊢
              replace hga := As.mk hga
              clear hW9
              go_loopw [13, 66] (fun _ v66 wr => ∃ r : Nat, r ≤ n + 1 ∧ v66 = .int .i64 r ∧ Below ga w8 wr ∧ GrowQ (OffT ga (n + 1)) wr ga (n + 1) m r) (fun _ v66 _ => (n + 1 - intOf v66).toNat)
              case atStart => exact ⟨0, by omega, rfl, hB9, hGr⟩
              case round =>
                clear hGr hB9
                rename World => wq
                obtain ⟨r, hr, rfl, hB, hGr⟩ := hrel
                by_cases hlr : r < n + 1
                · have br : ((r : Int) < (n : Int) + 1) = True := eq_true (by omega)
                  obtain ⟨⟨x, hx⟩, hf⟩ := hGr.res.2 r hlr
                  have hsq := hGr.size
                  have hG1 := As.mk (hGr.step hlr (by omega) (fun j a b => fun c => c ⟨a, b⟩))
                  have hB1 : As (Below ga w8 ((wq.setCell ⟨ga, r, none⟩ (.slice (some ⟨ga + 1 + r, 0, none⟩) m m)).alloc (.cells (madeCells zq (m * 3)) 40))) := ⟨(hB.setCell (by exact Nat.le_refl _) _).alloc (by simp [World.setCell]; omega) _⟩
                  have hlt9 : ga < wq.heap.size := by omega
                  have hcom : (wq.alloc (.cells (madeCells zq (m * 3)) 40)).setCell ⟨ga, r, none⟩ (.slice (some ⟨ga + 1 + r, 0, none⟩) m m) = (wq.setCell ⟨ga, r, none⟩ (.slice (some ⟨ga + 1 + r, 0, none⟩) m m)).alloc (.cells (madeCells zq (m * 3)) 40) := by first | exact World.setCell_alloc _ _ _ _ hlt9 | exact World.setCell_alloc_lt _ _ _ _ hlt9 | simp [go_sem, hlt9]
                  have br0 : (0 ≤ (r : Int)) = True := eq_true (by omega)
                  have hx' : (wq.alloc (.cells (madeCells zq (m * 3)) 40)).cell? ⟨ga, r, none⟩ = some x := cell_below hx ((Below.refl _ _).alloc (Nat.le_refl _) _)
                  have hf' : (wq.alloc (.cells (madeCells zq (m * 3)) 40)).frozen? ⟨ga, r, none⟩ = false := by simp [go_sem, hf, hlt9]
                  clear hGr hB
                  go_wp2_with fail
                  go_roundw
                  case rel => exact ⟨r + 1, by omega, by go_num, hB1.out, hG1.out⟩
                  case measure => simp [intOf]; omega
                · obtain rfl : r = n + 1 := by omega
                  have br : (((n + 1 : Nat) : Int) < (n : Int) + 1) = False := eq_false (by omega)
                  have hT9 := hGr.done
                  have hgts := hGr.size
                  clear hGr
                  go_wp2_with fail
                  have hB10 : Below w8.heap.size w8 wq := by rw [hga.out]; exact hB
                  have hz10 : ga + (n + 1) < wq.heap.size := by omega
                  have hT10 := hT9.congr (U := midQ (qe (es.getD i rt0)) (dpQ (fun i => qe (es.getD i rt0)) i) 0 0) (fun r _ k _ => mid_start _ _ r k)
                  obtain ⟨P, hPe⟩ : ∃ P, qe (es.getD i rt0) = P := ⟨_, rfl⟩
                  obtain ⟨D, hDe⟩ : ∃ D, dpQ (fun i => qe (es.getD i rt0)) i = D := ⟨_, rfl⟩
                  have hnext : As (∀ r k, midQ P D (i + 1) 0 r k = dpQ (fun i => qe (es.getD i rt0)) (i + 1) r k) := ⟨fun r k => by
                    rw [← hDe, ← hPe]
                    exact mid_end _ _ i (fun r k h => dpQ_zero _ i r k h) r k⟩
                  have hzP : As (rz P ≤ 1000) := ⟨by rw [← hPe]; exact hP8.rz (by omega)⟩
                  have hzD : As (∀ r k, rz (D r k) ≤ bz 20) := ⟨fun r k => by
                    rw [← hDe]
                    exact Nat.le_trans (dp_rz (n := i) (fun j hj => hrzp.out j (by omega)) i (Nat.le_refl _) r k) (bz_le (by omega))⟩
                  rw [hPe, hDe] at hT10
                  rw [hPe] at hP8 hQ
                  rw [hDe] at hT8 
                  clear hT9 hB hgts
                  replace hPe := As.mk hPe
                  replace hDe := As.mk hDe
                  have hzq : As (rz (1 - P) ≤ 1010) := ⟨by
                    have h1 := rz_sub 1 P
                    have h2 := rz_one'
                    have h3 := hzP.out
                    omega⟩
                  have hzM : As (∀ w k r j, rz (midQ P D w k r j) ≤ 6000003000) := ⟨fun w k r j => by
                    have h1 := mid_rz hzP.out hzD.out w k r j
                    have h2 := bz_20
                    omega⟩
                  have hzD' : As (∀ r k, rz (D r k) ≤ 3000000000) := ⟨fun r k => Nat.le_trans (hzD.out r k) bz_20⟩
                  have hzPP := hzP
                  clear hzD hzP
                  have hB8' := As.mk hB8
                  clear hB8
                  go_loopw [14, 15, 16] (fun v14 _ _ wr => ∃ wN : Nat, wN ≤ i + 1 ∧ v14 = .int .i64 wN ∧ Below w8.heap.size w8 wr ∧ ga + (n + 1) < wr.heap.size ∧ TabQ (OffT ga (n + 1)) wr ga (n + 1) m (fun r => ga + 1 + r) (midQ P D wN 0)) (fun v14 _ _ _ => (i + 1 - intOf v14).toNat)
                  case atStart => exact ⟨0, by omega, rfl, hB10, hz10, hT10⟩
                  case round =>
                    clear hB10 hz10 hT10
                    rename World => wq
                    obtain ⟨v, hvi, rfl, hB, hz, hT⟩ := hrel
                    by_cases hlv : v < i + 1
                    · have bv : ((v : Int) ≤ (i : Int)) = True := eq_true (by omega)
                      have bv0 : (0 ≤ (v : Int)) = True := eq_true (by omega)
                      have bvn : ((v : Int) < (n : Int) + 1) = True := eq_true (by omega)
                      have htv := cell_below (hT8.top v (by omega)) hB
                      go_wp2_with fail
                      clear htv
                      go_loopw [15, 16, 85] (fun _ _ v85 wr => ∃ k : Nat, k ≤ m ∧ v85 = .int .i64 k ∧ Below w8.heap.size w8 wr ∧ ga + (n + 1) < wr.heap.size ∧ TabQ (OffT ga (n + 1)) wr ga (n + 1) m (fun r => ga + 1 + r) (midQ P D v k)) (fun _ _ v85 _ => (m - intOf v85).toNat)
                      case atStart => exact ⟨0, by omega, rfl, hB, hz, hT⟩
                      case round =>
                        clear hB hz hT
                        rename World => wq
                        obtain ⟨k, hk, rfl, hB, hz, hT⟩ := hrel
                        by_cases hlk : k < m
                        · have bk : ((k : Int) < (m : Int)) = True := eq_true (by omega)
                          have bk0 : (0 ≤ (k : Int)) = True := eq_true (by omega)
                          obtain ⟨xN, xU, xk, xc, xB, xl, xd, c0, c1', c2, hX⟩ := (hT8.row v (by omega)).get k hlk
                          have hXw := As.mk hX
                          replace c0 := cell_below c0 hB
                          replace c1' := cell_below c1' hB
                          replace c2 := cell_below c2 hB
                          replace hX := hX.below hB
                          have hzx := hzD'.out v k
                          obtain ⟨X, hXe⟩ : ∃ X, D v k = X := ⟨_, rfl⟩
                          rw [hXe] at hX hXw hzx
                          replace hXe := As.mk hXe
                          have hbx := (Below.refl wq.heap.size wq).alloc (Nat.le_refl _) (.cells #[.bool xN, .slice xU xk xc, .slice xB xl xd] 40)
                          have hX1 := hX.below hbx
                          obtain ⟨s, hs⟩ : ∃ s, cmpR X 0 = s := ⟨_, rfl⟩
                          have HS := As.mk (rat_Sign _ hX1 (rz_pos _) (by omega))
                          rw [hs] at HS
                          go_wp2_with fail
                          clear c0 c1' c2
                          have z0 : (wq.alloc (.cells #[.bool xN, .slice xU xk xc, .slice xB xl xd] 40)).cell? ⟨wq.heap.size, 0, none⟩ = some (.bool xN) := by simp [go_sem]
                          have z1 : (wq.alloc (.cells #[.bool xN, .slice xU xk xc, .slice xB xl xd] 40)).cell? ⟨wq.heap.size, 1, none⟩ = some (.slice xU xk xc) := by simp [go_sem]
                          have z2 : (wq.alloc (.cells #[.bool xN, .slice xU xk xc, .slice xB xl xd] 40)).cell? ⟨wq.heap.size, 2, none⟩ = some (.slice xB xl xd) := by simp [go_sem]
                          refine HS.out.mono ?_
                          rintro e w11 ⟨rfl, hb11⟩
                          replace z0 := cell_below z0 hb11
                          replace z1 := cell_below z1 hb11
                          replace z2 := cell_below z2 hb11
                          have hX11 := hX1.below hb11
                          have hT11 := (hT.below hbx).below hb11
                          have hB11 := (hB.after hB.size hbx).after (hB.after hB.size hbx).size hb11
                          have hz11 : wq.heap.size < w11.heap.size := by have := hb11.size; simp at this; omega
                          obtain ⟨xb, hxb⟩ : ∃ xb, wq.heap.size = xb := ⟨_, rfl⟩
                          rw [hxb] at z0 z1 z2 hz11 hz ⊢
                          clear hX hX1 hT hB hbx hb11 HS hxb
                          by_cases h0 : X = 0
                          · have hs0 : s = 0 := by rw [← hs, h0]; rfl
                            subst hs0
                            have hT1 := As.mk (hT11.congr (U := midQ P D v (k + 1)) (fun r _ j _ => (mid_skip P D v k (by rw [hXe.out, h0]) r j).symm))
                            clear hT11 hs h0 hX11
                            go_wp2_with fail
                            go_roundw
                            case rel =>
                              (repeat apply Exists.intro)
                              exact ⟨⟨k + 1, by omega, by go_num, hB11, by omega, hT1.out⟩, rfl⟩
                            case measure => simp [intOf]; omega
                          · have hs0 : (s == 0) = false := by
                              rw [← hs]
                              refine beq_eq_false_iff_ne.2 (fun e => h0 ?_)
                              unfold cmpR at e
                              by_cases a : X < 0
                              · rw [if_pos a] at e; omega
                              · rw [if_neg a] at e
                                by_cases b : X = 0
                                · exact b
                                · rw [if_neg b] at e; omega
                            clear hs h0
                            have hX8 := hX11
                            clear hX11
                            have iv1 : IntKind.i64.wrap ((v : Int) + 1) = (v : Int) + 1 := IntWalk.i64_in _ (by omega)
                            have iv2 : ((v : Int) + 1).toNat = v + 1 := by omega
                            have iv3 : (0 ≤ (v : Int) + 1) = True := eq_true (by omega)
                            have iv4 : ((v : Int) + 1 < (n : Int) + 1) = True := eq_true (by omega)
                            have iv5 : ((v : Int) < (n : Int)) = True := eq_true (by omega)
                            go_upto_region 30 with fail
                            go_cut [] (fun wx => Below w8.heap.size w8 wx ∧ xb < wx.heap.size ∧ wx.cell? ⟨xb, 0, none⟩ = some (.bool xN) ∧ wx.cell? ⟨xb, 1, none⟩ = some (.slice xU xk xc) ∧ wx.cell? ⟨xb, 2, none⟩ = some (.slice xB xl xd) ∧ TabQ (OffT ga (n + 1)) wx ga (n + 1) m (fun r => ga + 1 + r) (mid1 P D v k))
                            case first =>
                              have hd := below_drew w11
                              have hT0 := hT11.below hd
                              obtain ⟨b, hbe⟩ : ∃ b, ga + 1 + (v + 1) = b := ⟨_, rfl⟩
                              have t1 := hT0.top (v + 1) (by omega)
                              obtain ⟨uN, uU, uk, uc, uB, ul, ud, u0, u1', u2, hU⟩ := (hT0.row (v + 1) (by omega)).get k hlk
                              have hRs := (hT0.row (v + 1) (by omega)).res
                              rw [show ga + 1 + (v + 1) = b from hbe] at t1 u0 u1' u2 hRs
                              have hzu := hzM.out v k (v + 1) k
                              have hbn : ga ≠ b := by omega
                              have hbx : xb ≠ b := by omega
                              have hbq : qb ≠ b := by omega
                              have hwb : w8.heap.size ≤ b := by rw [hga.out]; omega
                              have y0' := cell_below (cell_below y0 hB11) hd
                              have y1' := cell_below (cell_below y1 hB11) hd
                              have y2' := cell_below (cell_below y2 hB11) hd
                              have hQ' := (hQ.below hB11).below hd
                              have hX' := hX8.below hd
                              have z0' := cell_below z0 hd
                              have z1' := cell_below z1 hd
                              have z2' := cell_below z2 hd
                              have hzq' := hzq.out
                              obtain ⟨M, hMe⟩ : ∃ M, midQ P D v k (v + 1) k = M := ⟨_, rfl⟩
                              rw [hMe] at hU hzu
                              replace hMe := As.mk hMe
                              have hxm := rz_mul X (1 - P)
                              have hxm0 := rz_pos (X * (1 - P))
                              replace hbe := As.mk hbe
                              clear z0 z1 z2 hX8 hQ hP8 hT8 hB8' x0 x1 x2
                              refine wp_region_noPanic ?_
                              refine region_tail (S := (fun w' => w'.cell? ⟨ga, v + 1, none⟩ = some (.slice (some ⟨b, 0, none⟩) m m) ∧ w'.cell? ⟨xb, 0, none⟩ = some (.bool xN) ∧ w'.cell? ⟨xb, 1, none⟩ = some (.slice xU xk xc) ∧ w'.cell? ⟨xb, 2, none⟩ = some (.slice xB xl xd) ∧ w'.cell? ⟨qb, 0, none⟩ = some (.bool qN) ∧ w'.cell? ⟨qb, 1, none⟩ = some (.slice qU qk qc) ∧ w'.cell? ⟨qb, 2, none⟩ = some (.slice qB ql qd) ∧ w'.cell? ⟨b, k * 3, none⟩ = some (.bool uN) ∧ w'.cell? ⟨b, k * 3 + 1, none⟩ = some (.slice uU uk uc) ∧ w'.cell? ⟨b, k * 3 + 2, none⟩ = some (.slice uB ul ud))) 19 (by kernel_rfl) (by kernel_rfl) ⟨t1, z0', z1', z2', y0', y1', y2', u0, u1', u2⟩ (fun hHeld => ?_)
                              simp only [List.take_succ_cons, List.take_zero, List.drop_succ_cons, List.drop_zero]
                              refine' wpAnyH_take (i := 0) (v := ?_) rfl (by kernel_rfl) (by kernel_rfl) (by kernel_rfl) (fun _ _ _ h => h) (Or.inl ⟨by rfl, ?_⟩) (by assumption) ?_
                              rotate_left
                              · (intro w' hSw; (try dsimp only at hSw); go_simp; (try with_reducible rfl))
                              try simp only [Act.put, List.setIfInBounds_toArray]
                              refine' wpAnyH_take (i := 1) (v := ?_) rfl (by kernel_rfl) (by kernel_rfl) (by kernel_rfl) (fun _ _ _ h => h) (Or.inl ⟨by rfl, ?_⟩) (by assumption) ?_
                              rotate_left
                              · (intro w' hSw; (try dsimp only at hSw); go_simp; (try with_reducible rfl))
                              try simp only [Act.put]
                              refine' wpAnyH_take (i := 2) (v := ?_) rfl (by kernel_rfl) (by kernel_rfl) (by kernel_rfl) (fun _ _ _ h => h) (Or.inl ⟨by rfl, ?_⟩) (by assumption) ?_
                              rotate_left
                              · (intro w' hSw; (try dsimp only at hSw); go_simp; (try with_reducible rfl))
                              try simp only [Act.put]
                              refine' wpAnyH_take (i := 3) (v := ?_) rfl (by kernel_rfl) (by kernel_rfl) (by kernel_rfl) (fun _ _ _ h => h) (Or.inl ⟨by rfl, ?_⟩) (by assumption) ?_
                              rotate_left
                              · (intro w' hSw; (try dsimp only at hSw); go_simp; (try with_reducible rfl))
                              try simp only [Act.put]
                              refine' wpAnyH_take (i := 4) (v := ?_) rfl (by kernel_rfl) (by kernel_rfl) (by kernel_rfl) (fun _ _ _ h => h) (Or.inl ⟨by rfl, ?_⟩) (by assumption) ?_
                              rotate_left
                              · (intro w' hSw; (try dsimp only at hSw); go_simp; (try with_reducible rfl))
                              try simp only [Act.put]
                              refine' wpAnyH_take (i := 5) (v := ?_) rfl (by kernel_rfl) (by kernel_rfl) (by kernel_rfl) (fun _ _ _ h => h) (Or.inl ⟨by rfl, ?_⟩) (by assumption) ?_
                              rotate_left
                              · (intro w' hSw; (try dsimp only at hSw); go_simp; (try with_reducible rfl))
                              try simp only [Act.put]
                              refine' wpAnyH_take (i := 6) (v := ?_) rfl (by kernel_rfl) (by kernel_rfl) (by kernel_rfl) (fun _ _ _ h => h) (Or.inl ⟨by rfl, ?_⟩) (by assumption) ?_
                              rotate_left
                              · (intro w' hSw; (try dsimp only at hSw); go_simp; (try with_reducible rfl))
                              try simp only [Act.put]
                              refine' wpAnyH_take (i := 7) (v := ?_) rfl (by kernel_rfl) (by kernel_rfl) (by kernel_rfl) (fun _ _ _ h => h) (Or.inl ⟨by rfl, ?_⟩) (by assumption) ?_
                              rotate_left
                              · (intro w' hSw; (try dsimp only at hSw); go_simp; (try with_reducible rfl))
                              try simp only [Act.put]
                              refine' wpAnyH_take (i := 8) (v := ?_) rfl (by kernel_rfl) (by kernel_rfl) (by kernel_rfl) (fun _ _ _ h => h) (Or.inl ⟨by rfl, ?_⟩) (by assumption) ?_
                              rotate_left
                              · (intro w' hSw; (try dsimp only at hSw); go_simp; (try with_reducible rfl))
                              try simp only [Act.put]
                              refine' wpAnyH_take (i := 9) (v := ?_) rfl (by kernel_rfl) (by kernel_rfl) (by kernel_rfl) (fun _ _ _ h => h) (Or.inl ⟨by rfl, ?_⟩) (by assumption) ?_
                              rotate_left
                              · (intro w' hSw; (try dsimp only at hSw); go_simp; (try with_reducible rfl))
                              try simp only [Act.put]
                              refine' wpAnyH_take (i := 10) (v := ?_) rfl (by kernel_rfl) (by kernel_rfl) (by kernel_rfl) (fun _ _ _ h => h) (Or.inl ⟨by rfl, ?_⟩) (by assumption) ?_
                              rotate_left
                              · (intro w' hSw; (try dsimp only at hSw); go_simp; (try with_reducible rfl))
                              try simp only [Act.put]
                              refine' wpAnyH_take (i := 11) (v := ?_) rfl (by kernel_rfl) (by kernel_rfl) (by kernel_rfl) (fun _ _ _ h => h) (Or.inl ⟨by rfl, ?_⟩) (by assumption) ?_
                              rotate_left
                              · (intro w' hSw; (try dsimp only at hSw); go_simp; (try with_reducible rfl))
                              try simp only [Act.put]
                              refine' wpAnyH_take (i := 12) (v := ?_) rfl (by kernel_rfl) (by kernel_rfl) (by kernel_rfl) (fun _ _ _ h => h) (Or.inl ⟨by rfl, ?_⟩) (by assumption) ?_
                              rotate_left
                              · (intro w' hSw; (try dsimp only at hSw); go_simp; (try with_reducible rfl))
                              try simp only [Act.put]
                              refine' wpAnyH_take (i := 13) (v := ?_) rfl (by kernel_rfl) (by kernel_rfl) (by kernel_rfl) (fun _ _ _ h => h) (Or.inl ⟨by rfl, ?_⟩) (by assumption) ?_
                              rotate_left
                              · (intro w' hSw; (try dsimp only at hSw); go_simp; (try with_reducible rfl))
                              try simp only [Act.put]
                              refine' wpAnyH_take (i := 14) (v := ?_) rfl (by kernel_rfl) (by kernel_rfl) (by kernel_rfl) (fun _ _ _ h => h) (Or.inl ⟨by rfl, ?_⟩) (by assumption) ?_
                              rotate_left
                              · (intro w' hSw; (try dsimp only at hSw); go_simp; (try with_reducible rfl))
                              try simp only [Act.put]
                              refine' wpAnyH_take (i := 15) (v := ?_) rfl (by kernel_rfl) (by kernel_rfl) (by kernel_rfl) (fun _ _ _ h => h) (Or.inl ⟨by rfl, ?_⟩) (by assumption) ?_
                              rotate_left
                              · (intro w' hSw; (try dsimp only at hSw); go_simp; (try with_reducible rfl))
                              try simp only [Act.put]
                              refine wpAnyH_ready (rs := [16]) (by kernel_rfl) (by simp) ?_
                              refine AllReadyH.cons rfl (fun K hK => ?_) AllReadyH.nil
                              rw [if_pos (by rfl)]
                              simp only [Go.wp_at_succ, Go.wp_at_zero]
                              go_simp
                              refine (rat_Mul _ hX' hQ' (rz_pos _) (rz_pos _) (by omega)).mono ?_; rintro e w41 ⟨r41, rfl, hM, hb⟩
                              dsimp only
                              refine hK.out _ _ ⟨cell_below t1 hb, cell_below z0' hb, cell_below z1' hb, cell_below z2' hb, cell_below y0' hb, cell_below y1' hb, cell_below y2' hb, cell_below u0 hb, cell_below u1' hb, cell_below u2 hb⟩ (fun hHeld => ?_)
                              clear hK K
                              try simp only [Act.put, List.setIfInBounds_toArray, List.set_cons_zero, List.set_cons_succ]
                              refine wpAnyH_ready (rs := [17]) (by kernel_rfl) (by simp) ?_
                              refine AllReadyH.cons rfl (fun K hK => ?_) AllReadyH.nil
                              rw [if_pos (by rfl)]
                              simp only [Go.wp_at_succ, Go.wp_at_zero]
                              go_simp
                              refine (rat_Add _ (hU.below hb) hM.i (rz_pos _) (rz_pos _) (by omega)).mono ?_; rintro e w42 ⟨r42, rfl, hL, hb6⟩; obtain ⟨lN, lU, lk, lc, lB, ll, ld, rfl⟩ := hL.letters
                              dsimp only
                              refine hK.out _ _ ⟨cell_below (cell_below t1 hb) hb6, cell_below (cell_below z0' hb) hb6, cell_below (cell_below z1' hb) hb6, cell_below (cell_below z2' hb) hb6, cell_below (cell_below y0' hb) hb6, cell_below (cell_below y1' hb) hb6, cell_below (cell_below y2' hb) hb6, cell_below (cell_below u0 hb) hb6, cell_below (cell_below u1' hb) hb6, cell_below (cell_below u2 hb) hb6⟩ (fun hHeld => ?_)
                              clear hK K
                              try simp only [Act.put, List.setIfInBounds_toArray, List.set_cons_zero, List.set_cons_succ]
                              refine' wpAnyH_take (i := 18) (v := ?_) rfl (by kernel_rfl) (by kernel_rfl) (by kernel_rfl) (fun _ _ _ h => h) (Or.inl ⟨by rfl, ?_⟩) (by assumption) ?_
                              rotate_left
                              · (intro w' hSw; (try dsimp only at hSw); go_simp; (try with_reducible rfl))
                              try simp only [Act.put, List.setIfInBounds_toArray]
                              refine wpAnyH_done (by kernel_rfl) ?_ _
                              change wpList _ _ _ _ _ _
                              have hRs2 := (hRs.below hb).below hb6
                              obtain ⟨⟨_, e0⟩, f0⟩ := hRs2.2 (k * 3) (by omega)
                              obtain ⟨⟨_, e1⟩, f1⟩ := hRs2.2 (k * 3 + 1) (by omega)
                              obtain ⟨⟨_, e2⟩, f2⟩ := hRs2.2 (k * 3 + 2) (by omega)
                              go_wp2_with fail
                              refine NoPanic.normal ?_
                              go_wp2_with fail
                              go_meet
                              case rel =>
                                have hT42 := (hT0.below hb).below hb6
                                have hB42 := (((hB11.after hB11.size hd).after (hB11.after hB11.size hd).size hb).after ((hB11.after hB11.size hd).after (hB11.after hB11.size hd).size hb).size hb6)
                                have hS3 := hT42.set (g := v + 1) (x := k) (by omega) hlk (hL.i.mono (T := OffT ga (n + 1)) (fun q hq _ => by
                                  have h1 : w41.heap.size ≤ q := hq
                                  have h2 := hb.size
                                  have h3 := hd.size
                                  omega))
                                have hxb : xb < w42.heap.size := Nat.lt_of_lt_of_le hz11 (Nat.le_trans hd.size (Nat.le_trans hb.size hb6.size))
                                rw [show ga + 1 + (v + 1) = b from hbe.out] at hS3
                                refine ⟨((hB42.setCell hwb _).setCell hwb _).setCell hwb _, by simpa [World.setCell] using hxb, set_cell (set_cell (set_cell (cell_below (cell_below z0' hb) hb6) hbx) hbx) hbx, set_cell (set_cell (set_cell (cell_below (cell_below z1' hb) hb6) hbx) hbx) hbx, set_cell (set_cell (set_cell (cell_below (cell_below z2' hb) hb6) hbx) hbx) hbx, hS3.congr (fun r _ j _ => ?_)⟩
                                unfold mid1
                                rw [hMe.out, hXe.out]
                            case rest =>
                              obtain ⟨hB12, hz12, z0, z1, z2, hT12⟩ := hcut
                              rename World => wc
                              by_cases hkv : k + v < m
                              · have ikv : ((k : Int) + (v : Int) < (m : Int)) = True := eq_true (by omega)
                                obtain ⟨kv, hkve⟩ : ∃ kv, k + v = kv := ⟨_, rfl⟩
                                have hkvm : kv < m := by omega
                                have hd := below_drew wc
                                have hT0 := hT12.below hd
                                obtain ⟨b, hbe⟩ : ∃ b, ga + 1 + v = b := ⟨_, rfl⟩
                                have t1 := hT0.top v (by omega)
                                obtain ⟨uN, uU, uk, uc, uB, ul, ud, u0, u1', u2, hU⟩ := (hT0.row v (by omega)).get kv hkvm
                                have hRs := (hT0.row v (by omega)).res
                                rw [show ga + 1 + v = b from hbe] at t1 u0 u1' u2 hRs
                                obtain ⟨M, hMe⟩ : ∃ M, mid1 P D v k v kv = M := ⟨_, rfl⟩
                                have hzu : rz M ≤ 6000003000 := by
                                  rw [← hMe]
                                  unfold mid1
                                  rw [if_neg (by omega)]
                                  exact hzM.out v k v kv
                                rw [hMe] at hU
                                replace hMe := As.mk hMe
                                have hbn : ga ≠ b := by omega
                                have hbx : xb ≠ b := by omega
                                have hwb : w8.heap.size ≤ b := by rw [hga.out]; omega
                                have y0' := cell_below (cell_below x0 hB12) hd
                                have y1' := cell_below (cell_below x1 hB12) hd
                                have y2' := cell_below (cell_below x2 hB12) hd
                                have hP' := (hP8.below hB12).below hd
                                have hX' := (hXw.out.below hB12).below hd
                                have z0' := cell_below z0 hd
                                have z1' := cell_below z1 hd
                                have z2' := cell_below z2 hd
                                have hxm := rz_mul X P
                                have hzP := hzPP.out
                                have hxm0 := rz_pos (X * P)
                                have ikw : IntKind.i64.wrap ((k : Int) + (v : Int)) = (kv : Int) := by rw [IntWalk.i64_in _ (by omega)]; omega
                                have ikw0 : (0 ≤ (kv : Int)) = True := eq_true (by omega)
                                have ikw1 : ((kv : Int) < (m : Int)) = True := eq_true (by omega)
                                replace hbe := As.mk hbe
                                replace hkve := As.mk hkve
                                clear z0 z1 z2
                                go_upto_region 32 with fail
                                refine wp_region_noPanic ?_
                                refine region_tail (S := (fun w' => w'.cell? ⟨ga, v, none⟩ = some (.slice (some ⟨b, 0, none⟩) m m) ∧ w'.cell? ⟨xb, 0, none⟩ = some (.bool xN) ∧ w'.cell? ⟨xb, 1, none⟩ = some (.slice xU xk xc) ∧ w'.cell? ⟨xb, 2, none⟩ = some (.slice xB xl xd) ∧ w'.cell? ⟨pb, 0, none⟩ = some (.bool pN) ∧ w'.cell? ⟨pb, 1, none⟩ = some (.slice pU pk pc) ∧ w'.cell? ⟨pb, 2, none⟩ = some (.slice pB pl pd) ∧ w'.cell? ⟨b, kv * 3, none⟩ = some (.bool uN) ∧ w'.cell? ⟨b, kv * 3 + 1, none⟩ = some (.slice uU uk uc) ∧ w'.cell? ⟨b, kv * 3 + 2, none⟩ = some (.slice uB ul ud))) 21 (by kernel_rfl) (by kernel_rfl) ⟨t1, z0', z1', z2', y0', y1', y2', u0, u1', u2⟩ (fun hHeld => ?_)
                                simp only [List.take_succ_cons, List.take_zero, List.drop_succ_cons, List.drop_zero]
                                refine' wpAnyH_take (i := 0) (v := ?_) rfl (by kernel_rfl) (by kernel_rfl) (by kernel_rfl) (fun _ _ _ h => h) (Or.inl ⟨by rfl, ?_⟩) (by assumption) ?_
                                rotate_left
                                · (intro w' hSw; (try dsimp only at hSw); go_simp; (try with_reducible rfl))
                                try simp only [Act.put, List.setIfInBounds_toArray]
                                refine' wpAnyH_take (i := 1) (v := ?_) rfl (by kernel_rfl) (by kernel_rfl) (by kernel_rfl) (fun _ _ _ h => h) (Or.inl ⟨by rfl, ?_⟩) (by assumption) ?_
                                rotate_left
                                · (intro w' hSw; (try dsimp only at hSw); go_simp; (try with_reducible rfl))
                                try simp only [Act.put]
                                refine' wpAnyH_take (i := 2) (v := ?_) rfl (by kernel_rfl) (by kernel_rfl) (by kernel_rfl) (fun _ _ _ h => h) (Or.inl ⟨by rfl, ?_⟩) (by assumption) ?_
                                rotate_left
                                · (intro w' hSw; (try dsimp only at hSw); go_simp; (try with_reducible rfl))
                                try simp only [Act.put]
                                refine' wpAnyH_take (i := 3) (v := ?_) rfl (by kernel_rfl) (by kernel_rfl) (by kernel_rfl) (fun _ _ _ h => h) (Or.inl ⟨by rfl, ?_⟩) (by assumption) ?_
                                rotate_left
                                · (intro w' hSw; (try dsimp only at hSw); go_simp; (try with_reducible rfl))
                                try simp only [Act.put]
                                refine' wpAnyH_take (i := 4) (v := ?_) rfl (by kernel_rfl) (by kernel_rfl) (by kernel_rfl) (fun _ _ _ h => h) (Or.inl ⟨by rfl, ?_⟩) (by assumption) ?_
                                rotate_left
                                · (intro w' hSw; (try dsimp only at hSw); go_simp; (try with_reducible rfl))
                                try simp only [Act.put]
                                refine' wpAnyH_take (i := 5) (v := ?_) rfl (by kernel_rfl) (by kernel_rfl) (by kernel_rfl) (fun _ _ _ h => h) (Or.inl ⟨by rfl, ?_⟩) (by assumption) ?_
                                rotate_left
                                · (intro w' hSw; (try dsimp only at hSw); go_simp; (try with_reducible rfl))
                                try simp only [Act.put]
                                refine' wpAnyH_take (i := 6) (v := ?_) rfl (by kernel_rfl) (by kernel_rfl) (by kernel_rfl) (fun _ _ _ h => h) (Or.inl ⟨by rfl, ?_⟩) (by assumption) ?_
                                rotate_left
                                · (intro w' hSw; (try dsimp only at hSw); go_simp; (try with_reducible rfl))
                                try simp only [Act.put]
                                refine' wpAnyH_take (i := 7) (v := ?_) rfl (by kernel_rfl) (by kernel_rfl) (by kernel_rfl) (fun _ _ _ h => h) (Or.inl ⟨by rfl, ?_⟩) (by assumption) ?_
                                rotate_left
                                · (intro w' hSw; (try dsimp only at hSw); go_simp; (try with_reducible rfl))
                                try simp only [Act.put]
                                refine' wpAnyH_take (i := 8) (v := ?_) rfl (by kernel_rfl) (by kernel_rfl) (by kernel_rfl) (fun _ _ _ h => h) (Or.inl ⟨by rfl, ?_⟩) (by assumption) ?_
                                rotate_left
                                · (intro w' hSw; (try dsimp only at hSw); go_simp; (try with_reducible rfl))
                                try simp only [Act.put]
                                refine' wpAnyH_take (i := 9) (v := ?_) rfl (by kernel_rfl) (by kernel_rfl) (by kernel_rfl) (fun _ _ _ h => h) (Or.inl ⟨by rfl, ?_⟩) (by assumption) ?_
                                rotate_left
                                · (intro w' hSw; (try dsimp only at hSw); go_simp; (try with_reducible rfl))
                                try simp only [Act.put]
                                refine' wpAnyH_take (i := 10) (v := ?_) rfl (by kernel_rfl) (by kernel_rfl) (by kernel_rfl) (fun _ _ _ h => h) (Or.inl ⟨by rfl, ?_⟩) (by assumption) ?_
                                rotate_left
                                · (intro w' hSw; (try dsimp only at hSw); go_simp; (try with_reducible rfl))
                                try simp only [Act.put]
                                refine' wpAnyH_take (i := 11) (v := ?_) rfl (by kernel_rfl) (by kernel_rfl) (by kernel_rfl) (fun _ _ _ h => h) (Or.inl ⟨by rfl, ?_⟩) (by assumption) ?_
                                rotate_left
                                · (intro w' hSw; (try dsimp only at hSw); go_simp; (try with_reducible rfl))
                                try simp only [Act.put]
                                refine' wpAnyH_take (i := 12) (v := ?_) rfl (by kernel_rfl) (by kernel_rfl) (by kernel_rfl) (fun _ _ _ h => h) (Or.inl ⟨by rfl, ?_⟩) (by assumption) ?_
                                rotate_left
                                · (intro w' hSw; (try dsimp only at hSw); go_simp; (try with_reducible rfl))
                                try simp only [Act.put]
                                refine' wpAnyH_take (i := 13) (v := ?_) rfl (by kernel_rfl) (by kernel_rfl) (by kernel_rfl) (fun _ _ _ h => h) (Or.inl ⟨by rfl, ?_⟩) (by assumption) ?_
                                rotate_left
                                · (intro w' hSw; (try dsimp only at hSw); go_simp; (try with_reducible rfl))
                                try simp only [Act.put]
                                refine' wpAnyH_take (i := 14) (v := ?_) rfl (by kernel_rfl) (by kernel_rfl) (by kernel_rfl) (fun _ _ _ h => h) (Or.inl ⟨by rfl, ?_⟩) (by assumption) ?_
                                rotate_left
                                · (intro w' hSw; (try dsimp only at hSw); go_simp; (try with_reducible rfl))
                                try simp only [Act.put]
                                refine' wpAnyH_take (i := 15) (v := ?_) rfl (by kernel_rfl) (by kernel_rfl) (by kernel_rfl) (fun _ _ _ h => h) (Or.inl ⟨by rfl, ?_⟩) (by assumption) ?_
                                rotate_left
                                · (intro w' hSw; (try dsimp only at hSw); go_simp; (try with_reducible rfl))
                                try simp only [Act.put]
                                refine' wpAnyH_take (i := 16) (v := ?_) rfl (by kernel_rfl) (by kernel_rfl) (by kernel_rfl) (fun _ _ _ h => h) (Or.inl ⟨by rfl, ?_⟩) (by assumption) ?_
                                rotate_left
                                · (intro w' hSw; (try dsimp only at hSw); go_simp; (try with_reducible rfl))
                                try simp only [Act.put]
                                refine' wpAnyH_take (i := 17) (v := ?_) rfl (by kernel_rfl) (by kernel_rfl) (by kernel_rfl) (fun _ _ _ h => h) (Or.inl ⟨by rfl, ?_⟩) (by assumption) ?_
                                rotate_left
                                · (intro w' hSw; (try dsimp only at hSw); go_simp; (try with_reducible rfl))
                                try simp only [Act.put]
                                refine wpAnyH_ready (rs := [18]) (by kernel_rfl) (by simp) ?_
                                refine AllReadyH.cons rfl (fun K hK => ?_) AllReadyH.nil
                                rw [if_pos (by rfl)]
                                simp only [Go.wp_at_succ, Go.wp_at_zero]
                                go_simp
                                refine (rat_Mul _ hX' hP' (rz_pos _) (by omega) (by omega)).mono ?_; rintro e w41 ⟨r41, rfl, hM, hb⟩
                                dsimp only
                                refine hK.out _ _ ⟨cell_below t1 hb, cell_below z0' hb, cell_below z1' hb, cell_below z2' hb, cell_below y0' hb, cell_below y1' hb, cell_below y2' hb, cell_below u0 hb, cell_below u1' hb, cell_below u2 hb⟩ (fun hHeld => ?_)
                                clear hK K
                                try simp only [Act.put, List.setIfInBounds_toArray, List.set_cons_zero, List.set_cons_succ]
                                refine wpAnyH_ready (rs := [19]) (by kernel_rfl) (by simp) ?_
                                refine AllReadyH.cons rfl (fun K hK => ?_) AllReadyH.nil
                                rw [if_pos (by rfl)]
                                simp only [Go.wp_at_succ, Go.wp_at_zero]
                                go_simp
                                refine (rat_Add _ (hU.below hb) hM.i (rz_pos _) (rz_pos _) (by omega)).mono ?_; rintro e w42 ⟨r42, rfl, hL, hb6⟩; obtain ⟨lN, lU, lk, lc, lB, ll, ld, rfl⟩ := hL.letters
                                dsimp only
                                refine hK.out _ _ ⟨cell_below (cell_below t1 hb) hb6, cell_below (cell_below z0' hb) hb6, cell_below (cell_below z1' hb) hb6, cell_below (cell_below z2' hb) hb6, cell_below (cell_below y0' hb) hb6, cell_below (cell_below y1' hb) hb6, cell_below (cell_below y2' hb) hb6, cell_below (cell_below u0 hb) hb6, cell_below (cell_below u1' hb) hb6, cell_below (cell_below u2 hb) hb6⟩ (fun hHeld => ?_)
                                clear hK K
                                try simp only [Act.put, List.setIfInBounds_toArray, List.set_cons_zero, List.set_cons_succ]
                                refine' wpAnyH_take (i := 20) (v := ?_) rfl (by kernel_rfl) (by kernel_rfl) (by kernel_rfl) (fun _ _ _ h => h) (Or.inl ⟨by rfl, ?_⟩) (by assumption) ?_
                                rotate_left
                                · (intro w' hSw; (try dsimp only at hSw); go_simp; (try with_reducible rfl))
                                try simp only [Act.put, List.setIfInBounds_toArray]
                                refine wpAnyH_done (by kernel_rfl) ?_ _
                                change wpList _ _ _ _ _ _
                                have hRs2 := (hRs.below hb).below hb6
                                obtain ⟨⟨_, e0⟩, f0⟩ := hRs2.2 (kv * 3) (by omega)
                                obtain ⟨⟨_, e1⟩, f1⟩ := hRs2.2 (kv * 3 + 1) (by omega)
                                obtain ⟨⟨_, e2⟩, f2⟩ := hRs2.2 (kv * 3 + 2) (by omega)
                                have hT42 := (hT0.below hb).below hb6
                                have hB42 := (((hB12.after hB12.size hd).after (hB12.after hB12.size hd).size hb).after ((hB12.after hB12.size hd).after (hB12.after hB12.size hd).size hb).size hb6)
                                have hS3 := hT42.set (g := v) (x := kv) (by omega) hkvm (hL.i.mono (T := OffT ga (n + 1)) (fun q hq _ => by
                                  have h1 : w41.heap.size ≤ q := hq
                                  have h2 := hb.size
                                  have h3 := hd.size
                                  omega))
                                have hxb : xb < w42.heap.size := Nat.lt_of_lt_of_le hz12 (Nat.le_trans hd.size (Nat.le_trans hb.size hb6.size))
                                rw [show ga + 1 + v = b from hbe.out] at hS3
                                have hS4 := As.mk (hS3.congr (U := midQ P D v (k + 1)) (fun r _ j _ => by
                                  rw [← mid_both, ← hMe.out, hkve.out, hXe.out]))
                                have hB43 := As.mk (((hB42.setCell hwb (p := ⟨b, kv * 3, none⟩) (.bool lN)).setCell hwb (p := ⟨b, kv * 3 + 1, none⟩) (.slice lU lk lc)).setCell hwb (p := ⟨b, kv * 3 + 2, none⟩) (.slice lB ll ld))
                                clear hT42 hB42 hS3 hT0 hb hb6 hd hRs hRs2 hL hM hU hP' hX' hHeld t1 z0' z1' z2' y0' y1' y2' u0 u1' u2 hT12
                                go_wp2_with fail
                                refine NoPanic.normal ?_
                                go_wp2_with fail
                                go_roundw
                                case rel =>
                                  (repeat apply Exists.intro)
                                  exact ⟨⟨k + 1, by omega, by go_num, hB43.out, by simp [World.setCell]; omega, hS4.out⟩, rfl⟩
                                case measure => simp [intOf]; omega
                              · have ikv : ((k : Int) + (v : Int) < (m : Int)) = False := eq_false (by omega)
                                have hS4 := As.mk (hT12.congr (U := midQ P D v (k + 1)) (fun r _ j hj => (mid1_other P D v k m r j hj (by omega)).symm))
                                clear hT12 z0 z1 z2
                                go_wp2_with fail
                                go_roundw
                                case rel =>
                                  (repeat apply Exists.intro)
                                  exact ⟨⟨k + 1, by omega, by go_num, hB12, by omega, hS4.out⟩, rfl⟩
                                case measure => simp [intOf]; omega
                        · obtain rfl : m = k := by omega
                          have bk : ((m : Int) < (m : Int)) = False := eq_false (by omega)
                          have hT1 := As.mk (hT.congr (U := midQ P D (v + 1) 0) (fun r _ j hj => (mid_row P D v m r j hj).symm))
                          clear hT
                          go_wp2_with fail
                          go_roundw
                          case rel => exact ⟨v + 1, by omega, by go_num, hB, hz, hT1.out⟩
                          case measure => simp [intOf]; omega
                    · obtain rfl : v = i + 1 := by omega
                      have bv : (((i + 1 : Nat) : Int) ≤ (i : Int)) = False := eq_false (by omega)
                      have bv2 : ((i : Int) + 1 ≤ (i : Int)) = False := eq_false (by omega)
                      have hT1 := As.mk (hT.congr (U := dpQ (fun i => qe (es.getD i rt0)) (i + 1)) (fun r _ j _ => (hnext.out r j).symm))
                      have hBn := As.mk (hB8'.out.after hB8'.out.size hB)
                      clear hT hT8 hP8 hQ
                      go_wp2_with fail
                      go_roundw
                      case rel => exact ⟨i + 1, ga, by omega, by go_num, rfl, by omega, hz, hBn.out, hT1.out⟩
                      case measure => simp [intOf]; omega
          · obtain rfl : n = i := by omega
            have bi : ((n : Int) < (n : Int)) = False := eq_false (by omega)
            have hzD : As (∀ r k, rz (dpQ (fun i => qe (es.getD i rt0)) n r k) ≤ 3000000000) := ⟨fun r k =>
              Nat.le_trans (dp_rz (n := n) hrzp.out n (Nat.le_refl _) r k) (Nat.le_trans (bz_le h20) bz_20)⟩
            have hN : As (∀ k, nulQ (fun i => qe (es.getD i rt0)) n k = sumW (fun i => qe (es.getD i rt0)) n k (n + 1)) := ⟨fun k => rfl⟩
            have hss : As (∀ k v, sumW (fun i => qe (es.getD i rt0)) n k (v + 1) = sumW (fun i => qe (es.getD i rt0)) n k v + dpQ (fun i => qe (es.getD i rt0)) n v k) := ⟨fun k v => rfl⟩
            have hs0 : As (∀ k, sumW (fun i => qe (es.getD i rt0)) n k 0 = 0) := ⟨fun k => rfl⟩
            have hsz : As (∀ k v, v ≤ n + 1 → rz (sumW (fun i => qe (es.getD i rt0)) n k v) ≤ 100000000000) := ⟨fun k v hv => by
              have h1 := sum_rz hzD.out k v
              have h2 : v * (3000000000 + 1) ≤ 21 * (3000000000 + 1) := Nat.mul_le_mul_right _ (by omega)
              omega⟩
            generalize dpQ (fun i => qe (es.getD i rt0)) n = D at *
            generalize sumW (fun i => qe (es.getD i rt0)) n = V at *
            obtain ⟨NQ, hNQ⟩ : ∃ NQ, nulQ (fun i => qe (es.getD i rt0)) n = NQ := ⟨_, rfl⟩
            rw [hNQ] at hN
            replace hNQ := As.mk hNQ
            have hmade := RowQ.made (fun k => w.heap.size ≤ k ∧ k ≠ wr.heap.size) wr m (by omega) (fun h => h.2 rfl)
            have hb10 := (Below.refl wr.heap.size wr).alloc (Nat.le_refl _) (.cells (madeCells zq (m * 3)) 40)
            have hBr := As.mk hB
            have hwr := hB.size
            clear hB hmkO
            go_wp2_with fail
            obtain ⟨W10, hW10⟩ : ∃ W, wr.alloc (.cells (madeCells zq (m * 3)) 40) = W := ⟨_, rfl⟩
            obtain ⟨go, hgo⟩ : ∃ go, wr.heap.size = go := ⟨_, rfl⟩
            rw [hW10] at hmade hb10 ⊢
            rw [hgo] at hmade hb10 hgz hwr ⊢
            replace hgo := As.mk hgo
            clear hW10 hmkR
            have hmade1 := hmade.congr (U := fun j => if j < 0 then NQ j else 0) (fun j _ => if_neg (by omega))
            clear hmade
            have hNN0 : RowN (fun k => w.heap.size ≤ k ∧ k ≠ go) W10 go (fun j => j < 0) NQ := fun j hj => absurd hj (by omega)
            go_loopw [18, 19, 145] (fun _ _ v145 wz => ∃ k : Nat, k ≤ m ∧ v145 = .int .i64 k ∧ Below go wr wz ∧ RowQ (fun k => w.heap.size ≤ k ∧ k ≠ go) wz go m (fun j => if j < k then NQ j else 0) ∧ RowN (fun k => w.heap.size ≤ k ∧ k ≠ go) wz go (fun j => j < k) NQ) (fun _ _ v145 _ => (m - intOf v145).toNat)
            case atStart => exact ⟨0, by omega, rfl, hb10, hmade1, hNN0⟩
            case round =>
              clear hb10 hmade1 hNN0
              rename World => wz
              obtain ⟨k, hk, rfl, hB, hR, hNN⟩ := hrel
              by_cases hlk : k < m
              · have bk : ((k : Int) < (m : Int)) = True := eq_true (by omega)
                have bk0 : (0 ≤ (k : Int)) = True := eq_true (by omega)
                have hKW := As.mk (fit_whole wz 0 (by decide) (by decide))
                have hgz2 := hR.res.1
                go_wp2_with fail
                refine hKW.out.mono ?_
                rintro e w3 ⟨r3, rfl, hL, hb⟩
                rw [show ((0 : Int) : Rat) / ((1 : Int) : Rat) = 0 by grind] at hL
                obtain ⟨lN, lU, lk, lc, lB, ll, ld, rfl⟩ := hL.letters
                have hR3 := hR.below hb
                obtain ⟨⟨_, e0⟩, f0⟩ := hR3.res.2 (k * 3) (by omega)
                obtain ⟨⟨_, e1⟩, f1⟩ := hR3.res.2 (k * 3 + 1) (by omega)
                obtain ⟨⟨_, e2⟩, f2⟩ := hR3.res.2 (k * 3 + 2) (by omega)
                have hgb2 : go ≤ wz.heap.size := Nat.le_of_lt hgz2
                have hR4 := (hR3.set hlk (hL.i.mono (T := fun k => w.heap.size ≤ k ∧ k ≠ go) (fun q hq _ => by have h1 : wz.heap.size ≤ q := hq; omega))).congr (U := fun j => if j = k then V k 0 else if j < k then NQ j else 0) (fun j _ => by
                  by_cases a : j = k
                  · rw [if_pos a, if_pos a, hs0.out]
                  · rw [if_neg a, if_neg a])
                have hN4 : RowN (fun k => w.heap.size ≤ k ∧ k ≠ go) (((w3.setCell ⟨go, k * 3, none⟩ (.bool lN)).setCell ⟨go, k * 3 + 1, none⟩ (.slice lU lk lc)).setCell ⟨go, k * 3 + 2, none⟩ (.slice lB ll ld)) go (fun j => j ≤ k) (fun j => if j = k then V k 0 else NQ j) :=
                  ((hNN.below hb).set k hR3.out (hR3.res.le (by omega)) (hL.mono (T := fun k => w.heap.size ≤ k ∧ k ≠ go) (fun q hq _ => by have h1 : wz.heap.size ≤ q := hq; omega))).congr (fun j hj => ⟨by omega, by
                    by_cases a : j = k
                    · rw [if_pos a, if_pos a, hs0.out]
                    · rw [if_neg a, if_neg a]⟩)
                have hB4 : Below go wr (((w3.setCell ⟨go, k * 3, none⟩ (.bool lN)).setCell ⟨go, k * 3 + 1, none⟩ (.slice lU lk lc)).setCell ⟨go, k * 3 + 2, none⟩ (.slice lB ll ld)) := ((((hB.after hgb2 hb).setCell (Nat.le_refl _) _).setCell (Nat.le_refl _) _).setCell (Nat.le_refl _) _)
                clear hB hR hR3 hL hb hKW hNN
                go_wp2_with fail
                obtain ⟨W4, hW4⟩ : ∃ W, ((w3.setCell ⟨go, k * 3, none⟩ (.bool lN)).setCell ⟨go, k * 3 + 1, none⟩ (.slice lU lk lc)).setCell ⟨go, k * 3 + 2, none⟩ (.slice lB ll ld) = W := ⟨_, rfl⟩
                rw [hW4] at hR4 hB4 hN4 ⊢
                clear hW4 e0 e1 e2 f0 f1 f2
                go_loopw [19, 154] (fun _ v154 wz => ∃ v : Nat, v ≤ n + 1 ∧ v154 = .int .i64 v ∧ Below go wr wz ∧ RowQ (fun k => w.heap.size ≤ k ∧ k ≠ go) wz go m (fun j => if j = k then V k v else if j < k then NQ j else 0) ∧ RowN (fun k => w.heap.size ≤ k ∧ k ≠ go) wz go (fun j => j ≤ k) (fun j => if j = k then V k v else NQ j)) (fun _ v154 _ => (n + 1 - intOf v154).toNat)
                case atStart => exact ⟨0, by omega, rfl, hB4, hR4, hN4⟩
                case round =>
                  clear hB4 hR4 hN4 hgz2 hgb2
                  rename World => wy
                  obtain ⟨v, hv1, rfl, hB, hR, hNN⟩ := hrel
                  by_cases hlv : v < n + 1
                  · have bv : ((v : Int) < (n : Int) + 1) = True := eq_true (by omega)
                    have bv0 : (0 ≤ (v : Int)) = True := eq_true (by omega)
                    have hBr2 : Below wr.heap.size wr wy := by rw [hgo.out]; exact hB
                    have hd := below_drew wy
                    have hT0 := (hT.below hBr2).below hd
                    have hR0 := hR.below hd
                    have t1 := hT0.top v (by omega)
                    obtain ⟨xN, xU, xk, xc, xB, xl, xd, z0, z1, z2, hX⟩ := (hT0.row v (by omega)).get k hlk
                    obtain ⟨uN, uU, uk, uc, uB, ul, ud, u0, u1', u2, hU⟩ := hR0.get k hlk
                    obtain ⟨b, hbe⟩ : ∃ b, gb + 1 + v = b := ⟨_, rfl⟩
                    rw [show gb + 1 + v = b from hbe] at t1 z0 z1 z2
                    replace hbe := As.mk hbe
                    simp only [if_pos] at hU
                    have hzx := hzD.out v k
                    have hzv := hsz.out k v (by omega)
                    have hst := hss.out k v
                    generalize D v k = X at *
                    generalize V k v = Y at *
                    replace hst := As.mk hst
                    have hgz3 := hR0.res.1
                    replace hNN := hNN.below hd
                    go_wp2_with fail
                    refine wp_region_noPanic ?_
                    refine region_tail (S := (fun w' => w'.cell? ⟨go, k * 3, none⟩ = some (.bool uN) ∧ w'.cell? ⟨go, k * 3 + 1, none⟩ = some (.slice uU uk uc) ∧ w'.cell? ⟨go, k * 3 + 2, none⟩ = some (.slice uB ul ud) ∧ w'.cell? ⟨gb, v, none⟩ = some (.slice (some ⟨b, 0, none⟩) m m) ∧ w'.cell? ⟨b, k * 3, none⟩ = some (.bool xN) ∧ w'.cell? ⟨b, k * 3 + 1, none⟩ = some (.slice xU xk xc) ∧ w'.cell? ⟨b, k * 3 + 2, none⟩ = some (.slice xB xl xd))) 15 (by kernel_rfl) (by kernel_rfl) ⟨u0, u1', u2, t1, z0, z1, z2⟩ (fun hHeld => ?_)
                    simp only [List.take_succ_cons, List.take_zero, List.drop_succ_cons, List.drop_zero]
                    refine' wpAnyH_take (i := 0) (v := ?_) rfl (by kernel_rfl) (by kernel_rfl) (by kernel_rfl) (fun _ _ _ h => h) (Or.inl ⟨by rfl, ?_⟩) (by assumption) ?_
                    rotate_left
                    · (intro w' hSw; (try dsimp only at hSw); go_simp; (try with_reducible rfl))
                    try simp only [Act.put, List.setIfInBounds_toArray]
                    refine' wpAnyH_take (i := 1) (v := ?_) rfl (by kernel_rfl) (by kernel_rfl) (by kernel_rfl) (fun _ _ _ h => h) (Or.inl ⟨by rfl, ?_⟩) (by assumption) ?_
                    rotate_left
                    · (intro w' hSw; (try dsimp only at hSw); go_simp; (try with_reducible rfl))
                    try simp only [Act.put]
                    refine' wpAnyH_take (i := 2) (v := ?_) rfl (by kernel_rfl) (by kernel_rfl) (by kernel_rfl) (fun _ _ _ h => h) (Or.inl ⟨by rfl, ?_⟩) (by assumption) ?_
                    rotate_left
                    · (intro w' hSw; (try dsimp only at hSw); go_simp; (try with_reducible rfl))
                    try simp only [Act.put]
                    refine' wpAnyH_take (i := 3) (v := ?_) rfl (by kernel_rfl) (by kernel_rfl) (by kernel_rfl) (fun _ _ _ h => h) (Or.inl ⟨by rfl, ?_⟩) (by assumption) ?_
                    rotate_left
                    · (intro w' hSw; (try dsimp only at hSw); go_simp; (try with_reducible rfl))
                    try simp only [Act.put]
                    refine' wpAnyH_take (i := 4) (v := ?_) rfl (by kernel_rfl) (by kernel_rfl) (by kernel_rfl) (fun _ _ _ h => h) (Or.inl ⟨by rfl, ?_⟩) (by assumption) ?_
                    rotate_left
                    · (intro w' hSw; (try dsimp only at hSw); go_simp; (try with_reducible rfl))
                    try simp only [Act.put]
                    refine' wpAnyH_take (i := 5) (v := ?_) rfl (by kernel_rfl) (by kernel_rfl) (by kernel_rfl) (fun _ _ _ h => h) (Or.inl ⟨by rfl, ?_⟩) (by assumption) ?_
                    rotate_left
                    · (intro w' hSw; (try dsimp only at hSw); go_simp; (try with_reducible rfl))
                    try simp only [Act.put]
                    refine' wpAnyH_take (i := 6) (v := ?_) rfl (by kernel_rfl) (by kernel_rfl) (by kernel_rfl) (fun _ _ _ h => h) (Or.inl ⟨by rfl, ?_⟩) (by assumption) ?_
                    rotate_left
                    · (intro w' hSw; (try dsimp only at hSw); go_simp; (try with_reducible rfl))
                    try simp only [Act.put]
                    refine' wpAnyH_take (i := 7) (v := ?_) rfl (by kernel_rfl) (by kernel_rfl) (by kernel_rfl) (fun _ _ _ h => h) (Or.inl ⟨by rfl, ?_⟩) (by assumption) ?_
                    rotate_left
                    · (intro w' hSw; (try dsimp only at hSw); go_simp; (try with_reducible rfl))
                    try simp only [Act.put]
                    refine' wpAnyH_take (i := 8) (v := ?_) rfl (by kernel_rfl) (by kernel_rfl) (by kernel_rfl) (fun _ _ _ h => h) (Or.inl ⟨by rfl, ?_⟩) (by assumption) ?_
                    rotate_left
                    · (intro w' hSw; (try dsimp only at hSw); go_simp; (try with_reducible rfl))
                    try simp only [Act.put]
                    refine' wpAnyH_take (i := 9) (v := ?_) rfl (by kernel_rfl) (by kernel_rfl) (by kernel_rfl) (fun _ _ _ h => h) (Or.inl ⟨by rfl, ?_⟩) (by assumption) ?_
                    rotate_left
                    · (intro w' hSw; (try dsimp only at hSw); go_simp; (try with_reducible rfl))
                    try simp only [Act.put]
                    refine' wpAnyH_take (i := 10) (v := ?_) rfl (by kernel_rfl) (by kernel_rfl) (by kernel_rfl) (fun _ _ _ h => h) (Or.inl ⟨by rfl, ?_⟩) (by assumption) ?_
                    rotate_left
                    · (intro w' hSw; (try dsimp only at hSw); go_simp; (try with_reducible rfl))
                    try simp only [Act.put]
                    refine' wpAnyH_take (i := 11) (v := ?_) rfl (by kernel_rfl) (by kernel_rfl) (by kernel_rfl) (fun _ _ _ h => h) (Or.inl ⟨by rfl, ?_⟩) (by assumption) ?_
                    rotate_left
                    · (intro w' hSw; (try dsimp only at hSw); go_simp; (try with_reducible rfl))
                    try simp only [Act.put]
                    refine' wpAnyH_take (i := 12) (v := ?_) rfl (by kernel_rfl) (by kernel_rfl) (by kernel_rfl) (fun _ _ _ h => h) (Or.inl ⟨by rfl, ?_⟩) (by assumption) ?_
                    rotate_left
                    · (intro w' hSw; (try dsimp only at hSw); go_simp; (try with_reducible rfl))
                    try simp only [Act.put]
                    refine wpAnyH_ready (rs := [13]) (by kernel_rfl) (by simp) ?_
                    refine AllReadyH.cons rfl (fun K hK => ?_) AllReadyH.nil
                    rw [if_pos (by rfl)]
                    simp only [Go.wp_at_succ, Go.wp_at_zero]
                    go_simp
                    refine (rat_Add _ hU hX (rz_pos _) (rz_pos _) (by omega)).mono ?_; rintro e w42 ⟨r42, rfl, hL, hb6⟩; obtain ⟨lN, lU, lk, lc, lB, ll, ld, rfl⟩ := hL.letters
                    dsimp only
                    refine hK.out _ _ ⟨cell_below u0 hb6, cell_below u1' hb6, cell_below u2 hb6, cell_below t1 hb6, cell_below z0 hb6, cell_below z1 hb6, cell_below z2 hb6⟩ (fun hHeld => ?_)
                    clear hK K
                    try simp only [Act.put, List.setIfInBounds_toArray, List.set_cons_zero, List.set_cons_succ]
                    refine' wpAnyH_take (i := 14) (v := ?_) rfl (by kernel_rfl) (by kernel_rfl) (by kernel_rfl) (fun _ _ _ h => h) (Or.inl ⟨by rfl, ?_⟩) (by assumption) ?_
                    rotate_left
                    · (intro w' hSw; (try dsimp only at hSw); go_simp; (try with_reducible rfl))
                    try simp only [Act.put, List.setIfInBounds_toArray]
                    refine wpAnyH_done (by kernel_rfl) ?_ _
                    change wpList _ _ _ _ _ _
                    have hR1 := hR0.below hb6
                    obtain ⟨⟨_, e0⟩, f0⟩ := hR1.res.2 (k * 3) (by omega)
                    obtain ⟨⟨_, e1⟩, f1⟩ := hR1.res.2 (k * 3 + 1) (by omega)
                    obtain ⟨⟨_, e2⟩, f2⟩ := hR1.res.2 (k * 3 + 2) (by omega)
                    have hgb4 : go ≤ wy.heap.size := by have := hR.res.1; omega
                    have hR4 := As.mk ((hR1.set hlk (hL.i.mono (T := fun k => w.heap.size ≤ k ∧ k ≠ go) (fun q hq _ => by have h1 : wy.drew.heap.size ≤ q := hq; simp at h1 hgz3; omega))).congr (U := fun j => if j = k then V k (v + 1) else if j < k then NQ j else 0) (fun j _ => by
                      by_cases a : j = k
                      · rw [if_pos a, if_pos a, hst.out]
                      · rw [if_neg a, if_neg a, if_neg a]))
                    have hN4 := As.mk (((hNN.below hb6).set k hR1.out (hR1.res.le (by omega)) (hL.mono (T := fun k => w.heap.size ≤ k ∧ k ≠ go) (fun q hq _ => by have h1 : wy.drew.heap.size ≤ q := hq; simp at h1 hgz3; omega))).congr (M := fun j => j ≤ k) (U := fun j => if j = k then V k (v + 1) else NQ j) (fun j hj => ⟨by omega, by
                      by_cases a : j = k
                      · rw [if_pos a, if_pos a, hst.out]
                      · rw [if_neg a, if_neg a, if_neg a]⟩))
                    have hB4 := As.mk (((((hB.after hgb4 (hd.after hd.size hb6)).setCell (p := ⟨go, k * 3, none⟩) (Nat.le_refl _) (.bool lN)).setCell (p := ⟨go, k * 3 + 1, none⟩) (Nat.le_refl _) (.slice lU lk lc)).setCell (p := ⟨go, k * 3 + 2, none⟩) (Nat.le_refl _) (.slice lB ll ld)))
                    clear hNN hT0 hR0 hR1 hL hb6 hd hX hU hBr2 hB hR z0 z1 z2 u0 u1' u2 t1 hHeld
                    go_wp2_with fail
                    refine NoPanic.normal ?_
                    go_wp2_with fail
                    go_roundw
                    case rel => exact ⟨v + 1, by omega, by go_num, hB4.out, hR4.out, hN4.out⟩
                    case measure => simp [intOf]; omega
                  · obtain rfl : v = n + 1 := by omega
                    have bv : (((n + 1 : Nat) : Int) < (n : Int) + 1) = False := eq_false (by omega)
                    have hR4 := As.mk (hR.congr (U := fun j => if j < k + 1 then NQ j else 0) (fun j _ => by
                      by_cases a : j = k
                      · rw [if_pos (by omega), if_pos a, a, hN.out]
                      · rw [if_neg a]
                        by_cases b : j < k
                        · rw [if_pos b, if_pos (by omega)]
                        · rw [if_neg b, if_neg (by omega)]))
                    have hN4 := As.mk (hNN.congr (M := fun j => j < k + 1) (U := NQ) (fun j hj => ⟨by omega, by
                      by_cases a : j = k
                      · rw [if_pos a, a, hN.out]
                      · rw [if_neg a]⟩))
                    clear hR hNN
                    go_wp2_with fail
                    go_roundw
                    case rel => exact ⟨k + 1, by omega, by go_num, hB, hR4.out, hN4.out⟩
                    case measure => simp [intOf]; omega
              · obtain rfl : m = k := by omega
                have bk : ((m : Int) < (m : Int)) = False := eq_false (by omega)
                have hR4 := As.mk (hR.congr (U := NQ) (fun j hj => (if_pos hj).symm))
                have hBw := As.mk (hBr.out.trans (hB.mono hwr))
                have hN4 := As.mk hNN
                clear hR hB hNN
                go_wp2_with fail
                go_ret2
                exact ⟨go, rfl, hwr, hBw.out, by rw [hNQ.out]; exact hR4.out, by rw [hNQ.out]; exact hN4.out⟩
end Go.Proofs.Ytdbpjnjgjmfomaa

/- ratio.Sum. -/
namespace Go.Proofs.Ytdbpjnjgjmfomaa
open Go.RowKit

set_option maxHeartbeats 8000000 in
set_option maxRecDepth 100000 in
theorem rat_Sum {A : Option Addr} {m c z : Nat} {T : Nat → Rat} (w : World) (hv : LisQ w A m T z) (hm : m ≤ 1000) (hz2 : 2 ≤ z) (hz : z ≤ 30000000000) :
    Calls Try.prog 66 #[.slice A m c] w fun e w' => ∃ r, e = .returned r ∧ RatV (New w) w' r (sumT T m) ∧ Below w.heap.size w w' := by
  have hsr := As.mk (sumT_rz (hv.rz hz2))
  have hst := As.mk (fun k => show sumT T (k + 1) = sumT T k + T k from rfl)
  have hs0 := As.mk (show sumT T 0 = 0 from rfl)
  replace hv := As.mk hv
  generalize sumT T = V at *
  go_enter Try.func66, Try.ntmps66
  go_wp2_with fail
  have hr0 := Res.lit0 w
  have hb1 := (Below.refl w.heap.size w).alloc (Nat.le_refl _) (.cells #[.bool false, .slice none 0 0, .slice none 0 0] 40)
  obtain ⟨W1, hW1⟩ : ∃ W, w.alloc (.cells #[.bool false, .slice none 0 0, .slice none 0 0] 40) = W := ⟨_, rfl⟩
  have hs1 : w.heap.size < W1.heap.size := by rw [← hW1]; simp
  rw [hW1] at hr0 hb1 ⊢
  clear hW1
  refine (rat_zero _).mono ?_
  rintro e w2 ⟨r2, rfl, hL, hb2⟩
  obtain ⟨N1, A1, k1, c1, B1, l1, d1, rfl⟩ := hL.letters
  rw [← hs0.out] at hL
  have hr2 := hr0.below hb2
  have hbx := hb1.after hb1.size hb2
  have hs2 := Nat.lt_of_lt_of_le hs1 hb2.size
  have hI2 := hL.i.mono (T := fun q => W1.heap.size ≤ q ∧ q ≠ w2.heap.size) (fun q hq hlt => ⟨hq, by omega⟩)
  have hrow := RowQ.lit (S := fun q => W1.heap.size ≤ q ∧ q ≠ w2.heap.size) hI2 (fun h => h.2 rfl)
  have hrowN := RowN.lit (S := fun q => W1.heap.size ≤ q ∧ q ≠ w2.heap.size) (hL.mono (T := fun q => W1.heap.size ≤ q ∧ q ≠ w2.heap.size) (fun q hq hlt => ⟨hq, by omega⟩))
  have hb3 := (Below.refl w2.heap.size w2).alloc (Nat.le_refl _) (.cells #[.bool N1, .slice A1 k1 c1, .slice B1 l1 d1] 40)
  replace hr2 := hr2.below hb3
  replace hbx := hbx.after hbx.size hb3
  obtain ⟨sb, hsb⟩ : ∃ sb, w2.heap.size = sb := ⟨_, rfl⟩
  have hsb1 : W1.heap.size ≤ sb := by rw [← hsb]; exact hb2.size
  clear hr0 hb1 hL hb2 hI2 hb3 hs2
  go_wp2_with fail
  obtain ⟨W3, hW3⟩ : ∃ W, w2.alloc (.cells #[.bool N1, .slice A1 k1 c1, .slice B1 l1 d1] 40) = W := ⟨_, rfl⟩
  rw [hW3] at hrow hrowN hr2 hbx ⊢
  rw [hsb] at hrow hrowN
  clear hW3 hsb
  replace hs0 := As.mk trivial
  go_loopw [5, 9] (fun _ v9 wr => ∃ k : Nat, k ≤ m ∧ v9 = .int .i64 k ∧ Below w.heap.size w wr ∧ Res wr w.heap.size 3 ∧ RowQ (fun q => W1.heap.size ≤ q ∧ q ≠ sb) wr sb 1 (fun _ => V k) ∧ RowN (fun q => W1.heap.size ≤ q ∧ q ≠ sb) wr sb (fun j => j = 0) (fun _ => V k)) (fun _ v9 _ => (m - intOf v9).toNat)
  case atStart => exact ⟨0, by omega, rfl, hbx, hr2, hrow, hrowN⟩
  case round =>
    clear hbx hr2 hrow hrowN
    obtain ⟨k, hk, rfl, hB, hr, hR, hN⟩ := hrel
    by_cases hlt : k < m
    · have bk : ((k : Int) < (m : Int)) = True := eq_true (by omega)
      have bk0 : (0 ≤ (k : Int)) = True := eq_true (by omega)
      obtain ⟨ad, rfl, N, U, l, c', B, n, d, h0, h1, h2, hI⟩ := hv.out.below hB k hlt
      obtain ⟨sN, sU, sl, sc, sB, sn, sd, s0, s1, s2, hS⟩ := hR.get 0 (by omega)
      have hzs := hsr.out k (by omega)
      have hkz : k * (z + 1) ≤ 1000 * (30000000000 + 1) := Nat.mul_le_mul (by omega) (by omega)
      have hst1 := As.mk (hst.out k)
      have hrzT := (hI.rz hz2)
      generalize T k = X at *
      generalize hVk : V k = Y at *
      replace hVk := As.mk hVk
      have hb4 := (Below.refl wr.heap.size wr).alloc (Nat.le_refl _) (.cells #[.bool N, .slice U l c', .slice B n d] 40)
      have x0 : (wr.alloc (.cells #[.bool N, .slice U l c', .slice B n d] 40)).cell? ⟨wr.heap.size, 0, none⟩ = some (.bool N) := by simp [go_sem]
      have x1 : (wr.alloc (.cells #[.bool N, .slice U l c', .slice B n d] 40)).cell? ⟨wr.heap.size, 1, none⟩ = some (.slice U l c') := by simp [go_sem]
      have x2 : (wr.alloc (.cells #[.bool N, .slice U l c', .slice B n d] 40)).cell? ⟨wr.heap.size, 2, none⟩ = some (.slice B n d) := by simp [go_sem]
      replace s0 : (wr.alloc (.cells #[.bool N, .slice U l c', .slice B n d] 40)).cell? ⟨sb, 0, none⟩ = some (.bool sN) := cell_below s0 hb4
      replace s1 : (wr.alloc (.cells #[.bool N, .slice U l c', .slice B n d] 40)).cell? ⟨sb, 1, none⟩ = some (.slice sU sl sc) := cell_below s1 hb4
      replace s2 : (wr.alloc (.cells #[.bool N, .slice U l c', .slice B n d] 40)).cell? ⟨sb, 2, none⟩ = some (.slice sB sn sd) := cell_below s2 hb4
      have hI4 := hI.below hb4
      have hS4 := hS.below hb4
      have hR4 := hR.below hb4
      have hr4 := hr.below hb4
      have hB4 := hB.after hB.size hb4
      have HA := As.mk (rat_Add _ hS4 hI4 (rz_pos _) (by omega) (by omega))
      have hN4 := hN.below hb4
      clear hI hS hR hr hB hI4 hS4 hN
      go_wp2_with fail
      obtain ⟨W4, hW4⟩ : ∃ W, wr.alloc (.cells #[.bool N, .slice U l c', .slice B n d] 40) = W := ⟨_, rfl⟩
      rw [hW4] at HA hN4 hR4 hr4 hB4 hb4 ⊢
      have hs4 : W1.heap.size ≤ W4.heap.size := by have := hb4.size; have := hR4.res.1; omega
      clear x0 x1 x2 s0 s1 s2 h0 h1 h2 hW4
      refine HA.out.mono ?_
      rintro e w5 ⟨r5, rfl, hL, hb5⟩
      obtain ⟨lN, lU, lk, lc, lB, ll, ld, rfl⟩ := hL.letters
      have hR5 := hR4.below hb5
      obtain ⟨⟨_, e0⟩, f0⟩ : (∃ v, w5.cell? ⟨sb, 0, none⟩ = some v) ∧ w5.frozen? ⟨sb, 0, none⟩ = false := hR5.res.2 0 (by omega)
      obtain ⟨⟨_, e1⟩, f1⟩ : (∃ v, w5.cell? ⟨sb, 1, none⟩ = some v) ∧ w5.frozen? ⟨sb, 1, none⟩ = false := hR5.res.2 1 (by omega)
      obtain ⟨⟨_, e2⟩, f2⟩ : (∃ v, w5.cell? ⟨sb, 2, none⟩ = some v) ∧ w5.frozen? ⟨sb, 2, none⟩ = false := hR5.res.2 2 (by omega)
      have hz5 := hR4.res.1
      have hR6 : RowQ (fun q => W1.heap.size ≤ q ∧ q ≠ sb) (((w5.setCell ⟨sb, 0, none⟩ (.bool lN)).setCell ⟨sb, 1, none⟩ (.slice lU lk lc)).setCell ⟨sb, 2, none⟩ (.slice lB ll ld)) sb 1 (fun _ => V (k + 1)) :=
        (hR5.set (x := 0) (by omega) (hL.i.mono (T := fun q => W1.heap.size ≤ q ∧ q ≠ sb) (fun q hq _ => by have : W4.heap.size ≤ q := hq; omega))).congr (fun j hj => by
          obtain rfl : j = 0 := by omega
          rw [if_pos rfl, hst1.out])
      have hN6 : RowN (fun q => W1.heap.size ≤ q ∧ q ≠ sb) (((w5.setCell ⟨sb, 0, none⟩ (.bool lN)).setCell ⟨sb, 1, none⟩ (.slice lU lk lc)).setCell ⟨sb, 2, none⟩ (.slice lB ll ld)) sb (fun j => j = 0) (fun _ => V (k + 1)) :=
        ((hN4.below hb5).set 0 hR5.out hR5.res (hL.mono (T := fun q => W1.heap.size ≤ q ∧ q ≠ sb) (fun q hq _ => by have : W4.heap.size ≤ q := hq; omega))).congr (fun j hj => ⟨.inl hj, by rw [if_pos hj, hst1.out]⟩)
      have hr6 : Res (((w5.setCell ⟨sb, 0, none⟩ (.bool lN)).setCell ⟨sb, 1, none⟩ (.slice lU lk lc)).setCell ⟨sb, 2, none⟩ (.slice lB ll ld)) w.heap.size 3 := (((hr4.below hb5).set _ _).set _ _).set _ _
      have hB6 : Below w.heap.size w (((w5.setCell ⟨sb, 0, none⟩ (.bool lN)).setCell ⟨sb, 1, none⟩ (.slice lU lk lc)).setCell ⟨sb, 2, none⟩ (.slice lB ll ld)) := (((hB4.after hB4.size hb5).setCell (by show w.heap.size ≤ sb; omega) _).setCell (by show w.heap.size ≤ sb; omega) _).setCell (by show w.heap.size ≤ sb; omega) _
      clear hR5 hR4 hr4 hB4 hL hb5 hb4 HA hN4
      go_wp2_with fail
      go_roundw
      case rel => exact ⟨k + 1, by omega, by go_num, hB6, hr6, hR6, hN6⟩
      case measure => simp [intOf]; omega
    · obtain rfl : m = k := by omega
      have bk : ((m : Int) < (m : Int)) = False := eq_false (by omega)
      obtain ⟨sN, sU, sl, sc, sB, sn, sd, s0, s1, s2, hS⟩ := hN 0 rfl
      replace s0 : wr.cell? ⟨sb, 0, none⟩ = some (.bool sN) := s0
      replace s1 : wr.cell? ⟨sb, 1, none⟩ = some (.slice sU sl sc) := s1
      replace s2 : wr.cell? ⟨sb, 2, none⟩ = some (.slice sB sn sd) := s2
      obtain ⟨⟨_, e0⟩, f0⟩ := hr.2 0 (by omega)
      obtain ⟨⟨_, e1⟩, f1⟩ := hr.2 1 (by omega)
      obtain ⟨⟨_, e2⟩, f2⟩ := hr.2 2 (by omega)
      have hfin : RatV (New w) (((wr.setCell ⟨w.heap.size, 0, none⟩ (.bool sN)).setCell ⟨w.heap.size, 1, none⟩ (.slice sU sl sc)).setCell ⟨w.heap.size, 2, none⟩ (.slice sB sn sd)) (.agg #[.bool sN, .slice sU sl sc, .slice sB sn sd]) (V m) :=
        (((hS.setc' (by show ¬ (W1.heap.size ≤ w.heap.size ∧ _); omega)).setc' (by show ¬ (W1.heap.size ≤ w.heap.size ∧ _); omega)).setc' (by show ¬ (W1.heap.size ≤ w.heap.size ∧ _); omega)).mono (fun q hq _ => by have : W1.heap.size ≤ q := hq.1; show w.heap.size ≤ q; omega)
      have hBf := ((hB.setCell (p := ⟨w.heap.size, 0, none⟩) (Nat.le_refl _) (.bool sN)).setCell (p := ⟨w.heap.size, 1, none⟩) (Nat.le_refl _) (.slice sU sl sc)).setCell (p := ⟨w.heap.size, 2, none⟩) (Nat.le_refl _) (.slice sB sn sd)
      clear hS hr hR hN hB
      go_wp2_with fail
      refine bodyPost_ret (v := .agg #[.bool sN, .slice sU sl sc, .slice sB sn sd]) (by simp [results, Try.results66, go_sem, e0, e1, e2]) rfl ?_
      exact ⟨_, rfl, hfin, hBf⟩
end Go.Proofs.Ytdbpjnjgjmfomaa

/- exact.whole, exact.Valid. -/
namespace Go.Proofs.Ytdbpjnjgjmfomaa
open Go.RowKit

set_option maxHeartbeats 8000000 in
set_option maxRecDepth 100000 in
theorem exact_whole (w : World) (x : Int) (hx0 : -9223372036854775808 ≤ x) (hx1 : x ≤ 9223372036854775807) :
    Calls Try.prog 67 #[.int .i64 x] w fun e w' => ∃ r, e = .returned r ∧ RatV (New w) w' r ((x : Rat) / ((1 : Int) : Rat)) ∧ Below w.heap.size w w' := by
  obtain ⟨q, hq⟩ : ∃ q, ((x : Rat) / ((1 : Int) : Rat)) = q := ⟨_, rfl⟩
  replace hq := As.mk hq
  rw [hq.out]
  go_enter Try.func67, Try.ntmps67
  go_wp2_with fail
  obtain ⟨W, hW⟩ : ∃ W, (w.alloc (Obj.cells #[Value.bool false, Value.slice none 0 0, Value.slice none 0 0] 40)) = W := ⟨_, rfl⟩
  have hB : Below w.heap.size w W := by rw [← hW]; exact (Below.refl _ _).alloc (by simp) _
  have hs : W.heap.size = w.heap.size + 1 := by rw [← hW]; simp
  have hR : Res W w.heap.size 3 := ⟨by omega, fun i hi => by
    subst hW
    rcases (by omega : i = 0 ∨ i = 1 ∨ i = 2) with rfl | rfl | rfl
    · exact ⟨⟨.bool false, by simp [go_sem]⟩, by simp [go_sem]⟩
    · exact ⟨⟨.slice none 0 0, by simp [go_sem]⟩, by simp [go_sem]⟩
    · exact ⟨⟨.slice none 0 0, by simp [go_sem]⟩, by simp [go_sem]⟩⟩
  rw [hW]
  clear hW
  have hS := And.intro hB hR
  clear hB hR
  refine (rat_Of _ x 1 hx0 hx1 (by omega) (by omega)).mono ?_
  rintro e w3 ⟨r, rfl, hL, hb⟩
  rw [hq.out] at hL
  obtain ⟨A7, c7, B7, d7, rfl⟩ := hL.slice
  have hst := As.mk (fun o x y z => RatV.stored (x := x) (y := y) (z := z) (show w.heap.size ≤ w.heap.size by omega) hS.2 hL |>.below ((Below.refl _ _).alloc (Nat.le_refl _) o))
  have hl0 : w.heap.size < w3.heap.size := by have := hb.size; omega
  replace hS := keep_last hS hb
  have hB9 : As (∀ o x y z, Below w.heap.size w ((((w3.setCell ⟨w.heap.size, 0, none⟩ x).setCell ⟨w.heap.size, 1, none⟩ y).setCell ⟨w.heap.size, 2, none⟩ z).alloc o)) := ⟨fun o x y z => (((hS.1.setCell (Nat.le_refl _) _).setCell (Nat.le_refl _) _).setCell (Nat.le_refl _) _).alloc (by simp [World.setCell]; omega) o⟩
  have hne : w.heap.size ≠ w3.heap.size := by omega
  obtain ⟨⟨⟨x4, h4⟩, f4⟩, ⟨⟨x5, h5⟩, f5⟩, ⟨x6, h6⟩, f6⟩ := And.intro (hS.2.2 0 (by omega)) (And.intro (hS.2.2 1 (by omega)) (hS.2.2 2 (by omega)))
  clear hS hL hb hs
  go_wp2_with fail
  refine bodyPost_ret (v := .agg #[.bool (decide (q.num < 0)), .slice A7 (sz q.num) c7, .slice B7 (dig q.den).length d7]) (by simp [results, Try.results67, go_sem, h4, h5, h6, hl0]) rfl ?_
  exact ⟨_, rfl, hst.out _ _ _ _, hB9.out _ _ _ _⟩

/-- None of the first k is negative. -/
def negFree (T : Nat → Rat) : Nat → Bool
  | 0 => true
  | k + 1 => negFree T k && !decide (T k < 0)
theorem negFree_false {T : Nat → Rat} {k : Nat} (h : negFree T k = false) : ∀ d, negFree T (k + d) = false
  | 0 => h
  | d + 1 => by rw [show k + (d + 1) = (k + d) + 1 by omega, negFree, negFree_false h d]; rfl
/-- A distribution: 1 to 121 numbers, none negative, with the sum 1. -/
def validQ (T : Nat → Rat) (m : Nat) : Bool := decide (1 ≤ m) && decide (m ≤ 121) && negFree T m && decide (sumT T m = 1)
theorem cmpR_eq {p q : Rat} : (cmpR p q == 0) = decide (p = q) := by
  unfold cmpR
  by_cases a : p < q
  · rw [if_pos a, decide_eq_false (fun e => by rw [e] at a; exact Rat.lt_irrefl a)]; rfl
  · rw [if_neg a]
    by_cases b : p = q
    · rw [if_pos b, decide_eq_true b]; rfl
    · rw [if_neg b, decide_eq_false b]; rfl

set_option maxHeartbeats 8000000 in
set_option maxRecDepth 100000 in
theorem exact_Valid {A : Option Addr} {m c z : Nat} {T : Nat → Rat} (w : World) (hv : LisQ w A m T z) (hm : m ≤ 140737488351232) (hz2 : 2 ≤ z) (hz : z ≤ 30000000000) :
    Calls Try.prog 34 #[.slice A m c] w fun e w' => e = .returned (.bool (validQ T m)) ∧ Below w.heap.size w w' := by
  by_cases hm1 : m < 1
  · have R : As (validQ T m = false) := ⟨by unfold validQ; rw [decide_eq_false (show ¬ 1 ≤ m by omega)]; rfl⟩
    clear hv
    obtain rfl : m = 0 := by omega
    go_enter Try.func34, Try.ntmps34
    go_wp2_with fail
    go_ret
    exact ⟨by rw [R.out]; rfl, Below.refl _ _⟩
  · by_cases hm2 : 121 < m
    · have R : As (validQ T m = false) := ⟨by unfold validQ; rw [decide_eq_false (show ¬ m ≤ 121 by omega)]; simp⟩
      have b1 : ((m : Int) < 1) = False := eq_false (by omega)
      have b2 : (121 < (m : Int)) = True := eq_true (by omega)
      clear hv
      go_enter Try.func34, Try.ntmps34
      go_wp2_with fail
      go_ret
      exact ⟨by rw [R.out]; rfl, Below.refl _ _⟩
    · have R : As (validQ T m = (negFree T m && decide (sumT T m = 1))) := ⟨by unfold validQ; rw [decide_eq_true (show 1 ≤ m by omega), decide_eq_true (show m ≤ 121 by omega)]; rfl⟩
      have b1 : ((m : Int) < 1) = False := eq_false (by omega)
      have b1n : (m < 1) = False := eq_false (by omega)
      have b1z : (m = 0) = False := eq_false (by omega)
      have b2 : (121 < (m : Int)) = False := eq_false (by omega)
      have b2n : (121 < m) = False := eq_false (by omega)
      have HSum := As.mk (fun W (hb : Below w.heap.size w W) => rat_Sum (c := c) W (hv.below hb) (by omega) hz2 hz)
      have hsr := As.mk (sumT_rz (hv.rz hz2) m (Nat.le_refl _))
      replace hv := As.mk hv
      go_enter Try.func34, Try.ntmps34
      go_wp2_with fail
      go_loopw [4, 15] (fun _ v15 wr => ∃ k : Nat, k ≤ m ∧ v15 = .int .i64 k ∧ As (negFree T k = true) ∧ Below w.heap.size w wr) (fun _ v15 _ => (m - intOf v15).toNat)
      case atStart => exact ⟨0, by omega, rfl, ⟨rfl⟩, Below.refl _ _⟩
      case round =>
        obtain ⟨k, hk, rfl, hN, hB⟩ := hrel
        by_cases hlt : k < m
        · have bk : ((k : Int) < (m : Int)) = True := eq_true (by omega)
          have bk0 : (0 ≤ (k : Int)) = True := eq_true (by omega)
          obtain ⟨ad, rfl, N, U, l, c', B, n, d, h0, h1, h2, hI⟩ := hv.out.below hB k hlt
          have hb4 := (Below.refl wr.heap.size wr).alloc (Nat.le_refl _) (.cells #[.bool N, .slice U l c', .slice B n d] 40)
          have HS := As.mk (rat_Sign _ (hI.below hb4) (by omega) (by omega))
          have hB4 := hB.after hB.size hb4
          have hnx := As.mk (show negFree T (k + 1) = (negFree T k && !decide (T k < 0)) from rfl)
          generalize T k = X at *
          clear hB hI hb4
          go_wp2_with fail
          refine HS.out.mono ?_
          rintro e w5 ⟨rfl, hb5⟩
          have hB5 := hB4.after hB4.size hb5
          clear HS hB4 hb5 h0 h1 h2
          by_cases hx : X < 0
          · have hc := cmpR_neg hx
            rw [hc]
            have R2 : As (validQ T m = false) := ⟨by
              have h1 : negFree T (k + 1) = false := by rw [hnx.out, decide_eq_true hx]; simp
              have h2 := negFree_false h1 (m - (k + 1))
              rw [show k + 1 + (m - (k + 1)) = m by omega] at h2
              rw [R.out, h2]; rfl⟩
            clear hc R hnx hx
            go_wp2_with fail
            go_ret
            exact ⟨by rw [R2.out]; rfl, hB5⟩
          · have hc := cmpR_nonneg hx
            obtain ⟨s, hs⟩ : ∃ s, cmpR X 0 = s := ⟨_, rfl⟩
            rw [hs] at hc ⊢
            have bs : (s < 0) = False := eq_false (by omega)
            have hN1 : As (negFree T (k + 1) = true) := ⟨by rw [hnx.out, hN.out, decide_eq_false hx]; rfl⟩
            clear hs hnx hx hN
            go_wp2_with fail
            go_roundw
            case rel => exact ⟨k + 1, by omega, by go_num, hN1, hB5⟩
            case measure => simp [intOf]; omega
        · obtain rfl : m = k := by omega
          have bk : ((m : Int) < (m : Int)) = False := eq_false (by omega)
          have HS := As.mk (HSum.out wr hB)
          go_wp2_with fail
          refine HS.out.mono ?_
          rintro e w5 ⟨r5, rfl, hL, hb5⟩
          have hB5 := hB.after hB.size hb5
          clear HS hB hb5
          go_wp2_with fail
          refine (exact_whole _ 1 (by decide) (by decide)).mono ?_
          rintro e w6 ⟨r6, rfl, hW, hb6⟩
          rw [one_fr] at hW
          have hB6 := hB5.after hB5.size hb6
          have hL6 := hL.below hb6
          have h1z := rz_one'
          have hmz : m * (z + 1) ≤ 121 * (30000000000 + 1) := Nat.mul_le_mul (by omega) (by omega)
          have hsr1 := hsr.out
          have HC := As.mk (rat_Cmp _ hL6.i hW.i (rz_pos _) (rz_pos _) (by omega))
          clear hL hb6 hL6 hW hB5
          go_wp2_with fail
          refine HC.out.mono ?_
          rintro e w7 ⟨rfl, hb7⟩
          have hB7 := hB6.after hB6.size hb7
          have R3 : As (validQ T m = (cmpR (sumT T m) 1 == 0)) := ⟨by rw [R.out, hN.out, cmpR_eq]; rfl⟩
          obtain ⟨s, hs⟩ : ∃ s, cmpR (sumT T m) 1 = s := ⟨_, rfl⟩
          rw [hs] at R3 ⊢
          clear HC hB6 hb7 hs R hN hsr hsr1
          go_wp2_with fail
          go_ret
          exact ⟨by rw [R3.out]; rfl, hB7⟩
end Go.Proofs.Ytdbpjnjgjmfomaa

/- Counts over lists of answers: Guttman errors and runs, in plain Lean. -/
namespace Go.Proofs.Ytdbpjnjgjmfomaa
open Go.RowKit

def cnt : List Bool → Nat
  | [] => 0
  | b :: t => (if b = true then 1 else 0) + cnt t
def gutR : List Bool → Nat
  | [] => 0
  | b :: t => (if b = true then 0 else cnt t) + gutR t
def gw (x : List Bool) : Nat → Nat
  | 0 => 0
  | i + 1 => if x.getD i false = true then gw x i else gw x i + 1
def gn (x : List Bool) : Nat → Nat
  | 0 => 0
  | i + 1 => if x.getD i false = true then gn x i + gw x i else gn x i
def ru (x : List Bool) : Nat → Nat
  | 0 => 0
  | i + 1 => if 0 < i ∧ (x.getD i false != x.getD (i - 1) false) = true then 1 else ru x i + 1
def lo (x : List Bool) : Nat → Nat
  | 0 => 0
  | i + 1 => max (lo x i) (ru x (i + 1))

theorem drop_at (x : List Bool) (i : Nat) (h : i < x.length) : x.drop i = x.getD i false :: x.drop (i + 1) := by
  rw [List.drop_eq_getElem_cons h]
  simp [List.getElem?_eq_getElem h]
theorem cnt_drop (x : List Bool) (i : Nat) (h : i < x.length) : cnt (x.drop i) = (if x.getD i false = true then 1 else 0) + cnt (x.drop (i + 1)) := by
  rw [drop_at x i h, cnt]
theorem gutR_drop (x : List Bool) (i : Nat) (h : i < x.length) : gutR (x.drop i) = (if x.getD i false = true then 0 else cnt (x.drop (i + 1))) + gutR (x.drop (i + 1)) := by
  rw [drop_at x i h, gutR]
theorem cnt_end (x : List Bool) : cnt (x.drop x.length) = 0 := by simp [cnt]
theorem gutR_end (x : List Bool) : gutR (x.drop x.length) = 0 := by simp [gutR]
theorem cnt_le (x : List Bool) : cnt x ≤ x.length := by
  induction x with
  | nil => simp [cnt]
  | cons b t ih => simp only [cnt, List.length_cons]; split <;> omega
theorem gut_inv (x : List Bool) (i : Nat) (h : i ≤ x.length) : gn x i + gw x i * cnt (x.drop i) + gutR (x.drop i) = gutR x := by
  induction i with
  | zero => simp [gn, gw]
  | succ i ih =>
    have := ih (by omega)
    rw [cnt_drop x i (by omega), gutR_drop x i (by omega)] at this
    rw [gn, gw]
    cases hb : x.getD i false
    · rw [hb] at this
      simp only [Bool.false_eq_true, if_false, Nat.zero_add] at this ⊢
      rw [← this, Nat.add_mul]; omega
    · rw [hb] at this
      simp only [if_true] at this ⊢
      rw [← this, Nat.mul_add]; omega
theorem gut_eq (x : List Bool) : gn x x.length = gutR x := by
  have := gut_inv x x.length (Nat.le_refl _)
  rw [cnt_end, gutR_end] at this
  omega
theorem gw_le (x : List Bool) (i : Nat) : gw x i ≤ i := by
  induction i with
  | zero => simp [gw]
  | succ i ih => rw [gw]; split <;> omega
theorem gn_le (x : List Bool) (i : Nat) : gn x i ≤ (i - gw x i) * gw x i := by
  induction i with
  | zero => simp [gn]
  | succ i ih =>
    have := gw_le x i
    rw [gn, gw]
    split
    · rw [show i + 1 - gw x i = (i - gw x i) + 1 by omega, Nat.add_mul]; omega
    · refine Nat.le_trans ih ?_
      rw [show i + 1 - (gw x i + 1) = i - gw x i by omega]
      exact Nat.mul_le_mul (Nat.le_refl _) (by omega)
theorem gn_small (x : List Bool) (i : Nat) (h : i ≤ 20) : gn x i ≤ 400 := by
  have := gn_le x i
  have h2 := gw_le x i
  have : (i - gw x i) * gw x i ≤ 20 * 20 := Nat.mul_le_mul (by omega) (by omega)
  omega
theorem gutR_small (x : List Bool) (h : x.length ≤ 20) : gutR x ≤ 400 := by rw [← gut_eq]; exact gn_small x _ h
theorem gn_pos (x : List Bool) (i : Nat) : decide (0 < gn x (i + 1)) = if x.getD i false = true then (decide (0 < gn x i) || decide (0 < gw x i)) else decide (0 < gn x i) := by
  rw [gn]
  split
  · rw [← Bool.decide_or]; congr 1; simp only [eq_iff_iff]; omega
  · rfl
theorem four_le (r w : Nat) : 4 * (r * w) ≤ (r + w) * (r + w) := by
  rcases Nat.le_total r w with h | h
  · obtain ⟨d, rfl⟩ := Nat.exists_eq_add_of_le h
    have : (r + (r + d)) * (r + (r + d)) = 4 * (r * (r + d)) + d * d := by grind
    omega
  · obtain ⟨d, rfl⟩ := Nat.exists_eq_add_of_le h
    have : (w + d + w) * (w + d + w) = 4 * ((w + d) * w) + d * d := by grind
    omega
theorem gn_bound (x : List Bool) (i : Nat) : gn x i ≤ i * i / 4 := by
  have h1 := gn_le x i
  have h2 := gw_le x i
  have h3 := four_le (i - gw x i) (gw x i)
  rw [show i - gw x i + gw x i = i by omega] at h3
  omega
theorem ru_le (x : List Bool) (i : Nat) : ru x i ≤ i := by
  induction i with
  | zero => simp [ru]
  | succ i ih => rw [ru]; split <;> omega
theorem lo_le (x : List Bool) (i : Nat) : lo x i ≤ i := by
  induction i with
  | zero => simp [lo]
  | succ i ih => rw [lo]; have := ru_le x (i + 1); omega

/-- A slice of answers: the cells that it reads as. -/
def Bs (w : World) (A : Option Addr) (x : List Bool) : Prop := x ≠ [] → ∃ ad, A = some ad ∧ ∀ i, i < x.length → w.cell? (ad.add i) = some (.bool (x.getD i false))
theorem Bs.below {w w1 : World} {A : Option Addr} {x : List Bool} (h : Bs w A x) (hb : Below w.heap.size w w1) : Bs w1 A x := fun hn => by
  obtain ⟨ad, e, hc⟩ := h hn
  refine ⟨ad, e, fun i hi => ?_⟩
  have := hc i hi
  exact (hb.cell (World.block_lt_of_cell? w _ this)).trans this
theorem Bs.drewN {w : World} {A : Option Addr} {x : List Bool} (h : Bs w A x) (n : Nat) : Bs (w.drewN n) A x := h.below ((Below.refl _ _).drewsN n)
theorem Bs.at {w : World} {A : Option Addr} {x : List Bool} (h : Bs w A x) (i : Nat) (hi : i < x.length) : ∃ ad, A = some ad ∧ ∀ i, i < x.length → w.cell? (ad.add i) = some (.bool (x.getD i false)) :=
  h (fun e => by simp [e] at hi)
end Go.Proofs.Ytdbpjnjgjmfomaa

/- The distribution of the Guttman errors is that of the model: a sum over all patterns. -/
namespace Go.Proofs.Ytdbpjnjgjmfomaa

/-- Wrong responses among the first i of the pattern c. -/
def wC (c : Nat) : Nat → Nat
  | 0 => 0
  | i + 1 => if c.testBit i = true then wC c i else wC c i + 1
/-- Guttman errors among the first i. -/
def gC (c : Nat) : Nat → Nat
  | 0 => 0
  | i + 1 => if c.testBit i = true then gC c i + wC c i else gC c i
/-- Their probability. -/
def prC (p : Nat → Rat) (c : Nat) : Nat → Rat
  | 0 => 1
  | i + 1 => prC p c i * (if c.testBit i = true then p i else 1 - p i)
theorem wC_congr {c d : Nat} : ∀ i, (∀ j, j < i → c.testBit j = d.testBit j) → wC c i = wC d i
  | 0, _ => rfl
  | i + 1, h => by rw [wC, wC, wC_congr i (fun j hj => h j (by omega)), h i (by omega)]
theorem gC_congr {c d : Nat} : ∀ i, (∀ j, j < i → c.testBit j = d.testBit j) → gC c i = gC d i
  | 0, _ => rfl
  | i + 1, h => by rw [gC, gC, gC_congr i (fun j hj => h j (by omega)), wC_congr i (fun j hj => h j (by omega)), h i (by omega)]
theorem prC_congr {p : Nat → Rat} {c d : Nat} : ∀ i, (∀ j, j < i → c.testBit j = d.testBit j) → prC p c i = prC p d i
  | 0, _ => rfl
  | i + 1, h => by rw [prC, prC, prC_congr i (fun j hj => h j (by omega)), h i (by omega)]
theorem wC_le (c : Nat) : ∀ i, wC c i ≤ i
  | 0 => Nat.le_refl _
  | i + 1 => by have := wC_le c i; rw [wC]; split <;> omega
theorem sumT_add (f g : Nat → Rat) : ∀ n, sumT (fun c => f c + g c) n = sumT f n + sumT g n
  | 0 => by simp only [sumT]; grind
  | n + 1 => by simp only [sumT]; rw [sumT_add f g n]; grind
theorem sumT_mul (f : Nat → Rat) (q : Rat) : ∀ n, sumT (fun c => f c * q) n = sumT f n * q
  | 0 => by simp only [sumT]; grind
  | n + 1 => by simp only [sumT]; rw [sumT_mul f q n]; grind
theorem sumT_congr {f g : Nat → Rat} : ∀ n, (∀ c, c < n → f c = g c) → sumT f n = sumT g n
  | 0, _ => rfl
  | n + 1, h => by rw [sumT, sumT, sumT_congr n (fun c hc => h c (by omega)), h n (by omega)]
theorem sumT_zero : ∀ n, sumT (fun _ => 0) n = 0
  | 0 => rfl
  | n + 1 => by rw [sumT, sumT_zero n]; grind
theorem sumT_split (f : Nat → Rat) (m : Nat) : ∀ n, sumT f (m + n) = sumT f m + sumT (fun c => f (m + c)) n
  | 0 => by simp only [sumT, Nat.add_zero]; grind
  | n + 1 => by rw [← Nat.add_assoc, sumT, sumT_split f m n, sumT]; grind
theorem bit_lo {i c : Nat} (hc : c < 2 ^ i) : c.testBit i = false := Nat.testBit_lt_two_pow hc
theorem bit_hi {i c : Nat} (hc : c < 2 ^ i) : (2 ^ i + c).testBit i = true := by
  rw [Nat.testBit_two_pow_add_eq, bit_lo hc]; rfl
theorem bit_same {i c j : Nat} (hj : j < i) : (2 ^ i + c).testBit j = c.testBit j := Nat.testBit_two_pow_add_gt hj c
/-- The table of the model: w wrong responses and k errors. -/
def mdl (p : Nat → Rat) (i w k : Nat) : Rat := sumT (fun c => if wC c i = w ∧ gC c i = k then prC p c i else 0) (2 ^ i)
theorem mdl_eq (p : Nat → Rat) : ∀ i w k, mdl p i w k = dpQ p i w k
  | 0, w, k => by
    show sumT _ (2 ^ 0) = if w = 0 ∧ k = 0 then (1 : Rat) else 0
    rw [show (2 : Nat) ^ 0 = 0 + 1 from rfl, sumT, sumT]
    by_cases h : w = 0 ∧ k = 0
    · rw [if_pos h, if_pos (show wC 0 0 = w ∧ gC 0 0 = k from ⟨h.1.symm, h.2.symm⟩)]
      show (0 : Rat) + 1 = 1
      grind
    · rw [if_neg h, if_neg (show ¬ (wC 0 0 = w ∧ gC 0 0 = k) from fun e => h ⟨e.1.symm, e.2.symm⟩)]; grind
  | i + 1, w, k => by
    have e1 : mdl p (i + 1) w k = sumT (fun c => if wC c (i + 1) = w ∧ gC c (i + 1) = k then prC p c (i + 1) else 0) (2 ^ i) + sumT (fun c => if wC (2 ^ i + c) (i + 1) = w ∧ gC (2 ^ i + c) (i + 1) = k then prC p (2 ^ i + c) (i + 1) else 0) (2 ^ i) := by
      unfold mdl
      rw [Nat.pow_succ, Nat.mul_two, sumT_split]
    rw [e1]
    show _ = (if 1 ≤ w then dpQ p i (w - 1) k * (1 - p i) else 0) + (if w ≤ k then dpQ p i w (k - w) * p i else 0)
    congr 1
    · by_cases h : 1 ≤ w
      · rw [if_pos h, ← mdl_eq p i (w - 1) k]
        unfold mdl
        rw [← sumT_mul]
        refine sumT_congr _ (fun c hc => ?_)
        rw [wC, gC, prC, bit_lo hc]
        simp only [Bool.false_eq_true, if_false]
        by_cases a : wC c i = w - 1 ∧ gC c i = k
        · rw [if_pos a, if_pos (by omega)]
        · rw [if_neg a, if_neg (by omega)]; grind
      · rw [if_neg h]
        refine (sumT_congr (g := fun _ => 0) _ (fun c hc => ?_)).trans (sumT_zero _)
        rw [wC, bit_lo hc]
        simp only [Bool.false_eq_true, if_false]
        rw [if_neg (by omega)]
    · by_cases h : w ≤ k
      · rw [if_pos h, ← mdl_eq p i w (k - w)]
        unfold mdl
        rw [← sumT_mul]
        refine sumT_congr _ (fun c hc => ?_)
        rw [wC, gC, prC, bit_hi hc, wC_congr (d := c) i (fun j hj => bit_same hj), gC_congr (d := c) i (fun j hj => bit_same hj), prC_congr (d := c) i (fun j hj => bit_same hj)]
        simp only [if_true]
        by_cases a : wC c i = w ∧ gC c i = k - w
        · rw [if_pos a, if_pos (by omega)]
        · rw [if_neg a, if_neg (by omega)]; grind
      · rw [if_neg h]
        refine (sumT_congr (g := fun _ => 0) _ (fun c hc => ?_)).trans (sumT_zero _)
        rw [wC, gC, bit_hi hc, wC_congr (d := c) i (fun j hj => bit_same hj), gC_congr (d := c) i (fun j hj => bit_same hj)]
        simp only [if_true]
        rw [if_neg (by omega)]
/-- Many sums of parts, one part each. -/
theorem sum_parts {g : Nat → Nat} {f : Nat → Rat} (N : Nat) : ∀ m, sumT (fun k => sumT (fun c => if g c = k then f c else 0) N) m = sumT (fun c => if g c < m then f c else 0) N
  | 0 => by
    rw [sumT]
    exact ((sumT_congr (g := fun _ => 0) N (fun c _ => by rw [if_neg (by omega)])).trans (sumT_zero _)).symm
  | m + 1 => by
    rw [sumT, sum_parts N m, ← sumT_add]
    refine sumT_congr N (fun c _ => ?_)
    by_cases a : g c < m
    · rw [if_pos a, if_neg (by omega), if_pos (by omega)]; grind
    · by_cases b : g c = m
      · rw [if_neg a, if_pos b, if_pos (by omega)]; grind
      · rw [if_neg a, if_neg b, if_neg (by omega)]; grind
theorem sumW_eq (p : Nat → Rat) (n k : Nat) : ∀ w, sumW p n k w = sumT (fun v => dpQ p n v k) w
  | 0 => rfl
  | w + 1 => by rw [sumW, sumW_eq p n k w, sumT]
/-- The numbers of fit.Null are those of the model. -/
theorem nul_eq (p : Nat → Rat) (n k : Nat) : nulQ p n k = sumT (fun c => if gC c n = k then prC p c n else 0) (2 ^ n) := by
  unfold nulQ
  rw [sumW_eq]
  have e : sumT (fun v => dpQ p n v k) (n + 1) = sumT (fun v => sumT (fun c => if wC c n = v then (if gC c n = k then prC p c n else 0) else 0) (2 ^ n)) (n + 1) := by
    refine sumT_congr _ (fun v _ => ?_)
    rw [← mdl_eq]
    unfold mdl
    refine sumT_congr _ (fun c _ => ?_)
    by_cases a : wC c n = v
    · by_cases b : gC c n = k
      · rw [if_pos ⟨a, b⟩, if_pos a, if_pos b]
      · rw [if_neg (fun h => b h.2), if_pos a, if_neg b]
    · rw [if_neg (fun h => a h.1), if_neg a]
  rw [e, sum_parts]
  refine sumT_congr _ (fun c _ => ?_)
  rw [if_pos (by have := wC_le c n; omega)]
theorem pr_all (p : Nat → Rat) : ∀ n, sumT (fun c => prC p c n) (2 ^ n) = 1
  | 0 => by rw [show (2 : Nat) ^ 0 = 0 + 1 from rfl, sumT, sumT]; simp only [prC]; grind
  | n + 1 => by
    rw [Nat.pow_succ, Nat.mul_two, sumT_split]
    have e1 : sumT (fun c => prC p c (n + 1)) (2 ^ n) = 1 * (1 - p n) := by
      refine (sumT_congr (g := fun c => prC p c n * (1 - p n)) _ (fun c hc => ?_)).trans (by rw [sumT_mul, pr_all p n])
      rw [prC, bit_lo hc]
      simp
    have e2 : sumT (fun c => prC p (2 ^ n + c) (n + 1)) (2 ^ n) = 1 * p n := by
      refine (sumT_congr (g := fun c => prC p c n * p n) _ (fun c hc => ?_)).trans (by rw [sumT_mul, pr_all p n])
      rw [prC, bit_hi hc, prC_congr (d := c) n (fun j hj => bit_same hj)]
      simp
    rw [e1, e2]; grind
/-- The pattern as a list. -/
def bts (c n : Nat) : List Bool := (List.range n).map (fun i => c.testBit i)
theorem bts_length (c n : Nat) : (bts c n).length = n := by simp [bts]
theorem bts_get {c n i : Nat} (h : i < n) : (bts c n).getD i false = c.testBit i := by
  unfold bts
  rw [List.getD_eq_getElem?_getD, List.getElem?_map, List.getElem?_range h]; rfl
theorem bts_succ (c n : Nat) : bts c (n + 1) = bts c n ++ [c.testBit n] := by
  unfold bts
  rw [List.range_succ, List.map_append]; rfl
theorem gw_bts {c n : Nat} : ∀ i, i ≤ n → gw (bts c n) i = wC c i
  | 0, _ => rfl
  | i + 1, h => by rw [gw, wC, gw_bts i (by omega), bts_get (by omega)]
theorem gn_bts {c n : Nat} : ∀ i, i ≤ n → gn (bts c n) i = gC c i
  | 0, _ => rfl
  | i + 1, h => by rw [gn, gC, gn_bts i (by omega), gw_bts i (by omega), bts_get (by omega)]
theorem gC_le (c n : Nat) : gC c n ≤ n * n / 4 := by
  rw [← gn_bts n (Nat.le_refl _)]; exact gn_bound _ _
theorem prC_nonneg {p : Nat → Rat} {n : Nat} (h : ∀ i, i < n → 0 ≤ p i ∧ p i ≤ 1) (c : Nat) : ∀ i, i ≤ n → 0 ≤ prC p c i
  | 0, _ => by rw [prC]; decide
  | i + 1, hi => by
    have h1 := prC_nonneg h c i (by omega)
    have h2 := h i (by omega)
    rw [prC]
    refine Rat.mul_nonneg h1 ?_
    split
    · exact h2.1
    · have := h2.2; grind
theorem sumT_nonneg {f : Nat → Rat} : ∀ n, (∀ c, c < n → 0 ≤ f c) → 0 ≤ sumT f n
  | 0, _ => by rw [sumT]; exact Rat.le_refl
  | n + 1, h => by
    have h1 := sumT_nonneg n (fun c hc => h c (by omega))
    have h2 := h n (by omega)
    rw [sumT]
    grind
/-- It is a distribution. -/
theorem nul_valid {p : Nat → Rat} {n : Nat} (h : ∀ i, i < n → 0 ≤ p i ∧ p i ≤ 1) (h20 : n ≤ 20) : validQ (nulQ p n) (n * n / 4 + 1) = true := by
  have hnn : ∀ k, 0 ≤ nulQ p n k := fun k => by
    rw [nul_eq]
    refine sumT_nonneg _ (fun c _ => ?_)
    split
    · exact prC_nonneg h c n (Nat.le_refl _)
    · exact Rat.le_refl
  have hfree : ∀ m, negFree (nulQ p n) m = true := fun m => by
    induction m with
    | zero => rfl
    | succ m ih => rw [negFree, ih, decide_eq_false (by have := hnn m; grind)]; rfl
  have hsum : sumT (nulQ p n) (n * n / 4 + 1) = 1 := by
    have e : sumT (nulQ p n) (n * n / 4 + 1) = sumT (fun k => sumT (fun c => if gC c n = k then prC p c n else 0) (2 ^ n)) (n * n / 4 + 1) := sumT_congr _ (fun k _ => nul_eq p n k)
    rw [e, sum_parts, ← pr_all p n]
    refine sumT_congr _ (fun c _ => ?_)
    rw [if_pos (by have := gC_le c n; omega)]
  have h1 : n * n ≤ 20 * 20 := Nat.mul_le_mul h20 h20
  unfold validQ
  rw [hfree, hsum, decide_eq_true (show 1 ≤ n * n / 4 + 1 by omega), decide_eq_true (show n * n / 4 + 1 ≤ 121 by omega)]
  rfl
end Go.Proofs.Ytdbpjnjgjmfomaa

/- fit.Guttman and fit.Runs, and those of the reference, walked. -/
namespace Go.Proofs.Ytdbpjnjgjmfomaa
open Go.RowKit

set_option maxHeartbeats 2000000 in
set_option maxRecDepth 100000 in
theorem fit_Guttman (w : World) (A : Option Addr) (c : Nat) (x : List Bool) (h : Bs w A x) (hm : x.length ≤ 140737488351232) :
    Calls Try.prog 12 #[.slice A x.length c] w fun e w' => e = .returned (.tuple (if 20 < x.length then #[.int .i64 0, .int .i64 5] else #[.int .i64 (gn x x.length), .int .i64 0])) ∧ Drawn w w' := by
  obtain ⟨n, hn⟩ : ∃ n, x.length = n := ⟨_, rfl⟩
  rw [hn] at hm ⊢
  replace hn := As.mk hn
  go_enter Try.func12, Try.ntmps12
  by_cases hb : 20 < n
  · go_wp2_with fail
    go_ret2
    exact ⟨rfl, by repeat (first | exact Drawn.refl _ | apply Drawn.step)⟩
  go_wp2_with fail
  go_loopw [4, 5, 13] (fun v4 v5 v13 wr => ∃ k : Nat, k ≤ n ∧ v13 = .int .i64 k ∧ v4 = .int .i64 (gw x k) ∧ v5 = .int .i64 (gn x k) ∧ Drawn w wr) (fun _ _ v13 _ => (n - intOf v13).toNat)
  case atStart => exact ⟨0, by omega, rfl, rfl, rfl, by repeat (first | exact Drawn.refl _ | apply Drawn.step)⟩
  case round =>
    obtain ⟨k, hk, rfl, rfl, rfl, hd⟩ := hrel
    by_cases hlt : k < n
    · obtain ⟨ad, hA, hc⟩ := (h.below hd.below).at k (by have := hn.out; omega)
      subst hA
      have hck := hc k (by have := hn.out; omega)
      have hw := gw_le x k
      have hg := gn_small x k (by omega)
      have hW : gw x (k + 1) = if x.getD k false = true then gw x k else gw x k + 1 := rfl
      have hG : gn x (k + 1) = if x.getD k false = true then gn x k + gw x k else gn x k := rfl
      clear hc h
      generalize hgw1 : gw x (k + 1) = W1 at *
      generalize hgn1 : gn x (k + 1) = G1 at *
      replace hgw1 := As.mk hgw1
      replace hgn1 := As.mk hgn1
      generalize hgw0 : gw x k = W0 at *
      generalize hgn0 : gn x k = G0 at *
      replace hgw0 := As.mk hgw0
      replace hgn0 := As.mk hgn0
      cases hX : x.getD k false
      · rw [hX] at hck hW hG
        replace hX := As.mk hX
        simp only [Bool.false_eq_true, if_false] at hW hG
        go_wp2_with fail
        go_roundw
        case rel => exact ⟨k + 1, by omega, by go_num, by rw [hgw1.out]; exact val_int (by omega), by rw [hgn1.out]; exact val_int (by omega), by repeat (first | exact hd | apply Drawn.step)⟩
        case measure => simp [intOf]; omega
      · rw [hX] at hck hW hG
        replace hX := As.mk hX
        simp only [if_true] at hW hG
        go_wp2_with fail
        go_roundw
        case rel => exact ⟨k + 1, by omega, by go_num, by rw [hgw1.out]; exact val_int (by omega), by rw [hgn1.out]; exact val_int (by omega), by repeat (first | exact hd | apply Drawn.step)⟩
        case measure => simp [intOf]; omega
    · obtain rfl : k = n := by omega
      go_wp2_with fail
      go_ret2
      exact ⟨rfl, by repeat (first | exact hd | apply Drawn.step)⟩

set_option maxHeartbeats 4000000 in
set_option maxRecDepth 100000 in
theorem fit_Runs (w : World) (A : Option Addr) (c : Nat) (x : List Bool) (h : Bs w A x) (hm : x.length ≤ 140737488351232) :
    Calls Try.prog 14 #[.slice A x.length c] w fun e w' => e = .returned (.int .i64 (lo x x.length)) ∧ Drawn w w' := by
  obtain ⟨n, hn⟩ : ∃ n, x.length = n := ⟨_, rfl⟩
  rw [hn] at hm ⊢
  replace hn := As.mk hn
  go_enter Try.func14, Try.ntmps14
  go_wp2_with fail
  go_loopw [3, 4, 8] (fun v3 v4 v8 wr => ∃ k : Nat, k ≤ n ∧ v8 = .int .i64 k ∧ v3 = .int .i64 (lo x k) ∧ v4 = .int .i64 (ru x k) ∧ Drawn w wr) (fun _ _ v8 _ => (n - intOf v8).toNat)
  case atStart => exact ⟨0, by omega, rfl, rfl, rfl, by repeat (first | exact Drawn.refl _ | apply Drawn.step)⟩
  case round =>
    obtain ⟨k, hk, rfl, rfl, rfl, hd⟩ := hrel
    by_cases hlt : k < n
    · obtain ⟨ad, hA, hc⟩ := (h.below hd.below).at k (by have := hn.out; omega)
      subst hA
      have hr := ru_le x k
      have hl := lo_le x k
      have hR : ru x (k + 1) = if 0 < k ∧ (x.getD k false != x.getD (k - 1) false) = true then 1 else ru x k + 1 := rfl
      have hL : lo x (k + 1) = max (lo x k) (ru x (k + 1)) := rfl
      generalize hr1 : ru x (k + 1) = R1 at *
      generalize hl1 : lo x (k + 1) = L1 at *
      replace hr1 := As.mk hr1
      replace hl1 := As.mk hl1
      clear h
      rcases Nat.eq_zero_or_pos k with rfl | hp
      · clear hc
        have hr0 : ru x 0 = 0 := rfl
        have hl0 : lo x 0 = 0 := rfl
        rw [hr0] at hr hR ⊢
        rw [hl0] at hl hL ⊢
        simp at hR
        subst hR
        simp at hL
        subst hL
        go_wp2_with fail
        go_quiet (fail)
        go_wp2_with fail
        go_roundw
        case rel => exact ⟨1, by omega, by go_num, by rw [hl1.out]; rfl, by rw [hr1.out]; rfl, by repeat (first | exact hd | apply Drawn.step)⟩
        case measure => simp [intOf]; omega
      · have hX := hc k (by have := hn.out; omega)
        have hY := hc (k - 1) (by have := hn.out; omega)
        clear hc
        obtain ⟨J, hJ⟩ : ∃ J : Int, J = (k : Int) - 1 := ⟨_, rfl⟩
        have hw1 : IntKind.i64.wrap ((k : Int) - 1) = J := by rw [IntWalk.i64_in _ (by omega)]; omega
        rw [show k - 1 = J.toNat by omega] at hY
        rw [show k - 1 = J.toNat by omega] at hR
        have b0 : (0 ≤ J) = True := eq_true (by omega)
        have b1 : (J < (n : Int)) = True := eq_true (by omega)
        have b2 : ((k : Int) < (n : Int)) = True := eq_true (by omega)
        have b3 : (0 ≤ (k : Int)) = True := eq_true (by omega)
        have b4 : ((k : Int) == 0) = false := beq_eq_false_iff_ne.2 (by omega)
        have hR' : R1 = if (x.getD k false != x.getD J.toNat false) = true then 1 else ru x k + 1 := by rw [hR]; simp [hp]
        clear hR
        replace hJ := As.mk hJ
        generalize x.getD k false = X at *
        generalize x.getD J.toNat false = Y at *
        generalize hr0 : ru x k = R0 at *
        generalize hl0 : lo x k = L0 at *
        replace hr0 := As.mk hr0
        replace hl0 := As.mk hl0
        simp only [bne] at hR'
        cases hXY : (X == Y)
        · simp [hXY] at hR'
          go_wp2_with fail
          go_quiet (fail)
          go_wp2_with fail
          go_roundw
          case rel => exact ⟨k + 1, by omega, by go_num, by rw [hl1.out]; exact val_int (by omega), by rw [hr1.out]; exact val_int (by omega), by repeat (first | exact hd | apply Drawn.step)⟩
          case measure => simp [intOf]; omega
        · simp [hXY] at hR'
          go_wp2_with fail
          go_quiet (fail)
          go_wp2_with fail
          go_roundw
          case rel => exact ⟨k + 1, by omega, by go_num, by rw [hl1.out]; exact val_int (by omega), by rw [hr1.out]; exact val_int (by omega), by repeat (first | exact hd | apply Drawn.step)⟩
          case measure => simp [intOf]; omega
    · obtain rfl : k = n := by omega
      go_wp2_with fail
      go_ret
      exact ⟨rfl, by repeat (first | exact hd | apply Drawn.step)⟩
end Go.Proofs.Ytdbpjnjgjmfomaa

/- Rows of bools of the call's own. -/
namespace Go.Proofs.Ytdbpjnjgjmfomaa
open Go.RowKit

def bvs (l : List Bool) : List Value := l.map Value.bool
theorem bvs_length (l : List Bool) : (bvs l).length = l.length := by simp [bvs]
theorem bvs_get (l : List Bool) (j : Nat) (h : j < l.length) : (bvs l)[j]? = some (.bool (l.getD j false)) := by
  simp [bvs, List.getElem?_eq_getElem h, List.getD_eq_getElem?_getD]
theorem bvs_append (a b : List Bool) : bvs (a ++ b) = bvs a ++ bvs b := by simp [bvs]
abbrev OwnB (w : World) (B : Nat) (v : Value) (l : List Bool) : Prop := w.ownsRow B 4 1 v l.length (bvs l)
theorem OwnB.kept {w w1 : World} {B : Nat} {v : Value} {l : List Bool} (h : OwnB w B v l) (hm : ∀ k, v.ownBlock = some k → w1.heap[k]? = w.heap[k]?) : OwnB w1 B v l := by
  refine ⟨h.1, ?_⟩
  rcases h.2 with h2 | ⟨g, cap, cur, rfl, hg, hh, r⟩
  · exact .inl h2
  · exact .inr ⟨g, cap, cur, rfl, hg, (hm g rfl).trans hh, r⟩
theorem OwnB.below {w w1 : World} {B : Nat} {v : Value} {l : List Bool} (h : OwnB w B v l) (hb : Below w.heap.size w w1) : OwnB w1 B v l :=
  h.kept (fun k hk => hb.block k (World.ownsRow.lt h k hk).2)
theorem OwnB.drewN {w : World} {B : Nat} {v : Value} {l : List Bool} (h : OwnB w B v l) (n : Nat) : OwnB (w.drewN n) B v l := h.below ((Below.refl _ _).drewsN n)
theorem OwnB.lower {w : World} {B B' : Nat} {v : Value} {l : List Bool} (h : OwnB w B v l) (hb : B' ≤ B) : OwnB w B' v l := by
  refine ⟨h.1, ?_⟩
  rcases h.2 with h2 | ⟨g, cap, cur, rfl, hg, r⟩
  · exact .inl h2
  · exact .inr ⟨g, cap, cur, rfl, Nat.le_trans hb hg, r⟩
theorem OwnB.lit (w : World) (B : Nat) (l : List Bool) (hb : B ≤ w.heap.size) (hm : l.length ≤ 9223372036854775807) : OwnB (w.alloc (.cells (bvs l).toArray 4)) B (.slice (some ⟨w.heap.size, 0, none⟩) l.length l.length) l := by
  have h := World.ownsRow_lit (base := B) (e := 4) (size := 1) w (bvs l).toArray l.length hb (by simpa [maxLen] using hm) (by simp [bvs])
  simpa using h
theorem OwnB.made (w : World) (B n : Nat) (hb : B ≤ w.heap.size) (hm : n ≤ 9223372036854775807) : OwnB (w.alloc (.cells (madeCells #[.bool false] n) 4)) B (.slice (some ⟨w.heap.size, 0, none⟩) n n) (List.replicate n false) := by
  have h := World.ownsRow_lit (base := B) (e := 4) (size := 1) w (madeCells #[.bool false] n) n hb (by simpa [maxLen] using hm) (by simp [size_madeCells])
  rw [toList_madeCells_one] at h
  have e : List.replicate n (Value.bool false) = bvs (List.replicate n false) := by simp [bvs]
  rw [e] at h
  simpa [OwnB] using h
theorem make_bools {P : Program} (t : TypeId) (ht : P.underlying t = some (.slice 4)) (hinfo : (P.info? 4).map (fun i => (i.zero, i.size, i.bytes)) = some (some (.bool false), 1, 1)) (l c : Nat) (hlc : l ≤ c) (hb : c ≤ 17592186044416) (W : World) :
    (Instr.makeSlice t (.int .i64 (l : Int)) (.int .i64 (c : Int))).run P W = .ok (.slice (some ⟨W.heap.size, 0, none⟩) l c) (W.alloc (.cells (madeCells #[.bool false] c) 4)) := by
  obtain ⟨i0, hi, hzz⟩ := Option.map_eq_some_iff.1 hinfo
  simp only [Prod.mk.injEq] at hzz
  obtain ⟨hz0, hz1, hz2⟩ := hzz
  have := run_make (P := P) W t 4 i0 (.bool false) ht hi hz0 .i64 .i64 (l : Int) (c : Int) (by omega) (by omega) (by rw [hz2]; omega) (by omega)
  rw [this, hz1]
  simp [Value.cells]
/-- A row of one limb and more lies in a block of its own. -/
theorem OwnB.form {w : World} {B : Nat} {v : Value} {l : List Bool} (h : OwnB w B v l) (h0 : 0 < l.length) : ∃ g cap, v = .slice (some ⟨g, 0, none⟩) l.length cap ∧ B ≤ g ∧ g < w.heap.size := by
  rcases h.2 with ⟨rfl, h1⟩ | ⟨g, cap, cur, rfl, hB, hh, _⟩
  · omega
  · exact ⟨g, cap, rfl, hB, (Array.getElem?_eq_some_iff.1 hh).1⟩
theorem OwnB.slice {w : World} {B : Nat} {v : Value} {l : List Bool} (h : OwnB w B v l) : ∃ A c, v = .slice A l.length c := by
  rcases h.2 with ⟨rfl, h1⟩ | ⟨g, cap, cur, rfl, _⟩
  · exact ⟨none, 0, by rw [h1]⟩
  · exact ⟨_, cap, rfl⟩
theorem OwnB.cell {w : World} {B g cap n : Nat} {l : List Bool} (h : OwnB w B (.slice (some ⟨g, 0, none⟩) n cap) l) (i : Nat) (hi : i < l.length) : w.cell? ⟨g, i, none⟩ = some (.bool (l.getD i false)) ∧ w.frozen? ⟨g, i, none⟩ = false := by
  rcases h.2 with ⟨h', _⟩ | ⟨g', cap', cur, h', hB, hh, hn, hm, hs, ht⟩
  · cases h'
  · injection h' with h1 h2 h3
    injection h1 with h1
    injection h1 with h1
    subst h1 h2 h3
    have h' : OwnB w B (.slice (some ⟨g, 0, none⟩) l.length cap) l := ⟨h.1, .inr ⟨g, cap, cur, rfl, hB, hh, hn, hm, hs, ht⟩⟩
    refine ⟨?_, World.ownsRow.frozenAt h' i⟩
    rw [World.ownsRow.cellAt h' i (by omega), bvs_get l i hi]
theorem OwnB.store {w : World} {B g cap n : Nat} {l : List Bool} (h : OwnB w B (.slice (some ⟨g, 0, none⟩) n cap) l) (i : Nat) (x : Bool) : OwnB (w.setCell ⟨g, i, none⟩ (.bool x)) B (.slice (some ⟨g, 0, none⟩) n cap) (l.set i x) := by
  obtain ⟨A, c, e⟩ := OwnB.slice h
  injection e with e1 e2 e3
  subst e2
  have := (World.ownsRow.stored h i (.bool x)).1
  rw [show (bvs l).set i (.bool x) = bvs (l.set i x) from by simp [bvs, List.map_set]] at this
  simpa [OwnB] using this
end Go.Proofs.Ytdbpjnjgjmfomaa

/- Appending an answer to a row of the call's own; the bits of a pattern. -/
namespace Go.Proofs.Ytdbpjnjgjmfomaa
open Go.RowKit

def bitB : Bool := (List.range 64).all fun c => (List.range 6).all fun i => (bits BinOp.and IntKind.i64 ((c : Int) / 2 ^ i) 1 == 1) == c.testBit i
theorem bitB_true : bitB = true := by decide +kernel
theorem bit_at {c i : Nat} (hc : c < 64) (hi : i < 6) : (bits BinOp.and IntKind.i64 ((c : Int) / 2 ^ i) 1 == 1) = c.testBit i := by
  have h := bitB_true
  unfold bitB at h
  have h1 := List.all_eq_true.1 h c (List.mem_range.2 hc)
  exact eq_of_beq (List.all_eq_true.1 h1 i (List.mem_range.2 hi))
section
variable {P : Program} {ops : Array Oper} {rest : List Oper} {o : Oper} {a : Act} {Q : Exit → Act → World → Prop}
/-- append(v, y) of one answer, behind 'at_builtin': the world is the old one and the box of y. -/
theorem append_bool {w0 W : World} (B : Nat) (hgd : o.guard = none) (s x : Operand) (t : TypeId) (xs : List Bool) (y : Bool)
    (ho : o.op = .call { callee := .builtin .append, args := #[s, x], argTypes := #[t, t] })
    (ht : P.underlying t = some (.slice 4)) (hinfo : (P.info? 4).map (fun i => (i.zero, i.size, i.bytes)) = some (some (.bool false), 1, 1))
    (v : Value) (hs : a.eval s = v) (hx : a.eval x = .slice (some ⟨W.heap.size, 0, none⟩) 1 1)
    (HO : OwnB W B v xs) (HB : Below B w0 W) (hbase : B ≤ W.heap.size) (hl : xs.length + 1 ≤ 17592186044416)
    (h : ∀ v1 w1, OwnB w1 B v1 (xs ++ [y]) → Below B w0 w1 → W.grownBy w1 v.ownBlock → (v1.ownBlock = v.ownBlock ∨ ∃ b, v1.ownBlock = some b ∧ W.heap.size ≤ b) → wpList P ops Q rest (a.put o.dst v1) w1) :
    wpList P ops Q (o :: rest) a (W.alloc (.cells #[.bool y] 4)) := by
  obtain ⟨i0, hi, hzz⟩ := Option.map_eq_some_iff.1 hinfo
  simp only [Prod.mk.injEq] at hzz
  obtain ⟨hz0, hz1, hz2⟩ := hzz
  refine wpList_append_own_at (W.alloc (.cells #[.bool y] 4)) hgd s x t ho B 4 i0 (.bool false) 1 1 ht hi hz0 hz1 hz2 rfl (by omega) v xs.length (bvs xs) hs (HO.below ((Below.refl _ _).alloc (Nat.le_refl _) _)) ⟨W.heap.size, 0, none⟩ 1 1 [.bool y] hx rfl
    (World.news_of_block (cs := #[.bool y]) (t := 4) (fr := (0, 0)) (heap_alloc_new W _)) (by simp [Value.oneCell']) (by simp only [maxLen]; omega) (by omega) (by simp; omega) ?_
  intro v1 w1 hown hg _ hat
  refine h v1 w1 (by simpa [OwnB, bvs] using hown) ((HB.alloc hbase _).grown hg (by simp; omega) (fun k hk => (World.ownsRow.lt HO k hk).1)) (World.grownBy.trans (World.grownBy_alloc W _ _) hg) ?_
  rcases hat with hat | hat
  · exact .inl hat
  · exact .inr ⟨_, hat, by simp⟩
end
end Go.Proofs.Ytdbpjnjgjmfomaa
