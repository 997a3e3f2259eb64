/- fit.check; fit.Null where it refuses. -/
import Derived.Test.YtdbpjnjgjmfomaaRsV
namespace Go.Proofs.Ytdbpjnjgjmfomaa
open Go.RowKit

set_option maxHeartbeats 8000000 in
set_option maxRecDepth 100000 in
theorem fit_check {S : Nat → Prop} {A : Option Addr} {c : Nat} {es : List Rt} (w : World) (hv : RsV S w A es) (hm : es.length ≤ 140737488351232) (hl : Short es) :
    Calls Try.prog 62 #[.slice A es.length c] w fun e w' => e = .returned (.int .i64 (ckE es)) ∧ Below w.heap.size w w' := by
  obtain ⟨n, hn⟩ : ∃ n, es.length = n := ⟨_, rfl⟩
  obtain ⟨E, hE⟩ : ∃ E, ckE es = E := ⟨_, rfl⟩
  have hE1 : E = if 20 < n then 5 else if es.any badE then 3 else 0 := by rw [← hE, ← hn]; rfl
  have HR : As (∀ W, Below w.heap.size w W → ∀ k, k < n → ∃ ad, A = some ad ∧ ∃ N U k' c B m d, W.cell? (ad.add (k * 3)) = some (.bool N) ∧ W.cell? ⟨(ad.add (k * 3)).block, (ad.add (k * 3)).off + 1, none⟩ = some (.slice U k' c) ∧ W.cell? ⟨(ad.add (k * 3)).block, (ad.add (k * 3)).off + 2, none⟩ = some (.slice B m d) ∧ (n ≤ 20 → RatI S W (.agg #[.bool N, .slice U k' c, .slice B m d]) (qe (es.getD k rt0)) 1000)) := ⟨fun W hb k hk => by
    obtain ⟨ad, e, N, U, k', c, B, m, d, h0, h1, h2, _, _, h3⟩ := (hv.below hb).at k (by omega)
    refine ⟨ad, e, N, U, k', c, B, m, d, h0, h1, h2, fun h20 => h3.le ?_⟩
    have := hl (by omega) k (by omega)
    omega⟩
  have hdr : As (∀ k, k < n → (es.drop k).any badE = (badE (es.getD k rt0) || (es.drop (k + 1)).any badE)) := ⟨fun k hk => any_drop es badE rt0 k (by omega)⟩
  have hdn : As ((es.drop n).any badE = false) := ⟨by rw [← hn]; simp⟩
  rw [hn] at hm ⊢
  rw [hE]
  clear hv hl hE hn
  go_enter Try.func62, Try.ntmps62
  by_cases hbig : 20 < n
  · have hE2 := As.mk (show E = 5 by rw [hE1, if_pos hbig])
    clear hE1
    go_wp2_with fail
    go_ret
    exact ⟨ret_int hE2.out.symm, Below.refl _ _⟩
  rw [if_neg hbig] at hE1
  replace hE1 := As.mk hE1
  go_wp2_with fail
  go_loopw [4, 10] (fun _ v10 wr => ∃ k : Nat, k ≤ n ∧ v10 = .int .i64 k ∧ As (es.any badE = (es.drop k).any badE) ∧ Below w.heap.size w wr) (fun _ v10 _ => (n - intOf v10).toNat)
  case atStart => exact ⟨0, by omega, rfl, ⟨by simp⟩, Below.refl _ _⟩
  case round =>
    obtain ⟨k, hk, rfl, hI, hd⟩ := hrel
    by_cases hlt : k < n
    · obtain ⟨ad, hA, ppN, ppA, ppk, ppc, ppB, ppm, ppd, h0, h1, h2, hI0⟩ := HR.out _ hd k hlt
      subst hA
      replace hI0 := hI0 (by omega)
      have hst := As.mk (hdr.out k hlt)
      have hbe : As (badE (es.getD k rt0) = (decide (qe (es.getD k rt0) < 0) || decide (1 < qe (es.getD k rt0)))) := ⟨rfl⟩
      generalize qe (es.getD k rt0) = q at *
      have p1 := eq_true (show 0 ≤ (k : Int) by omega)
      have p2 := eq_true (show (k : Int) < (n : Int) by omega)
      have hb6 := (Below.refl wr.heap.size wr).alloc (Nat.le_refl _) (Obj.cells #[.bool ppN, .slice ppA ppk ppc, .slice ppB ppm ppd] 40)
      go_wp2_with fail
      obtain ⟨W6, hW6⟩ : ∃ W6, wr.alloc (Obj.cells #[.bool ppN, .slice ppA ppk ppc, .slice ppB ppm ppd] 40) = W6 := ⟨_, rfl⟩
      rw [hW6] at hb6 ⊢
      have c0 : W6.cell? ⟨wr.heap.size, 0, none⟩ = some (.bool ppN) := by subst hW6; simp [go_sem]
      have c1 : W6.cell? ⟨wr.heap.size, 1, none⟩ = some (.slice ppA ppk ppc) := by subst hW6; simp [go_sem]
      have c2 : W6.cell? ⟨wr.heap.size, 2, none⟩ = some (.slice ppB ppm ppd) := by subst hW6; simp [go_sem]
      have hB := hd.after hd.size hb6
      replace hI0 := hI0.below hb6
      clear hW6 hb6 h0 h1 h2
      have hdr6 := (Below.refl W6.heap.size W6).drew
      replace c0 := cell_below c0 hdr6
      replace c1 := cell_below c1 hdr6
      replace c2 := cell_below c2 hdr6
      replace hI0 := hI0.below hdr6
      replace hB := hB.after hB.size hdr6
      clear hdr6
      generalize wr.heap.size = g4 at *
      have hsz : 1000 + rz 1 ≤ 35184372088828 := by have := rz_on; omega
      by_cases hneg : q < 0
      · obtain ⟨s, hs⟩ : ∃ s, cmpR q 0 = s := ⟨_, rfl⟩
        have hs0 : (s < 0) = True := eq_true (by rw [← hs, cmpR_neg hneg]; omega)
        replace hs := As.mk hs
        have ht : As (cmpR q 1 = cmpR q 1) := ⟨rfl⟩
        have R := As.mk (show E = 3 by rw [hE1.out, hI.out, hst.out, hbe.out, decide_eq_true hneg]; rfl)
        clear hE1 hI hst hbe hneg
        go_region_with (first
          | (go_at_call 32; refine (rat_Sign _ hI0 (by omega) (by omega)).mono ?_; rw [hs.out]; rintro e w7 ⟨rfl, hb⟩; have c0' := cell_below c0 hb; have c1' := cell_below c1 hb; have c2' := cell_below c2 hb; have hI1 := hI0.below hb; have hB7 := hB.after hB.size hb; clear hb)
          | (go_at_call 63; refine (fit_whole _ 1 (by omega) (by omega)).mono ?_; rw [one_fr]; rintro e w8 ⟨r8, rfl, hW, hb⟩; have c0'' := cell_below c0' hb; have c1'' := cell_below c1' hb; have c2'' := cell_below c2' hb; have hI2 := hI1.below hb; have hB8 := hB7.after hB7.size hb; clear hb)
          | (go_at_call 33; refine (rat_Cmp _ hI2 hW.i (by omega) (rz_pos _) hsz).mono ?_; rw [ht.out]; rintro e w9 ⟨rfl, hb⟩; have hB9 := hB8.after hB8.size hb))
        all_goals
          go_wp2_with fail
          go_ret
          exact ⟨ret_int R.out.symm, hB7⟩
      · obtain ⟨s, hs⟩ : ∃ s, cmpR q 0 = s := ⟨_, rfl⟩
        have hs0 : (s < 0) = False := eq_false (by rw [← hs]; exact Int.not_lt.2 (cmpR_nonneg hneg))
        replace hs := As.mk hs
        by_cases hbig1 : 1 < q
        · have ht : As (cmpR q 1 = 1) := ⟨cmpR_pos hbig1⟩
          have R := As.mk (show E = 3 by rw [hE1.out, hI.out, hst.out, hbe.out, decide_eq_true hbig1, Bool.or_true]; rfl)
          clear hE1 hI hst hbe hneg hbig1
          go_region_with (first
            | (go_at_call 32; refine (rat_Sign _ hI0 (by omega) (by omega)).mono ?_; rw [hs.out]; rintro e w7 ⟨rfl, hb⟩; have c0' := cell_below c0 hb; have c1' := cell_below c1 hb; have c2' := cell_below c2 hb; have hI1 := hI0.below hb; have hB7 := hB.after hB.size hb; clear hb)
            | (go_at_call 63; refine (fit_whole _ 1 (by omega) (by omega)).mono ?_; rw [one_fr]; rintro e w8 ⟨r8, rfl, hW, hb⟩; have c0'' := cell_below c0' hb; have c1'' := cell_below c1' hb; have c2'' := cell_below c2' hb; have hI2 := hI1.below hb; have hB8 := hB7.after hB7.size hb; clear hb)
            | (go_at_call 33; refine (rat_Cmp _ hI2 hW.i (by omega) (rz_pos _) hsz).mono ?_; rw [ht.out]; rintro e w9 ⟨rfl, hb⟩; have hB9 := hB8.after hB8.size hb))
          all_goals
            go_wp2_with fail
            go_ret
            exact ⟨ret_int R.out.symm, hB9⟩
        · obtain ⟨u, ht⟩ : ∃ u, cmpR q 1 = u := ⟨_, rfl⟩
          have ht0 : (0 < u) = False := eq_false (by rw [← ht]; exact Int.not_lt.2 (cmpR_nonpos hbig1))
          replace ht := As.mk ht
          have R : As (es.any badE = (es.drop (k + 1)).any badE) := ⟨by rw [hI.out, hst.out, hbe.out, decide_eq_false hneg, decide_eq_false hbig1]; rfl⟩
          clear hI hst hbe hneg hbig1
          go_region_with (first
            | (go_at_call 32; refine (rat_Sign _ hI0 (by omega) (by omega)).mono ?_; rw [hs.out]; rintro e w7 ⟨rfl, hb⟩; have c0' := cell_below c0 hb; have c1' := cell_below c1 hb; have c2' := cell_below c2 hb; have hI1 := hI0.below hb; have hB7 := hB.after hB.size hb; clear hb)
            | (go_at_call 63; refine (fit_whole _ 1 (by omega) (by omega)).mono ?_; rw [one_fr]; rintro e w8 ⟨r8, rfl, hW, hb⟩; have c0'' := cell_below c0' hb; have c1'' := cell_below c1' hb; have c2'' := cell_below c2' hb; have hI2 := hI1.below hb; have hB8 := hB7.after hB7.size hb; clear hb)
            | (go_at_call 33; refine (rat_Cmp _ hI2 hW.i (by omega) (rz_pos _) hsz).mono ?_; rw [ht.out]; rintro e w9 ⟨rfl, hb⟩; have hB9 := hB8.after hB8.size hb))
          all_goals
            go_wp2_with fail
            go_roundw
            case rel => exact ⟨k + 1, by omega, by go_num, R, hB9⟩
            case measure => simp [intOf]; omega
    · obtain rfl : k = n := by omega
      have R := As.mk (show E = 0 by rw [hE1.out, hI.out, hdn.out]; rfl)
      clear hE1 hI
      go_wp2_with fail
      go_ret
      exact ⟨ret_int R.out.symm, hd⟩

set_option maxHeartbeats 8000000 in
set_option maxRecDepth 100000 in
theorem fit_Null_no {S : Nat → Prop} {A : Option Addr} {c : Nat} {es : List Rt} (w : World) (hv : RsV S w A es) (hm : es.length ≤ 140737488351232) (hl : Short es) (hE : ckE es ≠ 0) :
    Calls Try.prog 31 #[.slice A es.length c] w fun e w' => e = .returned (.tuple #[.slice none 0 0, .int .i64 (ckE es)]) ∧ Below w.heap.size w w' := by
  have HC := As.mk (fit_check (c := c) w hv hm hl)
  generalize ckE es = E at *
  have hEb : (E == 0) = false := beq_eq_false_iff_ne.2 hE
  clear hv hm hl
  generalize es.length = n at *
  go_enter Try.func31, Try.ntmps31
  go_wp2_with fail
  refine HC.out.mono ?_
  rintro e w1 ⟨rfl, hb⟩
  go_wp2_with fail
  go_ret2
  exact ⟨rfl, hb⟩
end Go.Proofs.Ytdbpjnjgjmfomaa
