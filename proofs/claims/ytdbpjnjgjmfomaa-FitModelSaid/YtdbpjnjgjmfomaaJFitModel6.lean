/- Joined texts: LawModB, LawModC, RatsOpen. -/
import Derived.Test.YtdbpjnjgjmfomaaJFitModel5
import Derived.ChangeArms
import Derived.ChangeSame
import Derived.ChangeSlices
import Derived.Deep.Slices
/- The law of the model, walked where fit.Null answers. -/
namespace Go.Proofs.Ytdbpjnjgjmfomaa
open Go.RowKit

theorem nul_rz {p : Nat → Rat} {n : Nat} (h6 : n ≤ 6) (hp : ∀ i, i < n → rz (p i) ≤ 1000) (k : Nat) : rz (nulQ p n k) ≤ 3000000000 := by
  have h1 := dp_rz hp n (Nat.le_refl _)
  have h2 : bz n ≤ 200000 := by
    rcases (by omega : n = 0 ∨ n = 1 ∨ n = 2 ∨ n = 3 ∨ n = 4 ∨ n = 5 ∨ n = 6) with rfl | rfl | rfl | rfl | rfl | rfl | rfl <;> decide
  have h3 := sum_rz (z := 200000) (fun r k => Nat.le_trans (h1 r k) h2) k (n + 1)
  have h4 : (n + 1) * (200000 + 1) ≤ 7 * (200000 + 1) := Nat.mul_le_mul_right _ (by omega)
  unfold nulQ
  omega

theorem two_wrap {n : Nat} (h : n ≤ 6) : wrap64 ((2 : Int) ^ n) = ((2 ^ n : Nat) : Int) := by
  have h1 : 2 ^ n ≤ 64 := Nat.le_trans (Nat.pow_le_pow_right (by omega) h) (by decide)
  rw [show (2 : Int) ^ n = ((2 ^ n : Nat) : Int) by simp]
  have h2 : ∀ x : Nat, x ≤ 64 → wrap64 (x : Int) = (x : Int) := fun x hx => w64n _ (by omega) (by omega)
  exact h2 _ h1
/-- What the law adds up for g errors over the first c patterns. -/
def wantT (p : Nat → Rat) (n c g : Nat) : Rat := sumT (fun d => if gC d n = g then prC p d n else 0) c

theorem OwnB.nil (w : World) (B : Nat) : OwnB w B (.slice none 0 0) [] := ⟨rfl, .inl ⟨rfl, rfl⟩⟩
theorem pr_rz {p : Nat → Rat} {n : Nat} (hp : ∀ i, i < n → rz (p i) ≤ 2) (c : Nat) : ∀ i, i ≤ n → rz (prC p c i) ≤ 2 + 5 * i
  | 0, _ => by rw [prC]; exact rz_one'
  | i + 1, hi => by
    rw [prC]
    have h1 := pr_rz hp c i (by omega)
    have h2 := hp i (by omega)
    have h3 := rz_sub 1 (p i)
    have h4 := rz_one'
    refine Nat.le_trans (rz_mul _ _) ?_
    split <;> omega

theorem OwnB.bs {w : World} {B n c : Nat} {v : Value} {l : List Bool} {A : Option Addr} (h : OwnB w B v l) (e : v = .slice A n c) : Bs w A l := by
  rcases h.2 with ⟨rfl, h0⟩ | ⟨g, cap, cur, rfl, hB, hh, r⟩
  · intro hne
    exact absurd (List.length_eq_zero_iff.1 h0) hne
  · injection e with e1 e2 e3
    subst e1
    exact fun _ => ⟨⟨g, 0, none⟩, rfl, fun i hi => by rw [add_zero_off]; exact (h.cell i hi).1⟩
theorem want_next (p : Nat → Rat) (n c : Nat) : ∀ g, wantT p n (c + 1) g = wantT p n c g + if gC c n = g then prC p c n else 0 := fun _ => rfl
theorem want_rz {p : Nat → Rat} {n : Nat} (hp : ∀ i, i < n → rz (p i) ≤ 2) (h6 : n ≤ 6) (c g : Nat) (hc : c ≤ 64) : rz (wantT p n c g) ≤ 10000 := by
  have h1 := sumT_rz (T := fun d => if gC d n = g then prC p d n else 0) (m := c) (z := 32) (fun k _ => by
    show rz (if gC k n = g then prC p k n else 0) ≤ 32
    split
    · have := pr_rz hp k n (Nat.le_refl _); omega
    · have := rz_zero; omega) c (Nat.le_refl _)
  have h2 : c * (32 + 1) ≤ 64 * 33 := Nat.mul_le_mul hc (by omega)
  unfold wantT
  omega
/-- The box beside a row of answers that grows. -/
theorem grow_row {w w1 : World} {pb : Nat} {v v1 : Value} {l : List Bool} {T : Nat → Rat} (h : RowQ (fun q => q ≠ pb ∧ v.ownBlock ≠ some q) w pb 1 T) (hX : OwnB w (pb + 1) v l) (hg : w.grownBy w1 v.ownBlock) (hat : v1.ownBlock = v.ownBlock ∨ ∃ b, v1.ownBlock = some b ∧ w.heap.size ≤ b) (hp : pb + 1 ≤ w.heap.size) :
    RowQ (fun q => q ≠ pb ∧ v1.ownBlock ≠ some q) w1 pb 1 T := by
  have hne : v.ownBlock ≠ some pb := fun e => by have := (World.ownsRow.lt hX pb e).1; omega
  have h0 := h.mono (U := fun q => q ≠ pb ∧ v.ownBlock ≠ some q ∧ q < w.heap.size) (fun k hk hlt => ⟨hk.1, hk.2, hlt⟩) (fun e => e.1 rfl)
  refine (h0.step hg.size (hg.block pb (by omega) (fun e => hne e.symm)) (fun k hk hlt => hg.block k hlt (fun e => hk.2.1 e.symm))).mono (fun k hk _ => ⟨hk.1, fun e => ?_⟩) (fun e => e.1 rfl)
  rcases hat with h1 | ⟨b, h1, h2⟩
  · exact hk.2.1 (h1.symm.trans e)
  · rw [h1] at e; injection e with e; omega

set_option maxHeartbeats 16000000 in
set_option maxRecDepth 100000 in
theorem law_Model_ok {S : Nat → Prop} {A : Option Addr} {c : Nat} {es : List Rt} (w : World) (hv : RsV S w A es) (hH : heavyB es = false) (h6 : es.length ≤ 6) (hE : ckE es = 0) :
    Calls Try.prog 8 #[.slice A es.length c] w fun e w' => e = .returned (.bool true) ∧ Below w.heap.size w w' := by
  have hany : es.any badE = false := by
    unfold ckE at hE
    rw [if_neg (by omega)] at hE
    cases hb : es.any badE with
    | false => rfl
    | true => rw [hb] at hE; exact absurd hE (by decide)
  have hl := short_of hH
  have hl2 := short_two hH (by omega)
  have H1 : As (Calls Try.prog 30 #[.slice A es.length c] w fun e w' => e = .returned (.bool false) ∧ Below w.heap.size w w') := ⟨by rw [← hH]; exact law_heavy w hv (by omega)⟩
  have H2 : As (∀ W, Below w.heap.size w W → Calls Try.prog 31 #[.slice A es.length c] W fun e w' => ∃ g, e = .returned (.tuple #[.slice (some ⟨g, 0, none⟩) (es.length * es.length / 4 + 1) (es.length * es.length / 4 + 1), .int .i64 0]) ∧ W.heap.size ≤ g ∧ Below W.heap.size W w' ∧ RowQ (fun k => W.heap.size ≤ k ∧ k ≠ g) w' g (es.length * es.length / 4 + 1) (nulQ (fun i => qe (es.getD i rt0)) es.length) ∧ RowN (fun k => W.heap.size ≤ k ∧ k ≠ g) w' g (fun j => j < es.length * es.length / 4 + 1) (nulQ (fun i => qe (es.getD i rt0)) es.length)) := ⟨fun W hb => fit_Null_ok (c := c) W (hv.below hb) (by omega) hl hE⟩
  have hq := As.mk (hv.lis (z := 2) hl2)
  have hp01 : As (∀ i, i < es.length → ¬ qe (es.getD i rt0) < 0 ∧ ¬ 1 < qe (es.getD i rt0)) := ⟨fun i hi => by
    have h1 := List.any_eq_false.1 hany (es.getD i rt0) (by rw [List.getD_eq_getElem?_getD, List.getElem?_eq_getElem hi]; exact List.getElem_mem hi)
    have h2 : badE (es.getD i rt0) = false := Bool.eq_false_iff.2 h1
    unfold badE at h2
    rw [Bool.or_eq_false_iff] at h2
    exact ⟨of_decide_eq_false h2.1, of_decide_eq_false h2.2⟩⟩
  have hval := As.mk (nul_valid (p := fun i => qe (es.getD i rt0)) (n := es.length) (fun i hi => by
    have := hp01.out i hi
    exact ⟨Rat.not_lt.1 this.1, Rat.not_lt.1 this.2⟩) (by omega))
  have hrzN := As.mk (fun k => nul_rz (p := fun i => qe (es.getD i rt0)) (n := es.length) (by omega) (fun i hi => by
    obtain ⟨_, _, _, _, _, _, _, _, _, _, _, _, hI⟩ := hq.out i hi
    exact Nat.le_trans (RatI.rz hI (by omega)) (by omega)) k)
  clear hv hl hl2 hH hE hany
  have hsw := size_wrap (n := es.length) (by omega)
  obtain ⟨m, hm⟩ : ∃ m, es.length * es.length / 4 + 1 = m := ⟨_, rfl⟩
  have hm16 : m ≤ 16 := by
    have h1 : es.length * es.length ≤ 6 * 6 := Nat.mul_le_mul h6 h6
    omega
  rw [hm] at H2 hval hsw
  replace hm := As.mk hm
  generalize es.length = n at *
  have b6 : (6 < (n : Int)) = False := eq_false (by omega)
  have hsz : 2 + rz 1 ≤ 35184372088828 := by have := rz_on; omega
  go_enter Try.func8, Try.ntmps8
  go_wp2_with fail
  refine H1.out.mono ?_
  rintro e w1 ⟨rfl, hb1⟩
  clear H1
  have K2 := As.mk (H2.out _ hb1)
  clear H2
  go_wp2_with fail
  refine K2.out.mono ?_
  rintro e w2 ⟨g, rfl, hg, hb2, hRQ, _⟩
  replace hb2 := hb1.after hb1.size hb2
  clear K2
  go_wp2_with fail
  refine (rat_Of _ 1 1 (by decide) (by decide) (by decide) (by decide)).mono ?_
  rintro e w3 ⟨r3, rfl, hL, hb3⟩
  rw [one_fr] at hL
  have hRQ3 := hRQ.below hb3
  replace hb3 := hb2.after hb2.size hb3
  obtain ⟨oN, oA, ok, oc, oB, ol, od, rfl⟩ := hL.letters
  have hO : RatI (fun _ => True) w3 (.agg #[.bool oN, .slice oA ok oc, .slice oB ol od]) 1 (rz 1) := hL.i.mono (fun _ _ _ => trivial)
  have hb4 := (Below.refl w3.heap.size w3).alloc (Nat.le_refl _) (.cells #[.bool oN, .slice oA ok oc, .slice oB ol od] 40)
  clear hb2 hL hRQ
  go_wp2_with fail
  obtain ⟨W4, hW4⟩ : ∃ W, w3.alloc (.cells #[.bool oN, .slice oA ok oc, .slice oB ol od] 40) = W := ⟨_, rfl⟩
  have o0 : W4.cell? ⟨w3.heap.size, 0, none⟩ = some (.bool oN) := by rw [← hW4]; simp [go_sem]
  have o1 : W4.cell? ⟨w3.heap.size, 1, none⟩ = some (.slice oA ok oc) := by rw [← hW4]; simp [go_sem]
  have o2 : W4.cell? ⟨w3.heap.size, 2, none⟩ = some (.slice oB ol od) := by rw [← hW4]; simp [go_sem]
  rw [hW4] at hb4 ⊢
  replace hO := hO.below hb4
  have hRQ4 := As.mk (hRQ3.below hb4)
  replace hb4 := As.mk (hb3.after hb3.size hb4)
  obtain ⟨ob, hob⟩ : ∃ ob, w3.heap.size = ob := ⟨_, rfl⟩
  rw [hob] at o0 o1 o2 ⊢
  clear hW4 hob hb3 hRQ3
  go_loopw [7] (fun v7 wr => ∃ k : Nat, k ≤ n ∧ v7 = .int .i64 k ∧ Below W4.heap.size W4 wr) (fun v7 _ => (n - intOf v7).toNat)
  case atStart => exact ⟨0, by omega, rfl, Below.refl _ _⟩
  case round =>
    obtain ⟨k, hk, rfl, hB⟩ := hrel
    by_cases hlt : k < n
    · have bk : ((k : Int) < (n : Int)) = True := eq_true (by omega)
      have bk0 : (0 ≤ (k : Int)) = True := eq_true (by omega)
      obtain ⟨hx, hx1⟩ := hp01.out k hlt
      have hBw := hb4.out.after hb4.out.size hB
      have hd := below_drew wr
      obtain ⟨ad, rfl, N, U, l, c', B, m, d, h0, h1, h2, hX⟩ := (hq.out.below hBw).below hd k hlt
      replace hX : RatI (fun _ => True) wr.drew (.agg #[.bool N, .slice U l c', .slice B m d]) (qe (es.getD k rt0)) 2 := hX
      have p0 := cell_below (cell_below o0 hB) hd
      have p1 := cell_below (cell_below o1 hB) hd
      have p2 := cell_below (cell_below o2 hB) hd
      have hO' := (hO.below hB).below hd
      have hBd := hBw.after hBw.size hd
      generalize qe (es.getD k rt0) = X at *
      go_wp2_with fail
      obtain ⟨s, hs⟩ : ∃ s, cmpR X 0 = s := ⟨_, rfl⟩
      have hs0 : (s < 0) = False := eq_false (by rw [← hs]; exact Int.not_lt.2 (cmpR_nonneg hx))
      replace hs := As.mk hs
      obtain ⟨t, ht⟩ : ∃ t, cmpR X 1 = t := ⟨_, rfl⟩
      have ht0 : (0 < t) = False := eq_false (by rw [← ht]; exact Int.not_lt.2 (cmpR_nonpos hx1))
      replace ht := As.mk ht
      go_region_held3 (fun w' => w'.cell? (ad.add (k * 3)) = some (.bool N) ∧ w'.cell? ⟨(ad.add (k * 3)).block, (ad.add (k * 3)).off + 1, none⟩ = some (.slice U l c') ∧ w'.cell? ⟨(ad.add (k * 3)).block, (ad.add (k * 3)).off + 2, none⟩ = some (.slice B m d) ∧ w'.cell? ⟨ob, 0, none⟩ = some (.bool oN) ∧ w'.cell? ⟨ob, 1, none⟩ = some (.slice oA ok oc) ∧ w'.cell? ⟨ob, 2, none⟩ = some (.slice oB ol od))
        ((first
          | with_reducible exact ⟨cell_below (cell_below h0 hb) hb8, cell_below (cell_below h1 hb) hb8, cell_below (cell_below h2 hb) hb8, cell_below (cell_below p0 hb) hb8, cell_below (cell_below p1 hb) hb8, cell_below (cell_below p2 hb) hb8⟩
          | with_reducible exact ⟨cell_below h0 hb, cell_below h1 hb, cell_below h2 hb, cell_below p0 hb, cell_below p1 hb, cell_below p2 hb⟩
          | with_reducible exact ⟨h0, h1, h2, p0, p1, p2⟩))
        (first
          | (go_at_call 32; refine (rat_Sign _ hX (by omega) (by omega)).mono ?_; rw [hs.out]; rintro e w7 ⟨rfl, hb⟩)
          | (go_at_call 33; refine (rat_Cmp _ (hX.below hb) (hO'.below hb) (by omega) (rz_pos _) hsz).mono ?_; rw [ht.out]; rintro e w8 ⟨rfl, hb8⟩))
      all_goals
        have hBz := ((hB.after hB.size hd).after (hB.after hB.size hd).size hb).after ((hB.after hB.size hd).after (hB.after hB.size hd).size hb).size hb8
        go_wp2_with fail
        go_roundw
        case rel => exact ⟨k + 1, by omega, by go_num, hBz⟩
        case measure => simp [intOf]; omega
    · obtain rfl : n = k := by omega
      have bk : ((n : Int) < (n : Int)) = False := eq_false (by omega)
      have hBw := hb4.out.after hb4.out.size hB
      have hRQ5 := hRQ4.out.below hB
      have hlis := hRQ5.lis (z := 3000000000) (fun k _ => hrzN.out k)
      have HV := As.mk (exact_Valid (c := m) wr hlis (by omega) (by omega) (by omega))
      rw [hval.out] at HV
      clear hlis
      have hmkR : ∀ W, (Instr.makeSlice 49 (.int .i64 (m : Int)) (.int .i64 (m : Int))).run Try.prog W = .ok (.slice (some ⟨W.heap.size, 0, none⟩) m m) (W.alloc (.cells (madeCells zq (m * 3)) 40)) :=
        fun W => make_ratios 49 Try.underlying49 ratio_info m m (by omega) (by omega) W
      go_wp2_with fail
      refine HV.out.mono ?_
      rintro e w5 ⟨rfl, hb5⟩
      have hBw5 := hBw.after hBw.size hb5
      have hB5 := hB.after hB.size hb5
      have hRQ6 := hRQ5.below hb5
      clear HV hb5 hRQ5 hsw hBw hB
      go_wp2_with fail
      have hmade := RowQ.made (fun q => q ≠ w5.heap.size) w5 m (by omega) (fun h => h rfl)
      have hb6 := (Below.refl w5.heap.size w5).alloc (Nat.le_refl _) (.cells (madeCells zq (m * 3)) 40)
      clear hmkR
      obtain ⟨W6, hW6⟩ : ∃ W, w5.alloc (.cells (madeCells zq (m * 3)) 40) = W := ⟨_, rfl⟩
      obtain ⟨wb, hwb⟩ : ∃ wb, w5.heap.size = wb := ⟨_, rfl⟩
      rw [hW6] at hmade hb6 ⊢
      rw [hwb] at hmade ⊢
      replace hwb := As.mk hwb
      clear hW6
      have hmade1 := hmade.congr (U := fun g => wantT (fun i => qe (es.getD i rt0)) n 0 g) (fun _ _ => rfl)
      clear hmade
      have hsh : As (∀ c : Nat, c ≤ 2 ^ n → c ≤ 64) := ⟨fun c hc => Nat.le_trans hc (Nat.le_trans (Nat.pow_le_pow_right (by omega) h6) (by decide))⟩
      go_loopw [10, 11, 12, 13, 14, 15, 16] (fun v10 _ _ _ _ _ _ wr => ∃ c : Nat, c ≤ 2 ^ n ∧ v10 = .int .i64 c ∧ Below w5.heap.size w5 wr ∧ RowQ (fun q => q ≠ wb) wr wb m (fun g => wantT (fun i => qe (es.getD i rt0)) n c g)) (fun v10 _ _ _ _ _ _ _ => (64 - intOf v10).toNat)
      case atStart => exact ⟨0, Nat.zero_le _, rfl, hb6, hmade1⟩
      case round =>
        clear hb6 hmade1
        rename World => wr2
        obtain ⟨c, hc, rfl, hB, hR⟩ := hrel
        have hc64 := hsh.out c hc
        by_cases hlt : c < 2 ^ n
        · have h64 : c < 64 := Nat.lt_of_lt_of_le hlt (hsh.out _ (Nat.le_refl _))
          have bc : ((c : Int) < wrap64 ((2 : Int) ^ n)) = True := eq_true (by rw [two_wrap h6]; omega)
          have p0 := cell_below (cell_below o0 hB5) hB
          have p1 := cell_below (cell_below o1 hB5) hB
          have p2 := cell_below (cell_below o2 hB5) hB
          have hO2 := (hO.below hB5).below hB
          go_wp2_with fail
          have hbP := (Below.refl wr2.heap.size wr2).alloc (Nat.le_refl _) (.cells #[.bool oN, .slice oA ok oc, .slice oB ol od] 40)
          have hP0 := RowQ.lit (S := fun q => q ≠ wr2.heap.size) (hO2.mono (fun q _ h => by show q ≠ wr2.heap.size; omega)) (fun h => h rfl)
          have hX0 := OwnB.nil (wr2.alloc (.cells #[.bool oN, .slice oA ok oc, .slice oB ol od] 40)) (wr2.heap.size + 1)
          obtain ⟨W8, hW8⟩ : ∃ W, wr2.alloc (.cells #[.bool oN, .slice oA ok oc, .slice oB ol od] 40) = W := ⟨_, rfl⟩
          have hs8 : wr2.heap.size + 1 ≤ W8.heap.size := by rw [← hW8]; simp
          rw [hW8] at hbP hP0 hX0 ⊢
          obtain ⟨pb, hpb⟩ : ∃ pb, wr2.heap.size = pb := ⟨_, rfl⟩
          rw [hpb] at hP0 hX0 hs8 ⊢
          replace hpb := As.mk hpb
          clear hW8 p0 p1 p2 hO2
          have hp1 := As.mk (fun c i => show prC (fun i => qe (es.getD i rt0)) c (i + 1) = prC (fun i => qe (es.getD i rt0)) c i * (if c.testBit i = true then qe (es.getD i rt0) else 1 - qe (es.getD i rt0)) from rfl)
          have hpz := As.mk (show prC (fun i => qe (es.getD i rt0)) c 0 = 1 from rfl)
          have hprz := As.mk (fun i hi => pr_rz (p := fun i => qe (es.getD i rt0)) (n := n) (fun i hi => by
            obtain ⟨_, _, _, _, _, _, _, _, _, _, _, _, hI⟩ := hq.out i hi
            exact RatI.rz hI (by omega)) c i hi)
          have hP1 := (hP0.mono (U := fun q => q ≠ pb ∧ (Value.slice none 0 0).ownBlock ≠ some q) (fun q h _ => ⟨h, by simp [Value.ownBlock]⟩) (fun h => h.1 rfl)).congr (U := fun _ => prC (fun i => qe (es.getD i rt0)) c 0) (fun _ _ => hpz.out)
          clear hP0
          go_loopw [12, 13, 14] (fun v12 v13 _ wy => ∃ i : Nat, i ≤ n ∧ v13 = .int .i64 i ∧ Below wr2.heap.size wr2 wy ∧ RowQ (fun q => q ≠ pb ∧ v12.ownBlock ≠ some q) wy pb 1 (fun _ => prC (fun i => qe (es.getD i rt0)) c i) ∧ OwnB wy (pb + 1) v12 (bts c i) ∧ pb + 1 ≤ wy.heap.size) (fun _ v13 _ _ => (n - intOf v13).toNat)
          case atStart => exact ⟨0, by omega, rfl, hbP, hP1, hX0, hs8⟩
          case round =>
            clear hbP hP1 hX0 hs8
            rename World => wy
            obtain ⟨i, hi, rfl, hBy, hP, hX, hsy⟩ := hrel
            by_cases hli : i < n
            · have bi : ((i : Int) < (n : Int)) = True := eq_true (by omega)
              have bi0 : (0 ≤ (i : Int)) = True := eq_true (by omega)
              obtain ⟨ad, rfl, eN, eU, el, ec, eB, en, ed, h0, h1, h2, hE⟩ := ((hq.out.below hBw5).below hB) i hli
              replace hE : RatI (fun _ => True) wr2 (.agg #[.bool eN, .slice eU el ec, .slice eB en ed]) (qe (es.getD i rt0)) 2 := hE
              have hbit := bit_at (c := c) (i := i) (by have := hsh.out c hc; have := hsh.out (2 ^ n) (Nat.le_refl _); omega) (by omega)
              obtain ⟨T, hTe⟩ : ∃ T, c.testBit i = T := ⟨_, rfl⟩
              have hst := hp1.out c i
              have hzp := hprz.out i (by omega)
              rw [hTe] at hbit hst
              replace hst := As.mk hst
              have hle := bts_length c i
              replace hTe := As.mk hTe
              have hln : (bts c i).length + 1 ≤ 17592186044416 := by omega
              replace hle := As.mk hle
              obtain ⟨E, hEe⟩ : ∃ E, qe (es.getD i rt0) = E := ⟨_, rfl⟩
              obtain ⟨Y, hYe⟩ : ∃ Y, prC (fun i => qe (es.getD i rt0)) c i = Y := ⟨_, rfl⟩
              have hst' := hst.out
              rw [hEe, hYe] at hst'
              replace hst := As.mk hst'
              rw [hEe] at hE
              rw [hYe] at hzp hP
              replace hEe := As.mk hEe
              replace hYe := As.mk hYe
              clear hst'
              have one0 := cell_below (cell_below o0 hB5) hB
              have one1 := cell_below (cell_below o1 hB5) hB
              have one2 := cell_below (cell_below o2 hB5) hB
              have hO2 := (hO.below hB5).below hB
              cases T
              · go_wp2_with (first
                  | (at_builtin; refine append_bool (w0 := wy) (pb + 1) rfl _ _ 22 _ false rfl Try.underlying22 (by kernel_rfl) u12 rfl rfl hX (Below.refl _ _) hsy hln ?_
                     intro v1 w9 hX1 hB9 hg9 hat9))
                have hBy9 : Below wr2.heap.size wr2 w9 := hBy.trans (hB9.mono (by rw [hpb.out]; omega))
                have hP9 := hP
                replace hP := grow_row hP hX hg9 hat9 (by omega)
                clear hP9 hBy hB9 hg9 hat9 hX
                have hd := below_drew w9
                obtain ⟨xN, xU, xl, xc, xB, xn, xd, x0, x1, x2, hPI⟩ := (hP.below hd).get 0 (by omega)
                replace x0 : w9.drew.cell? ⟨pb, 0, none⟩ = some (.bool xN) := x0
                replace x1 : w9.drew.cell? ⟨pb, 1, none⟩ = some (.slice xU xl xc) := x1
                replace x2 : w9.drew.cell? ⟨pb, 2, none⟩ = some (.slice xB xn xd) := x2
                have hP' := hPI
                have hE' := (hE.below hBy9).below hd
                have hO' := (hO2.below hBy9).below hd
                replace h0 := cell_below (cell_below h0 hBy9) hd
                replace h1 := cell_below (cell_below h1 hBy9) hd
                replace h2 := cell_below (cell_below h2 hBy9) hd
                have q0 := cell_below (cell_below one0 hBy9) hd
                have q1 := cell_below (cell_below one1 hBy9) hd
                have q2 := cell_below (cell_below one2 hBy9) hd
                have hse := rz_sub 1 E
                have ho1 := rz_one'
                have hrE := RatI.rz hE (by omega)
                clear hPI one0 one1 one2 hO2 hE
                go_wp2_with fail
                refine wp_region_noPanic ?_
                refine region_tail (S := (fun w' => w'.cell? ⟨pb, 0, none⟩ = some (.bool xN) ∧ w'.cell? ⟨pb, 1, none⟩ = some (.slice xU xl xc) ∧ w'.cell? ⟨pb, 2, none⟩ = some (.slice xB xn xd) ∧ w'.cell? ⟨ob, 0, none⟩ = some (.bool oN) ∧ w'.cell? ⟨ob, 1, none⟩ = some (.slice oA ok oc) ∧ w'.cell? ⟨ob, 2, none⟩ = some (.slice oB ol od) ∧ w'.cell? (ad.add (i * 3)) = some (.bool eN) ∧ w'.cell? ⟨(ad.add (i * 3)).block, (ad.add (i * 3)).off + 1, none⟩ = some (.slice eU el ec) ∧ w'.cell? ⟨(ad.add (i * 3)).block, (ad.add (i * 3)).off + 2, none⟩ = some (.slice eB en ed))) 8 (by kernel_rfl) (by kernel_rfl) ⟨x0, x1, x2, q0, q1, q2, h0, h1, h2⟩ (fun hHeld => ?_)
                simp only [List.take_succ_cons, List.take_zero, List.drop_succ_cons, List.drop_zero]
                refine' wpAnyH_take (i := 0) (v := ?_) rfl (by kernel_rfl) (by kernel_rfl) (by kernel_rfl) (fun _ _ _ h => h) (Or.inl ⟨by rfl, ?_⟩) (by assumption) ?_
                rotate_left
                · (intro w' hSw; (try dsimp only at hSw); go_simp; (try with_reducible rfl))
                try simp only [Act.put, List.setIfInBounds_toArray, List.set_cons_zero, List.set_cons_succ]
                refine' wpAnyH_take (i := 1) (v := ?_) rfl (by kernel_rfl) (by kernel_rfl) (by kernel_rfl) (fun _ _ _ h => h) (Or.inl ⟨by rfl, ?_⟩) (by assumption) ?_
                rotate_left
                · (intro w' hSw; (try dsimp only at hSw); go_simp; (try with_reducible rfl))
                try simp only [Act.put, List.setIfInBounds_toArray, List.set_cons_zero, List.set_cons_succ]
                refine' wpAnyH_take (i := 2) (v := ?_) rfl (by kernel_rfl) (by kernel_rfl) (by kernel_rfl) (fun _ _ _ h => h) (Or.inl ⟨by rfl, ?_⟩) (by assumption) ?_
                rotate_left
                · (intro w' hSw; (try dsimp only at hSw); go_simp; (try with_reducible rfl))
                try simp only [Act.put, List.setIfInBounds_toArray, List.set_cons_zero, List.set_cons_succ]
                refine' wpAnyH_take (i := 3) (v := ?_) rfl (by kernel_rfl) (by kernel_rfl) (by kernel_rfl) (fun _ _ _ h => h) (Or.inl ⟨by rfl, ?_⟩) (by assumption) ?_
                rotate_left
                · (intro w' hSw; (try dsimp only at hSw); go_simp; (try with_reducible rfl))
                try simp only [Act.put, List.setIfInBounds_toArray, List.set_cons_zero, List.set_cons_succ]
                refine' wpAnyH_take (i := 4) (v := ?_) rfl (by kernel_rfl) (by kernel_rfl) (by kernel_rfl) (fun _ _ _ h => h) (Or.inl ⟨by rfl, ?_⟩) (by assumption) ?_
                rotate_left
                · (intro w' hSw; (try dsimp only at hSw); go_simp; (try with_reducible rfl))
                try simp only [Act.put, List.setIfInBounds_toArray, List.set_cons_zero, List.set_cons_succ]
                refine' wpAnyH_take (i := 5) (v := ?_) rfl (by kernel_rfl) (by kernel_rfl) (by kernel_rfl) (fun _ _ _ h => h) (Or.inl ⟨by rfl, ?_⟩) (by assumption) ?_
                rotate_left
                · (intro w' hSw; (try dsimp only at hSw); go_simp; (try with_reducible rfl))
                try simp only [Act.put, List.setIfInBounds_toArray, List.set_cons_zero, List.set_cons_succ]
                refine wpAnyH_ready (rs := [6]) (by kernel_rfl) (by simp) ?_
                refine AllReadyH.cons rfl (fun K hK => ?_) AllReadyH.nil
                rw [if_pos (by rfl)]
                simp only [Go.wp_at_succ, Go.wp_at_zero]
                go_simp
                refine (rat_Sub _ hO' hE' (rz_pos _) (by omega) (by omega)).mono ?_; rintro e w12 ⟨r12, rfl, hM, hb⟩
                dsimp only
                refine hK.out _ _ ⟨cell_below x0 hb, cell_below x1 hb, cell_below x2 hb, cell_below q0 hb, cell_below q1 hb, cell_below q2 hb, cell_below h0 hb, cell_below h1 hb, cell_below h2 hb⟩ (fun hHeld => ?_)
                clear hK K
                try simp only [Act.put, List.setIfInBounds_toArray, List.set_cons_zero, List.set_cons_succ]
                refine wpAnyH_ready (rs := [7]) (by kernel_rfl) (by simp) ?_
                refine AllReadyH.cons rfl (fun K hK => ?_) AllReadyH.nil
                rw [if_pos (by rfl)]
                simp only [Go.wp_at_succ, Go.wp_at_zero]
                go_simp
                refine (rat_Mul _ (hP'.below hb) hM.i (rz_pos _) (rz_pos _) (by omega)).mono ?_; rintro e w11 ⟨r11, rfl, hL, hb6⟩; obtain ⟨lN, lU, lk, lc, lB, ll, ld, rfl⟩ := hL.letters
                dsimp only
                refine hK.out _ _ ⟨cell_below (cell_below x0 hb) hb6, cell_below (cell_below x1 hb) hb6, cell_below (cell_below x2 hb) hb6, cell_below (cell_below q0 hb) hb6, cell_below (cell_below q1 hb) hb6, cell_below (cell_below q2 hb) hb6, cell_below (cell_below h0 hb) hb6, cell_below (cell_below h1 hb) hb6, cell_below (cell_below h2 hb) hb6⟩ (fun hHeld => ?_)
                clear hK K
                try simp only [Act.put, List.setIfInBounds_toArray, List.set_cons_zero, List.set_cons_succ]
                refine wpAnyH_done (by kernel_rfl) ?_ _
                change wpList _ _ _ _ _ _
                have hbz : Below w9.drew.heap.size w9.drew w11 := hb.after hb.size hb6
                have hR1 := (hP.below hd).below hbz
                obtain ⟨⟨_, e0⟩, f0⟩ : (∃ v, w11.cell? ⟨pb, 0, none⟩ = some v) ∧ w11.frozen? ⟨pb, 0, none⟩ = false := hR1.res.2 0 (by omega)
                obtain ⟨⟨_, e1⟩, f1⟩ : (∃ v, w11.cell? ⟨pb, 1, none⟩ = some v) ∧ w11.frozen? ⟨pb, 1, none⟩ = false := hR1.res.2 1 (by omega)
                obtain ⟨⟨_, e2⟩, f2⟩ : (∃ v, w11.cell? ⟨pb, 2, none⟩ = some v) ∧ w11.frozen? ⟨pb, 2, none⟩ = false := hR1.res.2 2 (by omega)
                have hlm := hL.i.mono (T := fun q => q ≠ pb ∧ v1.ownBlock ≠ some q) (fun q hq _ => by
                  have h1 : w12.heap.size ≤ q := hq
                  have h2 := hbz.size
                  have h3 := hd.size
                  have h4 := hP.res.1
                  have h5 : w9.drew.heap.size ≤ w12.heap.size := hb.size
                  refine ⟨by omega, fun e => ?_⟩
                  have := (World.ownsRow.lt hX1 q e).2
                  omega)
                have hR6 : RowQ (fun q => q ≠ pb ∧ v1.ownBlock ≠ some q) (((w11.setCell ⟨pb, 0, none⟩ (.bool lN)).setCell ⟨pb, 1, none⟩ (.slice lU lk lc)).setCell ⟨pb, 2, none⟩ (.slice lB ll ld)) pb 1 (fun _ => prC (fun i => qe (es.getD i rt0)) c (i + 1)) :=
                  (hR1.set (x := 0) (by omega) hlm).congr (fun j hj => by
                    obtain rfl : j = 0 := by omega
                    rw [if_pos rfl, hst.out]
                    simp)
                have hB6 : Below wr2.heap.size wr2 (((w11.setCell ⟨pb, 0, none⟩ (.bool lN)).setCell ⟨pb, 1, none⟩ (.slice lU lk lc)).setCell ⟨pb, 2, none⟩ (.slice lB ll ld)) := (((hBy9.after hBy9.size (hd.after hd.size hbz)).setCell (by show wr2.heap.size ≤ pb; rw [hpb.out]; exact Nat.le_refl _) _).setCell (by show wr2.heap.size ≤ pb; rw [hpb.out]; exact Nat.le_refl _) _).setCell (by show wr2.heap.size ≤ pb; rw [hpb.out]; exact Nat.le_refl _) _
                have hX6 : OwnB (((w11.setCell ⟨pb, 0, none⟩ (.bool lN)).setCell ⟨pb, 1, none⟩ (.slice lU lk lc)).setCell ⟨pb, 2, none⟩ (.slice lB ll ld)) (pb + 1) v1 (bts c (i + 1)) := by
                  rw [bts_succ, hTe.out]
                  refine ((hX1.below hd).below hbz).kept (fun q hq => ?_)
                  have h1 := (World.ownsRow.lt hX1 q hq).1
                  rw [Below.heap_setCell _ _ _ q (by show q ≠ pb; omega), Below.heap_setCell _ _ _ q (by show q ≠ pb; omega), Below.heap_setCell _ _ _ q (by show q ≠ pb; omega)]
                have hz6 : pb + 1 ≤ (((w11.setCell ⟨pb, 0, none⟩ (.bool lN)).setCell ⟨pb, 1, none⟩ (.slice lU lk lc)).setCell ⟨pb, 2, none⟩ (.slice lB ll ld)).heap.size := by
                  have h2 := hbz.size
                  have h3 := hd.size
                  have h4 := hP.res.1
                  simp [World.setCell]
                  omega
                clear hHeld hP hP' hE' hL hlm hR1 hbz hX1 hBy9 hd hb6 x0 x1 x2 h0 h1 h2
                go_wp2_with fail
                refine NoPanic.normal ?_
                go_wp2_with fail
                go_roundw
                case rel =>
                  exact ⟨i + 1, by omega, by go_num, hB6, hR6, hX6, hz6⟩
                case measure => simp [intOf]; omega
              · go_wp2_with (first
                  | (at_builtin; refine append_bool (w0 := wy) (pb + 1) rfl _ _ 22 _ true rfl Try.underlying22 (by kernel_rfl) u12 rfl rfl hX (Below.refl _ _) hsy hln ?_
                     intro v1 w9 hX1 hB9 hg9 hat9))
                have hBy9 : Below wr2.heap.size wr2 w9 := hBy.trans (hB9.mono (by rw [hpb.out]; omega))
                have hP9 := hP
                replace hP := grow_row hP hX hg9 hat9 (by omega)
                clear hP9 hBy hB9 hg9 hat9 hX
                have hd := below_drew w9
                obtain ⟨xN, xU, xl, xc, xB, xn, xd, x0, x1, x2, hPI⟩ := (hP.below hd).get 0 (by omega)
                replace x0 : w9.drew.cell? ⟨pb, 0, none⟩ = some (.bool xN) := x0
                replace x1 : w9.drew.cell? ⟨pb, 1, none⟩ = some (.slice xU xl xc) := x1
                replace x2 : w9.drew.cell? ⟨pb, 2, none⟩ = some (.slice xB xn xd) := x2
                have hP' := hPI
                have hE' := (hE.below hBy9).below hd
                have hO' := (hO2.below hBy9).below hd
                replace h0 := cell_below (cell_below h0 hBy9) hd
                replace h1 := cell_below (cell_below h1 hBy9) hd
                replace h2 := cell_below (cell_below h2 hBy9) hd
                have q0 := cell_below (cell_below one0 hBy9) hd
                have q1 := cell_below (cell_below one1 hBy9) hd
                have q2 := cell_below (cell_below one2 hBy9) hd
                have hse := rz_sub 1 E
                have ho1 := rz_one'
                have hrE := RatI.rz hE (by omega)
                clear hPI one0 one1 one2 hO2 hE
                go_wp2_with fail
                refine wp_region_noPanic ?_
                refine region_tail (S := (fun w' => w'.cell? ⟨pb, 0, none⟩ = some (.bool xN) ∧ w'.cell? ⟨pb, 1, none⟩ = some (.slice xU xl xc) ∧ w'.cell? ⟨pb, 2, none⟩ = some (.slice xB xn xd) ∧ w'.cell? (ad.add (i * 3)) = some (.bool eN) ∧ w'.cell? ⟨(ad.add (i * 3)).block, (ad.add (i * 3)).off + 1, none⟩ = some (.slice eU el ec) ∧ w'.cell? ⟨(ad.add (i * 3)).block, (ad.add (i * 3)).off + 2, none⟩ = some (.slice eB en ed))) 6 (by kernel_rfl) (by kernel_rfl) ⟨x0, x1, x2, h0, h1, h2⟩ (fun hHeld => ?_)
                simp only [List.take_succ_cons, List.take_zero, List.drop_succ_cons, List.drop_zero]
                refine' wpAnyH_take (i := 0) (v := ?_) rfl (by kernel_rfl) (by kernel_rfl) (by kernel_rfl) (fun _ _ _ h => h) (Or.inl ⟨by rfl, ?_⟩) (by assumption) ?_
                rotate_left
                · (intro w' hSw; (try dsimp only at hSw); go_simp; (try with_reducible rfl))
                try simp only [Act.put, List.setIfInBounds_toArray, List.set_cons_zero, List.set_cons_succ]
                refine' wpAnyH_take (i := 1) (v := ?_) rfl (by kernel_rfl) (by kernel_rfl) (by kernel_rfl) (fun _ _ _ h => h) (Or.inl ⟨by rfl, ?_⟩) (by assumption) ?_
                rotate_left
                · (intro w' hSw; (try dsimp only at hSw); go_simp; (try with_reducible rfl))
                try simp only [Act.put, List.setIfInBounds_toArray, List.set_cons_zero, List.set_cons_succ]
                refine' wpAnyH_take (i := 2) (v := ?_) rfl (by kernel_rfl) (by kernel_rfl) (by kernel_rfl) (fun _ _ _ h => h) (Or.inl ⟨by rfl, ?_⟩) (by assumption) ?_
                rotate_left
                · (intro w' hSw; (try dsimp only at hSw); go_simp; (try with_reducible rfl))
                try simp only [Act.put, List.setIfInBounds_toArray, List.set_cons_zero, List.set_cons_succ]
                refine' wpAnyH_take (i := 3) (v := ?_) rfl (by kernel_rfl) (by kernel_rfl) (by kernel_rfl) (fun _ _ _ h => h) (Or.inl ⟨by rfl, ?_⟩) (by assumption) ?_
                rotate_left
                · (intro w' hSw; (try dsimp only at hSw); go_simp; (try with_reducible rfl))
                try simp only [Act.put, List.setIfInBounds_toArray, List.set_cons_zero, List.set_cons_succ]
                refine' wpAnyH_take (i := 4) (v := ?_) rfl (by kernel_rfl) (by kernel_rfl) (by kernel_rfl) (fun _ _ _ h => h) (Or.inl ⟨by rfl, ?_⟩) (by assumption) ?_
                rotate_left
                · (intro w' hSw; (try dsimp only at hSw); go_simp; (try with_reducible rfl))
                try simp only [Act.put, List.setIfInBounds_toArray, List.set_cons_zero, List.set_cons_succ]
                refine wpAnyH_ready (rs := [5]) (by kernel_rfl) (by simp) ?_
                refine AllReadyH.cons rfl (fun K hK => ?_) AllReadyH.nil
                rw [if_pos (by rfl)]
                simp only [Go.wp_at_succ, Go.wp_at_zero]
                go_simp
                refine (rat_Mul _ hP' hE' (rz_pos _) (by omega) (by omega)).mono ?_; rintro e w11 ⟨r11, rfl, hL, hb6⟩; obtain ⟨lN, lU, lk, lc, lB, ll, ld, rfl⟩ := hL.letters
                dsimp only
                refine hK.out _ _ ⟨cell_below x0 hb6, cell_below x1 hb6, cell_below x2 hb6, cell_below h0 hb6, cell_below h1 hb6, cell_below h2 hb6⟩ (fun hHeld => ?_)
                clear hK K
                try simp only [Act.put, List.setIfInBounds_toArray, List.set_cons_zero, List.set_cons_succ]
                refine wpAnyH_done (by kernel_rfl) ?_ _
                change wpList _ _ _ _ _ _
                have hbz : Below w9.drew.heap.size w9.drew w11 := hb6
                have hR1 := (hP.below hd).below hbz
                obtain ⟨⟨_, e0⟩, f0⟩ : (∃ v, w11.cell? ⟨pb, 0, none⟩ = some v) ∧ w11.frozen? ⟨pb, 0, none⟩ = false := hR1.res.2 0 (by omega)
                obtain ⟨⟨_, e1⟩, f1⟩ : (∃ v, w11.cell? ⟨pb, 1, none⟩ = some v) ∧ w11.frozen? ⟨pb, 1, none⟩ = false := hR1.res.2 1 (by omega)
                obtain ⟨⟨_, e2⟩, f2⟩ : (∃ v, w11.cell? ⟨pb, 2, none⟩ = some v) ∧ w11.frozen? ⟨pb, 2, none⟩ = false := hR1.res.2 2 (by omega)
                have hlm := hL.i.mono (T := fun q => q ≠ pb ∧ v1.ownBlock ≠ some q) (fun q hq _ => by
                  have h1 : w9.drew.heap.size ≤ q := hq
                  have h2 := hbz.size
                  have h3 := hd.size
                  have h4 := hP.res.1
                  have h5 : w9.drew.heap.size ≤ w9.drew.heap.size := Nat.le_refl _
                  refine ⟨by omega, fun e => ?_⟩
                  have := (World.ownsRow.lt hX1 q e).2
                  omega)
                have hR6 : RowQ (fun q => q ≠ pb ∧ v1.ownBlock ≠ some q) (((w11.setCell ⟨pb, 0, none⟩ (.bool lN)).setCell ⟨pb, 1, none⟩ (.slice lU lk lc)).setCell ⟨pb, 2, none⟩ (.slice lB ll ld)) pb 1 (fun _ => prC (fun i => qe (es.getD i rt0)) c (i + 1)) :=
                  (hR1.set (x := 0) (by omega) hlm).congr (fun j hj => by
                    obtain rfl : j = 0 := by omega
                    rw [if_pos rfl, hst.out]
                    simp)
                have hB6 : Below wr2.heap.size wr2 (((w11.setCell ⟨pb, 0, none⟩ (.bool lN)).setCell ⟨pb, 1, none⟩ (.slice lU lk lc)).setCell ⟨pb, 2, none⟩ (.slice lB ll ld)) := (((hBy9.after hBy9.size (hd.after hd.size hbz)).setCell (by show wr2.heap.size ≤ pb; rw [hpb.out]; exact Nat.le_refl _) _).setCell (by show wr2.heap.size ≤ pb; rw [hpb.out]; exact Nat.le_refl _) _).setCell (by show wr2.heap.size ≤ pb; rw [hpb.out]; exact Nat.le_refl _) _
                have hX6 : OwnB (((w11.setCell ⟨pb, 0, none⟩ (.bool lN)).setCell ⟨pb, 1, none⟩ (.slice lU lk lc)).setCell ⟨pb, 2, none⟩ (.slice lB ll ld)) (pb + 1) v1 (bts c (i + 1)) := by
                  rw [bts_succ, hTe.out]
                  refine ((hX1.below hd).below hbz).kept (fun q hq => ?_)
                  have h1 := (World.ownsRow.lt hX1 q hq).1
                  rw [Below.heap_setCell _ _ _ q (by show q ≠ pb; omega), Below.heap_setCell _ _ _ q (by show q ≠ pb; omega), Below.heap_setCell _ _ _ q (by show q ≠ pb; omega)]
                have hz6 : pb + 1 ≤ (((w11.setCell ⟨pb, 0, none⟩ (.bool lN)).setCell ⟨pb, 1, none⟩ (.slice lU lk lc)).setCell ⟨pb, 2, none⟩ (.slice lB ll ld)).heap.size := by
                  have h2 := hbz.size
                  have h3 := hd.size
                  have h4 := hP.res.1
                  simp [World.setCell]
                  omega
                clear hHeld hP hP' hE' hL hlm hR1 hbz hX1 hBy9 hd hb6 x0 x1 x2 h0 h1 h2
                go_wp2_with fail
                refine NoPanic.normal ?_
                go_wp2_with fail
                go_roundw
                case rel =>
                  exact ⟨i + 1, by omega, by go_num, hB6, hR6, hX6, hz6⟩
                case measure => simp [intOf]; omega

            · obtain rfl : n = i := by omega
              have bi : ((n : Int) < (n : Int)) = False := eq_false (by omega)
              obtain ⟨xA, xcap, hxs⟩ := hX.slice
              have hbs := hX.bs hxs
              subst hxs
              have hln := bts_length c n
              have HG := As.mk (fit_Guttman wy xA xcap (bts c n) hbs (by omega))
              rw [hln, if_neg (show ¬ 20 < n by omega), gn_bts n (Nat.le_refl _)] at HG
              rw [hln]
              have hgm := gC_le c n
              have hgm2 : gC c n < m := by rw [← hm.out]; omega
              obtain ⟨G, hGe⟩ : ∃ G, gC c n = G := ⟨_, rfl⟩
              rw [hGe] at HG hgm2
              replace hGe := As.mk hGe
              have bg0 : ((G : Int) < 0) = False := eq_false (by omega)
              have bg00 : (0 ≤ (G : Int)) = True := eq_true (by omega)
              have bgm : ((m : Int) ≤ (G : Int)) = False := eq_false (by omega)
              have bgl : ((G : Int) < (m : Int)) = True := eq_true (by omega)
              replace hgm := As.mk hgm
              replace hln := As.mk hln
              go_wp2_with fail
              refine HG.out.mono ?_
              rintro e w9 ⟨rfl, hD⟩
              have hb9 := hD.below
              have hBy9 := hBy.after hBy.size hb9
              have hP9 := hP.below hb9
              have hR9 := (hR.below hBy).below hb9
              clear HG hD hbs hX hP hb9 hBy
              go_wp2_with fail
              have hd := below_drew w9
              obtain ⟨xN, xU, xl, xc, xB, xn, xd, x0, x1, x2, hPI⟩ := (hP9.below hd).get 0 (by omega)
              replace x0 : w9.drew.cell? ⟨pb, 0, none⟩ = some (.bool xN) := x0
              replace x1 : w9.drew.cell? ⟨pb, 1, none⟩ = some (.slice xU xl xc) := x1
              replace x2 : w9.drew.cell? ⟨pb, 2, none⟩ = some (.slice xB xn xd) := x2
              obtain ⟨uN, uU, ul, uc, uB, un, ud, u0, u1', u2, hU⟩ := (hR9.below hd).get G hgm2
              have hzp := hprz.out n (Nat.le_refl _)
              have hzu : rz (wantT (fun i => qe (es.getD i rt0)) n c G) ≤ 10000 := want_rz (fun i hi => by
                obtain ⟨_, _, _, _, _, _, _, _, _, _, _, _, hI⟩ := hq.out i hi
                exact RatI.rz hI (by omega)) h6 c G hc64
              have hwn := As.mk (want_next (fun i => qe (es.getD i rt0)) n c)
              refine wp_region_noPanic ?_
              refine region_tail (S := (fun w' => w'.cell? ⟨pb, 0, none⟩ = some (.bool xN) ∧ w'.cell? ⟨pb, 1, none⟩ = some (.slice xU xl xc) ∧ w'.cell? ⟨pb, 2, none⟩ = some (.slice xB xn xd) ∧ w'.cell? ⟨wb, G * 3, none⟩ = some (.bool uN) ∧ w'.cell? ⟨wb, G * 3 + 1, none⟩ = some (.slice uU ul uc) ∧ w'.cell? ⟨wb, G * 3 + 2, none⟩ = some (.slice uB un ud))) 9 (by kernel_rfl) (by kernel_rfl) ⟨x0, x1, x2, u0, u1', u2⟩ (fun hHeld => ?_)
              simp only [List.take_succ_cons, List.take_zero, List.drop_succ_cons, List.drop_zero]
              refine' wpAnyH_take (i := 0) (v := ?_) rfl (by kernel_rfl) (by kernel_rfl) (by kernel_rfl) (fun _ _ _ h => h) (Or.inl ⟨by rfl, ?_⟩) (by assumption) ?_
              rotate_left
              · (intro w' hSw; (try dsimp only at hSw); go_simp; (try with_reducible rfl))
              try simp only [Act.put, List.setIfInBounds_toArray, List.set_cons_zero, List.set_cons_succ]
              refine' wpAnyH_take (i := 1) (v := ?_) rfl (by kernel_rfl) (by kernel_rfl) (by kernel_rfl) (fun _ _ _ h => h) (Or.inl ⟨by rfl, ?_⟩) (by assumption) ?_
              rotate_left
              · (intro w' hSw; (try dsimp only at hSw); go_simp; (try with_reducible rfl))
              try simp only [Act.put, List.setIfInBounds_toArray, List.set_cons_zero, List.set_cons_succ]
              refine' wpAnyH_take (i := 2) (v := ?_) rfl (by kernel_rfl) (by kernel_rfl) (by kernel_rfl) (fun _ _ _ h => h) (Or.inl ⟨by rfl, ?_⟩) (by assumption) ?_
              rotate_left
              · (intro w' hSw; (try dsimp only at hSw); go_simp; (try with_reducible rfl))
              try simp only [Act.put, List.setIfInBounds_toArray, List.set_cons_zero, List.set_cons_succ]
              refine' wpAnyH_take (i := 3) (v := ?_) rfl (by kernel_rfl) (by kernel_rfl) (by kernel_rfl) (fun _ _ _ h => h) (Or.inl ⟨by rfl, ?_⟩) (by assumption) ?_
              rotate_left
              · (intro w' hSw; (try dsimp only at hSw); go_simp; (try with_reducible rfl))
              try simp only [Act.put, List.setIfInBounds_toArray, List.set_cons_zero, List.set_cons_succ]
              refine' wpAnyH_take (i := 4) (v := ?_) rfl (by kernel_rfl) (by kernel_rfl) (by kernel_rfl) (fun _ _ _ h => h) (Or.inl ⟨by rfl, ?_⟩) (by assumption) ?_
              rotate_left
              · (intro w' hSw; (try dsimp only at hSw); go_simp; (try with_reducible rfl))
              try simp only [Act.put, List.setIfInBounds_toArray, List.set_cons_zero, List.set_cons_succ]
              refine' wpAnyH_take (i := 5) (v := ?_) rfl (by kernel_rfl) (by kernel_rfl) (by kernel_rfl) (fun _ _ _ h => h) (Or.inl ⟨by rfl, ?_⟩) (by assumption) ?_
              rotate_left
              · (intro w' hSw; (try dsimp only at hSw); go_simp; (try with_reducible rfl))
              try simp only [Act.put, List.setIfInBounds_toArray, List.set_cons_zero, List.set_cons_succ]
              refine' wpAnyH_take (i := 6) (v := ?_) rfl (by kernel_rfl) (by kernel_rfl) (by kernel_rfl) (fun _ _ _ h => h) (Or.inl ⟨by rfl, ?_⟩) (by assumption) ?_
              rotate_left
              · (intro w' hSw; (try dsimp only at hSw); go_simp; (try with_reducible rfl))
              try simp only [Act.put, List.setIfInBounds_toArray, List.set_cons_zero, List.set_cons_succ]
              refine wpAnyH_ready (rs := [7]) (by kernel_rfl) (by simp) ?_
              refine AllReadyH.cons rfl (fun K hK => ?_) AllReadyH.nil
              rw [if_pos (by rfl)]
              simp only [Go.wp_at_succ, Go.wp_at_zero]
              go_simp
              refine (rat_Add _ hU hPI (rz_pos _) (rz_pos _) (by omega)).mono ?_; rintro e w11 ⟨r11, rfl, hL, hb6⟩; obtain ⟨lN, lU, lk, lc, lB, ll, ld, rfl⟩ := hL.letters
              dsimp only
              refine hK.out _ _ ⟨cell_below x0 hb6, cell_below x1 hb6, cell_below x2 hb6, cell_below u0 hb6, cell_below u1' hb6, cell_below u2 hb6⟩ (fun hHeld => ?_)
              clear hK K
              try simp only [Act.put, List.setIfInBounds_toArray, List.set_cons_zero, List.set_cons_succ]
              refine' wpAnyH_take (i := 8) (v := ?_) rfl (by kernel_rfl) (by kernel_rfl) (by kernel_rfl) (fun _ _ _ h => h) (Or.inl ⟨by rfl, ?_⟩) (by assumption) ?_
              rotate_left
              · (intro w' hSw; (try dsimp only at hSw); go_simp; (try with_reducible rfl))
              try simp only [Act.put, List.setIfInBounds_toArray, List.set_cons_zero, List.set_cons_succ]
              refine wpAnyH_done (by kernel_rfl) ?_ _
              change wpList _ _ _ _ _ _
              have hR1 := (hR9.below hd).below hb6
              obtain ⟨⟨_, e0⟩, f0⟩ := hR1.res.2 (G * 3) (by omega)
              obtain ⟨⟨_, e1⟩, f1⟩ := hR1.res.2 (G * 3 + 1) (by omega)
              obtain ⟨⟨_, e2⟩, f2⟩ := hR1.res.2 (G * 3 + 2) (by omega)
              have hwb9 := (hR9.below hd).res.1
              have hR6 : As (RowQ (fun q => q ≠ wb) (((w11.setCell ⟨wb, G * 3, none⟩ (.bool lN)).setCell ⟨wb, G * 3 + 1, none⟩ (.slice lU lk lc)).setCell ⟨wb, G * 3 + 2, none⟩ (.slice lB ll ld)) wb m (fun g => wantT (fun i => qe (es.getD i rt0)) n (c + 1) g)) :=
                ⟨(hR1.set hgm2 (hL.i.mono (T := fun q => q ≠ wb) (fun q hq _ => by have h1 : w9.drew.heap.size ≤ q := hq; omega))).congr (fun j _ => by
                  rw [hwn.out j, hGe.out]
                  by_cases a : j = G
                  · rw [if_pos a, if_pos a.symm, a]
                  · rw [if_neg a, if_neg (fun e => a e.symm)]; grind)⟩
              have hB6 : As (Below w5.heap.size w5 (((w11.setCell ⟨wb, G * 3, none⟩ (.bool lN)).setCell ⟨wb, G * 3 + 1, none⟩ (.slice lU lk lc)).setCell ⟨wb, G * 3 + 2, none⟩ (.slice lB ll ld))) :=
                ⟨((((hB.after hB.size hBy9).after (hB.after hB.size hBy9).size (hd.after hd.size hb6)).setCell (by show w5.heap.size ≤ wb; rw [hwb.out]; exact Nat.le_refl _) _).setCell (by show w5.heap.size ≤ wb; rw [hwb.out]; exact Nat.le_refl _) _).setCell (by show w5.heap.size ≤ wb; rw [hwb.out]; exact Nat.le_refl _) _⟩
              clear hHeld hR1 hR9 hP9 hBy9 hd hb6 hL hU hPI x0 x1 x2 u0 u1' u2 hR hB
              go_wp2_with fail
              refine NoPanic.normal ?_
              go_wp2_with fail
              go_roundw
              case rel =>
                first
                  | exact ⟨c + 1, hlt, by go_num, hB6.out, hR6.out⟩
                  | ((repeat apply Exists.intro); exact ⟨⟨c + 1, hlt, by go_num, hB6.out, hR6.out⟩, rfl⟩)
              case measure => simp [intOf]; omega
        · have hce : c = 2 ^ n := by omega
          have bc : ((c : Int) < wrap64 ((2 : Int) ^ n)) = False := eq_false (by rw [two_wrap h6, hce]; exact Int.lt_irrefl _)
          replace hce := As.mk hce
          have hRD := hRQ6.below hB
          have heq := As.mk (fun g => nul_eq (fun i => qe (es.getD i rt0)) n g)
          have hBf := hBw5.after hBw5.size hB
          have hbf := As.mk hBf
          clear hB hBf
          go_wp2_with fail
          go_loopw [17] (fun v17 wy => ∃ i : Nat, i ≤ m ∧ v17 = .int .i64 i ∧ Below wr2.heap.size wr2 wy) (fun v17 _ => (m - intOf v17).toNat)
          case atStart => exact ⟨0, by omega, rfl, Below.refl _ _⟩
          case round =>
            rename World => wy
            obtain ⟨i, hi, rfl, hBy⟩ := hrel
            by_cases hli : i < m
            · have bi : ((i : Int) < (m : Int)) = True := eq_true (by omega)
              have bi0 : (0 ≤ (i : Int)) = True := eq_true (by omega)
              have hd := below_drew wy
              obtain ⟨xN, xU, xl, xc, xB, xn, xd, x0, x1, x2, hX⟩ := ((hRD.below hBy).below hd).get i hli
              obtain ⟨uN, uU, ul, uc, uB, un, ud, u0, u1', u2, hU⟩ := ((hR.below hBy).below hd).get i hli
              have hzx := hrzN.out i
              rw [show wantT (fun i => qe (es.getD i rt0)) n c i = nulQ (fun i => qe (es.getD i rt0)) n i by rw [hce.out]; exact (heq.out i).symm] at hU
              have hc0 : cmpR (nulQ (fun i => qe (es.getD i rt0)) n i) (nulQ (fun i => qe (es.getD i rt0)) n i) = 0 := by
                unfold cmpR
                rw [if_neg Rat.lt_irrefl, if_pos rfl]
              generalize nulQ (fun i => qe (es.getD i rt0)) n i = X at *
              replace hc0 := As.mk hc0
              go_wp2_with fail
              go_region_held3 (fun w' => w'.cell? ⟨g, i * 3, none⟩ = some (.bool xN) ∧ w'.cell? ⟨g, i * 3 + 1, none⟩ = some (.slice xU xl xc) ∧ w'.cell? ⟨g, i * 3 + 2, none⟩ = some (.slice xB xn xd) ∧ w'.cell? ⟨wb, i * 3, none⟩ = some (.bool uN) ∧ w'.cell? ⟨wb, i * 3 + 1, none⟩ = some (.slice uU ul uc) ∧ w'.cell? ⟨wb, i * 3 + 2, none⟩ = some (.slice uB un ud))
                ((first
                  | with_reducible exact ⟨cell_below x0 hb, cell_below x1 hb, cell_below x2 hb, cell_below u0 hb, cell_below u1' hb, cell_below u2 hb⟩
                  | with_reducible exact ⟨x0, x1, x2, u0, u1', u2⟩))
                (first
                  | (go_at_call 33; refine (rat_Cmp _ hX hU (rz_pos _) (rz_pos _) (by omega)).mono ?_; rw [hc0.out]; rintro e w7 ⟨rfl, hb⟩))
              all_goals
                have hBz := hBy.after hBy.size (hd.after hd.size hb)
                go_wp2_with fail
                go_roundw
                case rel => exact ⟨i + 1, by omega, by go_num, hBz⟩
                case measure => simp [intOf]; omega
            · obtain rfl : m = i := by omega
              have bi : ((m : Int) < (m : Int)) = False := eq_false (by omega)
              go_wp2_with fail
              go_ret
              exact ⟨rfl, hbf.out.after hbf.out.size hBy⟩
end Go.Proofs.Ytdbpjnjgjmfomaa

/- The law of the model, whole. -/
namespace Go.Proofs.Ytdbpjnjgjmfomaa
open Go.RowKit

set_option maxHeartbeats 8000000 in
set_option maxRecDepth 100000 in
theorem law_Model {S : Nat → Prop} {A : Option Addr} {c : Nat} {es : List Rt} (w : World) (hv : RsV S w A es) (hm : es.length ≤ 140737488351232) :
    Calls Try.prog 8 #[.slice A es.length c] w fun e w' => e = .returned (.bool true) ∧ Below w.heap.size w w' := by
  have H1 : As (Calls Try.prog 30 #[.slice A es.length c] w fun e w' => e = .returned (.bool (heavyB es)) ∧ Below w.heap.size w w') := ⟨law_heavy w hv hm⟩
  cases hH : heavyB es with
  | true =>
    rw [hH] at H1
    clear hv hH
    generalize es.length = n at *
    go_enter Try.func8, Try.ntmps8
    go_wp2_with fail
    refine H1.out.mono ?_
    rintro e w1 ⟨rfl, hb1⟩
    clear H1
    go_wp2_with fail
    go_ret
    exact ⟨rfl, hb1⟩
  | false =>
    by_cases h6 : es.length ≤ 6
    · by_cases hE : ckE es = 0
      · exact law_Model_ok w hv hH h6 hE
      · exact law_Model_no w hv hH h6 hE
    · rw [hH] at H1
      clear hv hH
      generalize es.length = n at *
      have b6 : (6 < (n : Int)) = True := eq_true (by omega)
      go_enter Try.func8, Try.ntmps8
      go_wp2_with fail
      refine H1.out.mono ?_
      rintro e w1 ⟨rfl, hb1⟩
      clear H1
      go_wp2_with fail
      go_ret
      exact ⟨rfl, hb1⟩
end Go.Proofs.Ytdbpjnjgjmfomaa

/- A list of ratios, opened. -/
namespace Go.Proofs.Ytdbpjnjgjmfomaa
open Go.RowKit Go.Deep Go.ChangeShapes

section
variable {H : Type} {enc : TypeId × Value → H} {W : World} {held : Bool} {fuel : Nat}
theorem open_nat {c : Value} {x : DataW H × List MemPlace} (h : DataW.trod enc Try.prog W 0 (fun _ => true) held fuel 36 [c] = some x) :
    ∃ U l d, c = .slice U l.length d ∧ NumV (fun _ => True) W (.slice U l.length d) l := by
  rcases open_ints Try.underlying36 Try.underlying100 (by kernel_rfl) h with ⟨hcs, _⟩ | ⟨a, len, cap, zs, hcs, _, hl, hm, hz, _, hcell, hwf⟩
  · refine ⟨none, [], 0, by simpa using hcs, fun y hy => by simp at hy, none, 0, rfl, Nat.le_refl _, Rd.nil _ _ _⟩
  · simp only [if_true] at hz
    have hlen : (zs.take len).length = len := by rw [List.length_take]; omega
    refine ⟨some a, zs.take len, cap, by rw [hlen]; simpa using hcs, fun y hy => ?_, some a, cap, rfl, by omega, fun _ => ⟨a, rfl, trivial, fun j v hj => ?_⟩⟩
    · have h1 := hwf y (List.mem_of_mem_take hy)
      simp [Lit.wf, IntKind.min, IntKind.max, IntKind.bits, IntKind.signed] at h1
      omega
    · have hjl : j < len := by
        have := (List.getElem?_eq_some_iff.1 hj).1
        rw [u32s_length, hlen] at this
        exact this
      rw [u32s_get _ j (by omega)] at hj
      injection hj with hj
      rw [hcell j (by omega), ← hj]
      congr 2
      rw [List.getD_eq_getElem?_getD, List.getD_eq_getElem?_getD, List.getElem?_take, if_pos hjl]
/-- One ratio's three cells. -/
theorem open_rat {c0 c1 c2 : Value} {x : DataW H × List MemPlace} (h : DataW.trod enc Try.prog W 0 (fun _ => true) held fuel 40 [c0, c1, c2] = some x) :
    ∃ e : Rt, ∃ U c B d, c0 = .bool e.1 ∧ c1 = .slice U e.2.1.length c ∧ c2 = .slice B e.2.2.length d ∧ NumV (fun _ => True) W (.slice U e.2.1.length c) e.2.1 ∧ NumV (fun _ => True) W (.slice B e.2.2.length d) e.2.2 := by
  obtain ⟨y0, y1, n1, _, _, t0, t1⟩ := trod_struct2 Try.underlying40 h
  rw [show Try.prog.cellsOf 38 = 2 by kernel_rfl] at t0
  rw [show Try.prog.cellsOf 36 = 1 by kernel_rfl] at t1
  obtain ⟨z0, z1, n2, _, _, s0, s1⟩ := trod_struct2 Try.underlying38 t0
  rw [show Try.prog.cellsOf 4 = 1 by kernel_rfl] at s0
  rw [show Try.prog.cellsOf 36 = 1 by kernel_rfl] at s1
  simp at s0 s1 t1
  obtain ⟨b, hb, _⟩ := DataW.trod_bool Try.underlying4 s0
  obtain ⟨U, l, c, rfl, hU⟩ := open_nat s1
  obtain ⟨B, t, d, rfl, hB⟩ := open_nat t1
  exact ⟨(b, l, t), U, c, B, d, by simpa using hb, rfl, rfl, hU, hB⟩
theorem open_rats {cs : List Value} {x : DataW H × List MemPlace} (h : DataW.trod enc Try.prog W 0 (fun _ => true) held fuel 49 cs = some x) :
    ∃ A es c, cs = [.slice A es.length c] ∧ RsV (fun _ => True) W A es ∧ (es = [] ∨ ∃ ds ss, x.1 = .slice ds ss ∧ ds.length = es.length) := by
  rcases open_slice Try.underlying49 h with ⟨hcs, _⟩ | ⟨a, len, cap, m, n, D, Pl, hcs, _, hl, _, hm, hx, hel⟩
  · exact ⟨none, [], 0, hcs, fun h => absurd rfl h, .inl rfl⟩
  · simp only [if_true] at hm
    subst hm
    rw [show Try.prog.cellsOf 40 = 3 by kernel_rfl] at hel
    have each : ∀ i, i < m → ∃ e : Rt, ∃ U c B d, W.cell? (a.add (i * 3)) = some (.bool e.1) ∧ W.cell? ⟨(a.add (i * 3)).block, (a.add (i * 3)).off + 1, none⟩ = some (.slice U e.2.1.length c) ∧ W.cell? ⟨(a.add (i * 3)).block, (a.add (i * 3)).off + 2, none⟩ = some (.slice B e.2.2.length d) ∧ NumV (fun _ => True) W (.slice U e.2.1.length c) e.2.1 ∧ NumV (fun _ => True) W (.slice B e.2.2.length d) e.2.2 := fun i hi => by
      obtain ⟨cs', hc, ht⟩ := hel i hi
      obtain ⟨_, hlen, hget⟩ := World.cells?_some hc
      match cs', hlen with
      | [c0, c1, c2], _ =>
        obtain ⟨e, U, c, B, d, rfl, rfl, rfl, hU, hB⟩ := open_rat ht
        have g0 := hget 0 (by omega)
        have g1 := hget 1 (by omega)
        have g2 := hget 2 (by omega)
        rw [addr_zero] at g0
        exact ⟨e, U, c, B, d, g0, g1, g2, hU, hB⟩
    obtain ⟨f, hf⟩ := choose_lt each
    have hfg : ∀ i, i < len → ((List.range len).map f).getD i rt0 = f i := fun i hi => by
      rw [List.getD_eq_getElem?_getD, List.getElem?_map, List.getElem?_range hi]; rfl
    refine ⟨some a, (List.range len).map f, m, by simpa using hcs, fun _ => ⟨a, rfl, trivial, fun i hi => ?_⟩, .inr ⟨_, _, by rw [hx], by simp⟩⟩
    simp at hi
    obtain ⟨U, c, B, d, h0, h1, h2, h3, h4⟩ := hf i (by omega)
    rw [hfg i hi]
    exact ⟨U, c, B, d, h0, h1, h2, h3, h4⟩
end
end Go.Proofs.Ytdbpjnjgjmfomaa
