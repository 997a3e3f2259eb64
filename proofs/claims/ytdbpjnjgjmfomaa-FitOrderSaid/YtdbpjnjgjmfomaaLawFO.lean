/- FitOrder says yes at every list of ratios. -/
import Derived.Test.YtdbpjnjgjmfomaaFitOrd
import Derived.Test.YtdbpjnjgjmfomaaOwnB
namespace Go.Proofs.Ytdbpjnjgjmfomaa
open Go.RowKit

theorem IntsV.own {w W : World} {B g : Nat} {v : Value} {l : List Int} (h : OwnI w B v l) (hg : w.heap.size ≤ g) (hb : Below g w W) : IntsV (fun k => k < g) W v l :=
  (h.ints.mono (T := fun k => k < g) (fun k h1 _ => by have := h1.2.1; omega)).step (fun k hk _ => hb.block k hk)
theorem InsP.inr {q : Int → Rat} {n : Nat} {l : List Int} (h : InsP q n l (max 1 n)) (t : Nat) (ht : t < n) : ∃ m : Nat, m < n ∧ l.getD t 0 = (m : Int) := by
  have := h.lo t (by omega) ht
  exact ⟨(l.getD t 0).toNat, by omega, by omega⟩
/-- What has been seen behind one step more. -/
theorem seen_step {sb : List Bool} {l : List Int} {n k m : Nat} (hl : sb.length = n) (hm : m < n) (hlk : l.getD k 0 = (m : Int)) (h : ∀ x : Nat, x < n → (sb.getD x false = true ↔ ∃ s, s < k ∧ l.getD s 0 = (x : Int))) :
    ∀ x : Nat, x < n → ((sb.set m true).getD x false = true ↔ ∃ s, s < k + 1 ∧ l.getD s 0 = (x : Int)) := by
  intro x hx
  rw [List.getD_eq_getElem?_getD, List.getElem?_set]
  by_cases e : m = x
  · subst e
    rw [if_pos rfl, if_pos (by omega)]
    simp only [Option.getD_some, true_iff]
    exact ⟨k, by omega, hlk⟩
  · rw [if_neg e, ← List.getD_eq_getElem?_getD, h x hx]
    constructor
    · rintro ⟨s, h1, h2⟩
      exact ⟨s, by omega, h2⟩
    · rintro ⟨s, h1, h2⟩
      by_cases es : s = k
      · subst es; rw [hlk] at h2; omega
      · exact ⟨s, by omega, h2⟩

set_option maxHeartbeats 16000000 in
set_option maxRecDepth 100000 in
theorem law_Order {S : Nat → Prop} {A : Option Addr} {c : Nat} {es : List Rt} (w : World) (hv : RsV S w A es) (hm : es.length ≤ 140737488351232) :
    Calls Try.prog 11 #[.slice A es.length c] w fun e w' => e = .returned (.bool true) ∧ Below w.heap.size w w' := by
  obtain ⟨n, hn⟩ : ∃ n, es.length = n := ⟨_, rfl⟩
  have HR : As (∀ W, Below w.heap.size w W → ∀ k, k < n → ∃ ad, A = some ad ∧ ∃ N U k' c B m d, W.cell? (ad.add (k * 3)) = some (.bool N) ∧ W.cell? ⟨(ad.add (k * 3)).block, (ad.add (k * 3)).off + 1, none⟩ = some (.slice U k' c) ∧ W.cell? ⟨(ad.add (k * 3)).block, (ad.add (k * 3)).off + 2, none⟩ = some (.slice B m d) ∧ k' = (es.getD k rt0).2.1.length ∧ m = (es.getD k rt0).2.2.length ∧ RatI S W (.agg #[.bool N, .slice U k' c, .slice B m d]) (qe (es.getD k rt0)) (max (es.getD k rt0).2.1.length (es.getD k rt0).2.2.length)) := ⟨fun W hb k hk => (hv.below hb).at k (by omega)⟩
  have HO : As (Short es → ∀ W, Below w.heap.size w W → Calls Try.prog 40 #[.slice A n c] W fun e w' => Below W.heap.size W w' ∧ ((ckE es ≠ 0 ∧ e = .returned (.tuple #[.slice none 0 0, .int .i64 (ckE es)])) ∨
      (ckE es = 0 ∧ ∃ v l, e = .returned (.tuple #[v, .int .i64 0]) ∧ OwnI w' W.heap.size v l ∧ InsP (qi es) n l (max 1 n)))) := ⟨fun hl W hb => by
    have := fit_Order (c := c) W (hv.below hb) hm hl
    rwa [hn] at this⟩
  have HN : As (Short es → ckE es ≠ 0 → ∀ W, Below w.heap.size w W → Calls Try.prog 31 #[.slice A n c] W fun e w' => e = .returned (.tuple #[.slice none 0 0, .int .i64 (ckE es)]) ∧ Below W.heap.size W w') := ⟨fun hl hE W hb => by
    have := fit_Null_no (c := c) W (hv.below hb) hm hl hE
    rwa [hn] at this⟩
  have hSh : As ((∀ i, i < n → i < 30 → (es.getD i rt0).2.1.length ≤ 20 ∧ (es.getD i rt0).2.2.length ≤ 20) → Short es) := ⟨fun h h20 i hi => by
    have := h i (by omega) (by omega)
    omega⟩
  have hnn : es.length = n := hn
  have hE20 := As.mk (fun h => hn ▸ ckE_zero (es := es) h)
  rw [hn] at hm ⊢
  clear hv hn
  go_enter Try.func11, Try.ntmps11
  go_wp2_with fail
  go_loopw [3] (fun v3 wr => ∃ k : Nat, k ≤ n ∧ k ≤ 30 ∧ v3 = .int .i64 k ∧ As (∀ i, i < k → (es.getD i rt0).2.1.length ≤ 20 ∧ (es.getD i rt0).2.2.length ≤ 20) ∧ wr = w) (fun v3 _ => (n - intOf v3).toNat)
  case atStart => exact ⟨0, by omega, by omega, rfl, ⟨fun i h => by omega⟩, rfl⟩
  case round =>
    obtain ⟨k, hk, hk30, rfl, hI, hwr⟩ := hrel
    obtain rfl := hwr.symm
    by_cases hgo : k < n ∧ k < 30
    · obtain ⟨hlt, hlt30⟩ := hgo
      obtain ⟨ad, hA, ppN, ppA, ppk, ppc, ppB, ppm, ppd, h0, h1, h2, e1, e2, _⟩ := HR.out _ (Below.refl _ _) k hlt
      subst hA
      have hst : As (ppk ≤ 20 → ppm ≤ 20 → ∀ i, i < k + 1 → (es.getD i rt0).2.1.length ≤ 20 ∧ (es.getD i rt0).2.2.length ≤ 20) := ⟨fun h3 h4 i hi => by
        by_cases e : i = k
        · subst e; omega
        · exact hI.out i (by omega)⟩
      clear e1 e2
      have p1 := eq_true (show 0 ≤ (k : Int) by omega)
      have p2 := eq_true (show (k : Int) < (n : Int) by omega)
      by_cases hu : 20 < ppk
      · clear hst hI HO HN HR
        go_wp2_with fail
        go_ret
        exact ⟨rfl, Below.refl _ _⟩
      · by_cases hd : 20 < ppm
        · clear hst hI HO HN HR
          go_wp2_with fail
          go_ret
          exact ⟨rfl, Below.refl _ _⟩
        · have hst2 := As.mk (hst.out (by omega) (by omega))
          clear hst hI
          go_wp2_with fail
          go_roundw
          case rel => exact ⟨k + 1, by omega, by omega, by go_num, hst2, by first | rfl | trivial⟩
          case measure => simp [intOf]; omega
    · have hS := hSh.out (fun i h1 h2 => hI.out i (by omega))
      have HO1 := As.mk (HO.out hS w (Below.refl _ _))
      have HN1 := As.mk (fun h => HN.out hS h)
      clear HO HN hI hSh
      obtain ⟨E, hE⟩ : ∃ E, ckE es = E := ⟨_, rfl⟩
      rw [hE] at HO1 HN1 hE20
      have hS20 : As (n ≤ 20 → ∀ i, i < n → (es.getD i rt0).2.1.length ≤ 1000 ∧ (es.getD i rt0).2.2.length ≤ 1000) := ⟨fun h i hi => hS (hnn ▸ h) i (hnn ▸ hi)⟩
      clear hE hS
      have hfail : As (E ≠ 0 → True) := ⟨fun _ => trivial⟩
      clear hfail
      by_cases hE0 : E = 0
      case neg =>
        have hEb : (E == 0) = false := beq_eq_false_iff_ne.2 hE0
        have HO2 : As (Calls Try.prog 40 #[.slice A n c] w fun e w' => Below w.heap.size w w' ∧ e = .returned (.tuple #[.slice none 0 0, .int .i64 E])) := ⟨HO1.out.mono fun e w' ⟨h1, h2⟩ => by
          rcases h2 with ⟨_, h⟩ | ⟨h, _⟩
          · exact ⟨h1, h⟩
          · exact absurd h hE0⟩
        have HN2 := As.mk (HN1.out hE0)
        clear HO1 HN1 hE20 HR
        by_cases hkn : k < n
        · have bk : ((k : Int) < (n : Int)) = True := eq_true (by omega)
          have b30 : ((k : Int) < 30) = False := eq_false (by omega)
          replace hE0 := As.mk hE0
          go_wp2_with fail
          refine HO2.out.mono ?_
          rintro e w2 ⟨hB2, rfl⟩
          go_wp2_with fail
          refine (HN2.out _ hB2).mono ?_
          rintro e w3 ⟨rfl, hb3⟩
          have hB3 := hB2.after hB2.size hb3
          clear HO2 HN2 hB2 hb3
          go_wp2_with fail
          go_ret
          exact ⟨by simp, hB3⟩
        · have bk : ((k : Int) < (n : Int)) = False := eq_false (by omega)
          replace hE0 := As.mk hE0
          go_wp2_with fail
          refine HO2.out.mono ?_
          rintro e w2 ⟨hB2, rfl⟩
          go_wp2_with fail
          refine (HN2.out _ hB2).mono ?_
          rintro e w3 ⟨rfl, hb3⟩
          have hB3 := hB2.after hB2.size hb3
          clear HO2 HN2 hB2 hb3
          go_wp2_with fail
          go_ret
          exact ⟨by simp, hB3⟩
      subst hE0
      have h20 := hE20.out rfl
      obtain rfl : k = n := by omega
      have HO2 : As (Calls Try.prog 40 #[.slice A k c] w fun e w' => Below w.heap.size w w' ∧ ∃ v l, e = .returned (.tuple #[v, .int .i64 0]) ∧ OwnI w' w.heap.size v l ∧ InsP (qi es) k l (max 1 k)) := ⟨HO1.out.mono fun e w' ⟨h1, h2⟩ => by
        rcases h2 with ⟨h, _⟩ | ⟨_, h⟩
        · exact absurd rfl h
        · exact ⟨h1, h⟩⟩
      clear HO1 HN1 hE20 hgo hk30 hk
      generalize hnk : k = n at *
      clear hnk
      have hlen20 := hS20.out h20
      go_wp2_with fail
      refine HO2.out.mono ?_
      rintro e w2 ⟨hB2, v, l, rfl, hO2, hP⟩
      obtain ⟨L, cl, rfl⟩ := hO2.slice
      have hll := hP.len
      rw [hll]
      clear HO2
      have hmk : ∀ W, (Instr.makeSlice 22 (.int .i64 (n : Int)) (.int .i64 (n : Int))).run Try.prog W = .ok (.slice (some ⟨W.heap.size, 0, none⟩) n n) (W.alloc (.cells (madeCells #[.bool false] n) 4)) :=
        fun W => make_bools 22 Try.underlying22 (by kernel_rfl) n n (by omega) (by omega) W
      have hW3 := (Below.refl w2.heap.size w2).alloc (Nat.le_refl _) (.cells (madeCells #[.bool false] n) 4)
      have hLi := IntsV.own hO2 (Nat.le_refl _) hW3
      have hb0 := OwnB.made w2 w2.heap.size n (Nat.le_refl _) (by omega)
      have b20 : (20 < (n : Int)) = False := eq_false (by omega)
      rw [hll] at hLi
      replace hll := As.mk hll
      replace hP := As.mk hP
      clear hO2
      have hB3 := hB2.after hB2.size hW3
      have hwg := hB2.size
      go_wp2_with fail
      clear hB2 hmk
      generalize w2.alloc (.cells (madeCells #[.bool false] n) 4) = W3 at *
      generalize w2.heap.size = gs at *
      go_loopw [9, 10] (fun v9 _ wr => ∃ (k : Nat) (sb : List Bool), k ≤ n ∧ v9 = .int .i64 k ∧ Below gs W3 wr ∧ OwnB wr gs (.slice (some ⟨gs, 0, none⟩) n n) sb ∧ As (sb.length = n ∧ ∀ x : Nat, x < n → (sb.getD x false = true ↔ ∃ s, s < k ∧ l.getD s 0 = (x : Int)))) (fun v9 _ _ => (n - intOf v9).toNat)
      case atStart => exact ⟨0, List.replicate n false, by omega, rfl, Below.refl _ _, hb0, ⟨by simp, fun x hx => by
        rw [List.getD_eq_getElem?_getD, List.getElem?_replicate, if_pos hx]
        constructor
        · intro h; cases h
        · rintro ⟨s, h, _⟩; omega⟩⟩
      case round =>
        clear hb0
        obtain ⟨k, sb, hk, rfl, hB, hO, hsb⟩ := hrel
        have hBw := hB3.trans (hB.mono hwg)
        by_cases hlt : k < n
        · obtain ⟨m, hm, hlm⟩ := hP.out.inr k hlt
          obtain ⟨al, hL, hlc⟩ := (hLi.step (w1 := wr) (fun j hj _ => hB.block j hj)).cells (by rw [hll.out]; omega)
          subst hL
          have l1 := hlc k (by rw [hll.out]; exact hlt)
          rw [hlm] at l1
          have hns : sb.getD m false = false := by
            cases h : sb.getD m false with
            | false => rfl
            | true =>
              obtain ⟨s, h1, h2⟩ := (hsb.out.2 m hm).1 h
              have := (hP.out.ord s k h1 (by omega) hlt).ne
              rw [h2, hlm] at this
              exact absurd rfl this
          obtain ⟨hc, hf⟩ := hO.cell m (by rw [hsb.out.1]; exact hm)
          rw [hns] at hc
          have hO1 := hO.store m true
          have hsb1 := As.mk (And.intro (show (sb.set m true).length = n by rw [List.length_set]; exact hsb.out.1) (seen_step hsb.out.1 hm hlm hsb.out.2))
          have hB1 : Below gs W3 (wr.setCell ⟨gs, m, none⟩ (.bool true)) := hB.setCell (by exact Nat.le_refl _) _
          have hsw : (wr.setCell ⟨gs, m, none⟩ (.bool true)).heap.size = wr.heap.size := by simp [World.setCell]
          have bk : ((k : Int) < (n : Int)) = True := eq_true (by omega)
          have bk0 : (0 ≤ (k : Int)) = True := eq_true (by omega)
          have bm1 : ((m : Int) < (n : Int)) = True := eq_true (by omega)
          have bm0 : (0 ≤ (m : Int)) = True := eq_true (by omega)
          have bmn : ((n : Int) ≤ (m : Int)) = False := eq_false (by omega)
          clear hns hlc hO hB hsb
          by_cases hk0 : k = 0
          · subst hk0
            clear hlm hLi HR hlen20
            rw [addr_zero] at l1
            rw [show ((0 : Nat) : Int) = 0 from rfl] at *
            go_wp2_with fail
            go_roundw
            case rel => exact ⟨1, sb.set m true, by omega, by first | rfl | go_num, hB1, hO1, hsb1⟩
            case measure => simp [intOf]; omega
          · obtain ⟨j, hj⟩ : ∃ j, k = j + 1 := ⟨k - 1, by omega⟩
            obtain ⟨y, hy, hly⟩ := hP.out.inr j (by omega)
            have R := hP.out.ord j k (by omega) (by omega) hlt
            rw [hly, hlm] at R
            have hBw1 := hB3.trans (hB1.mono hwg)
            obtain ⟨al', e, hlc⟩ := (hLi.step (w1 := wr.setCell ⟨gs, m, none⟩ (.bool true)) (fun j hj _ => hB1.block j hj)).cells (by rw [hll.out]; omega)
            injection e with e
            subst e
            have l0 := hlc j (by rw [hll.out]; omega)
            have l1' := hlc k (by rw [hll.out]; exact hlt)
            rw [hly] at l0
            rw [hlm] at l1'
            obtain ⟨ad, hA, yyN, yyA, yyk, yyc, yyB, yym, yyd, y0, y1, y2, ey1, ey2, hIy⟩ := HR.out _ hBw1 y hy
            obtain ⟨ad', e, mmN, mmA, mmk, mmc, mmB, mmm, mmd, m0, m1, m2, em1, em2, hIm⟩ := HR.out _ hBw1 m hm
            subst hA
            injection e with e
            subst e
            have hly20 := hlen20 y hy
            have hlm20 := hlen20 m hm
            replace hIy := (hIy.le (n := 1000) (by omega) : RatI S _ _ _ 1000)
            replace hIm := (hIm.le (n := 1000) (by omega) : RatI S _ _ _ 1000)
            have hqy : qi es (y : Int) = qe (es.getD y rt0) := by simp [qi]
            have hqm : qi es (m : Int) = qe (es.getD m rt0) := by simp [qi]
            unfold Rl at R
            rw [hqy, hqm] at R
            clear hqy hqm ey1 ey2 em1 em2 hly20 hlm20 hlc hly hlm HR hlen20 hLi
            generalize qe (es.getD y rt0) = p at *
            generalize qe (es.getD m rt0) = q at *
            have hw : IntKind.i64.wrap ((k : Int) - 1) = (j : Int) := by rw [show (k : Int) - 1 = (j : Int) by omega]; exact IntWalk.i64_in _ (by omega)
            have bk1 : (0 < (k : Int)) = True := eq_true (by omega)
            have bk1n : (0 < k) = True := eq_true (by omega)
            have bj1 : ((j : Int) < (n : Int)) = True := eq_true (by omega)
            have bj1n : j < n := by omega
            have bj0 : (0 ≤ (j : Int)) = True := eq_true (by omega)
            have by1 : ((y : Int) < (n : Int)) = True := eq_true (by omega)
            have by0 : (0 ≤ (y : Int)) = True := eq_true (by omega)
            replace hj := As.mk hj
            obtain ⟨s, hs⟩ : ∃ s, cmpR p q = s := ⟨_, rfl⟩
            have hR2 : (s = 1) ∨ (s = 0 ∧ ¬ m < y) := by
              rcases R with h | ⟨h, h2⟩
              · exact .inl (by rw [← hs]; exact cmpR_pos h)
              · refine .inr ⟨?_, by omega⟩
                rw [← hs]
                unfold cmpR
                rw [if_neg (by rw [h]; exact Rat.lt_irrefl), if_pos h]
            clear R
            replace hs := As.mk hs
            go_wp2_with fail
            clear l1 hc hf
            generalize wr.setCell ⟨gs, m, none⟩ (.bool true) = W6 at *
            have hd6 := (Below.refl W6.heap.size W6).drew
            replace l0 := cell_below l0 hd6
            have l1 := cell_below l1' hd6
            replace y0 := cell_below y0 hd6
            replace y1 := cell_below y1 hd6
            replace y2 := cell_below y2 hd6
            replace m0 := cell_below m0 hd6
            replace m1 := cell_below m1 hd6
            replace m2 := cell_below m2 hd6
            have hy' := hIy.below hd6
            have hm' := hIm.below hd6
            have hgs6 : gs ≤ W6.heap.size := Nat.le_of_lt (World.ownsRow.lt hO1 gs rfl).2
            have hB7 := hB1.after hgs6 hd6
            have hO7 := hO1.below hd6
            clear hIy hIm l1' hd6 hB1 hO1
            go_region_held3 (fun w' => w'.cell? (al.add j) = some (.int .i64 (y : Int)) ∧ w'.cell? (al.add k) = some (.int .i64 (m : Int)) ∧ w'.cell? (ad.add (y * 3)) = some (.bool yyN) ∧ w'.cell? ⟨(ad.add (y * 3)).block, (ad.add (y * 3)).off + 1, none⟩ = some (.slice yyA yyk yyc) ∧ w'.cell? ⟨(ad.add (y * 3)).block, (ad.add (y * 3)).off + 2, none⟩ = some (.slice yyB yym yyd) ∧ w'.cell? (ad.add (m * 3)) = some (.bool mmN) ∧ w'.cell? ⟨(ad.add (m * 3)).block, (ad.add (m * 3)).off + 1, none⟩ = some (.slice mmA mmk mmc) ∧ w'.cell? ⟨(ad.add (m * 3)).block, (ad.add (m * 3)).off + 2, none⟩ = some (.slice mmB mmm mmd))
              ((first
                | exact ⟨l0, l1, y0, y1, y2, m0, m1, m2⟩
                | exact ⟨cell_below l0 hb, cell_below l1 hb, cell_below y0 hb, cell_below y1 hb, cell_below y2 hb, cell_below m0 hb, cell_below m1 hb, cell_below m2 hb⟩))
              (first
                | (go_at_call 33; refine (rat_Cmp _ hy' hm' (by omega) (by omega) (by omega)).mono ?_; rw [hs.out]; rintro e w9 ⟨rfl, hb⟩))
            all_goals
              have hB9 := hB7.after (by simpa using hgs6) hb
              have hO9 := hO7.below hb
              have hBq := As.mk (fun m => hB9.drewsN m)
              have hOq := As.mk (fun m => OwnB.drewN hO9 m)
              have l09 := cell_below l0 hb
              have l19 := cell_below l1 hb
              clear hB7 hO7 hB9 hO9 hb
              rcases hR2 with rfl | ⟨rfl, hmy⟩
              · go_wp2_with fail
                go_quiet (fail)
                go_wp2_with fail
                go_roundw
                case rel => exact ⟨k + 1, sb.set m true, by omega, by go_num, hBq.out _, hOq.out _, hsb1⟩
                case measure => simp [intOf]; omega
              · have bmy : ((m : Int) < (y : Int)) = False := eq_false (by omega)
                have bmyn : (m < y) = False := eq_false hmy
                go_wp2_with fail
                go_quiet (fail)
                go_wp2_with fail
                go_roundw
                case rel => exact ⟨k + 1, sb.set m true, by omega, by go_num, hBq.out _, hOq.out _, hsb1⟩
                case measure => simp [intOf]; omega
        · obtain rfl : k = n := by omega
          clear hLi HR hlen20 hO hB
          go_wp2_with fail
          go_ret
          exact ⟨rfl, hBw⟩
end Go.Proofs.Ytdbpjnjgjmfomaa
