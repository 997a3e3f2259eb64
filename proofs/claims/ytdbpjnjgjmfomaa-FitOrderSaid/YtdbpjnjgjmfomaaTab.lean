/- classical: the error of a table of rows. -/
import Derived.Test.YtdbpjnjgjmfomaaCls3
namespace Go.Proofs.Ytdbpjnjgjmfomaa
open Go.RowKit

/-- A value of type [][]int reads as these rows. -/
def RowsV (S : Nat → Prop) (w : World) (v : Value) (rows : List (List Int)) : Prop :=
  ∃ A c, v = .slice A rows.length c ∧ rows.length ≤ c ∧ (rows ≠ [] → ∃ ad, A = some ad ∧ S ad.block ∧ ∀ i, i < rows.length → ∃ u, w.cell? (ad.add i) = some u ∧ IntsV S w u (rows.getD i []))
theorem add_block (ad : Addr) (i : Nat) : (ad.add i).block = ad.block := by unfold Addr.add; split <;> rfl
theorem RowsV.step {S : Nat → Prop} {w w1 : World} {v : Value} {rows : List (List Int)} (h : RowsV S w v rows) (hm : ∀ k, S k → k < w.heap.size → w1.heap[k]? = w.heap[k]?) : RowsV S w1 v rows := by
  obtain ⟨A, c, rfl, hc, hr⟩ := h
  refine ⟨A, c, rfl, hc, fun hn => ?_⟩
  obtain ⟨ad, e, hs, hcell⟩ := hr hn
  refine ⟨ad, e, hs, fun i hi => ?_⟩
  obtain ⟨u, h1, h2⟩ := hcell i hi
  refine ⟨u, (World.cell?_of_block (hm _ (by rw [add_block]; exact hs) (World.block_lt_of_cell? w _ h1))).trans h1, h2.step hm⟩
theorem RowsV.below {S : Nat → Prop} {w w1 : World} {v : Value} {rows : List (List Int)} (h : RowsV S w v rows) (hb : Below w.heap.size w w1) : RowsV S w1 v rows := h.step (fun k _ hk => hb.block k hk)
theorem RowsV.mono {S T : Nat → Prop} {w : World} {v : Value} {rows : List (List Int)} (h : RowsV S w v rows) (hm : ∀ k, S k → k < w.heap.size → T k) : RowsV T w v rows := by
  obtain ⟨A, c, rfl, hc, hr⟩ := h
  refine ⟨A, c, rfl, hc, fun hn => ?_⟩
  obtain ⟨ad, e, hs, hcell⟩ := hr hn
  have h0 := hcell 0 (List.length_pos_iff.2 hn)
  obtain ⟨u0, h01, _⟩ := h0
  refine ⟨ad, e, hm _ hs (by have := World.block_lt_of_cell? w _ h01; rwa [add_block] at this), fun i hi => ?_⟩
  obtain ⟨u, h1, h2⟩ := hcell i hi
  exact ⟨u, h1, h2.mono hm⟩
theorem RowsV.slice {S : Nat → Prop} {w : World} {v : Value} {rows : List (List Int)} (h : RowsV S w v rows) : ∃ A c, v = .slice A rows.length c := by
  obtain ⟨A, c, e, _⟩ := h
  exact ⟨A, c, e⟩
theorem RowsV.row {S : Nat → Prop} {w : World} {A : Option Addr} {n c : Nat} {rows : List (List Int)} (h : RowsV S w (.slice A n c) rows) (hl : 0 < rows.length) : ∃ ad, A = some ad ∧ ∀ i, i < rows.length → ∃ B d, w.cell? (ad.add i) = some (.slice B (rows.getD i []).length d) ∧ IntsV S w (.slice B (rows.getD i []).length d) (rows.getD i []) := by
  obtain ⟨A', c', e, hc, hr⟩ := h
  injection e with e1 e2 e3
  subst e1
  obtain ⟨ad, e, _, hcell⟩ := hr (fun e => by simp [e] at hl)
  refine ⟨ad, e, fun i hi => ?_⟩
  obtain ⟨u, h1, h2⟩ := hcell i hi
  obtain ⟨B, d, rfl⟩ := h2.slice
  exact ⟨B, d, h1, h2⟩

theorem addr_zero (ad : Addr) : ad.add 0 = ad := by unfold Addr.add; simp
theorem any_drop {α : Type} (l : List α) (p : α → Bool) (d : α) (k : Nat) (h : k < l.length) : (l.drop k).any p = (p (l.getD k d) || (l.drop (k + 1)).any p) := by
  rw [List.drop_eq_getElem_cons h, List.any_cons, List.getD_eq_getElem?_getD, List.getElem?_eq_getElem h]; rfl
def long (r : List Int) : Bool := decide (60 < r.length)
def wild (r : List Int) : Bool := !okScores r
def odd (n : Nat) (r : List Int) : Bool := decide (r.length < 2) || decide (r.length ≠ n)
def tableE (rows : List (List Int)) : Int :=
  if 200 < rows.length then 5 else if rows.any long then 5 else if rows.any wild then 3 else if rows.any (odd (rows.getD 0 []).length) then 1 else if rows.length = 0 then 20 else 0

set_option maxHeartbeats 8000000 in
set_option maxRecDepth 100000 in
theorem cls_table {S : Nat → Prop} {v : Value} {rows : List (List Int)} (w : World) (hv : RowsV S w v rows) (hm : rows.length ≤ 140737488351232) (hr : ∀ i, (rows.getD i []).length ≤ 140737488351232) :
    Calls Try.prog 83 #[v] w fun e w' => e = .returned (.int .i64 (tableE rows)) ∧ Drawn w w' := by
  obtain ⟨A, c, rfl⟩ := hv.slice
  obtain ⟨n, hn⟩ : ∃ n, rows.length = n := ⟨_, rfl⟩
  rw [hn] at hm hv ⊢
  have hE : As (tableE rows = if 200 < n then 5 else if rows.any long then 5 else if rows.any wild then 3 else if rows.any (odd (rows.getD 0 []).length) then 1 else if n = 0 then 20 else 0) := ⟨by unfold tableE; rw [hn]⟩
  generalize tableE rows = E at *
  replace hn := As.mk hn
  have hrow : As (∀ W, Drawn w W → ∀ k, k < n → ∃ ad, A = some ad ∧ ∃ B d, W.cell? (ad.add k) = some (.slice B (rows.getD k []).length d) ∧ IntsV S W (.slice B (rows.getD k []).length d) (rows.getD k [])) := ⟨fun W hd k hk => by
    obtain ⟨ad, e, h⟩ := (hv.below hd.below).row (by rw [hn.out]; omega)
    exact ⟨ad, e, h k (by rw [hn.out]; exact hk)⟩⟩
  have hsc : As (∀ W B d k, IntsV S W (.slice B (rows.getD k []).length d) (rows.getD k []) → Calls Try.prog 42 #[.slice B (rows.getD k []).length d] W fun e w' => e = .returned (.bool (okScores (rows.getD k []))) ∧ Drawn W w') := ⟨fun W B d k h => cls_scores W h (hr k)⟩
  have hdr : As (∀ p k, k < n → (rows.drop k).any p = (p (rows.getD k []) || (rows.drop (k + 1)).any p)) := ⟨fun p k hk => any_drop rows p [] k (by rw [hn.out]; exact hk)⟩
  have hdn : As (∀ p, (rows.drop n).any p = false) := ⟨fun p => by rw [← hn.out]; simp⟩
  replace hr := As.mk hr
  clear hv
  go_enter Try.func83, Try.ntmps83
  by_cases hbig : 200 < n
  · have hE2 := As.mk (show E = 5 by rw [hE.out, if_pos hbig])
    clear hE
    go_wp2_with fail
    go_ret
    exact ⟨ret_int hE2.out.symm, by repeat (first | exact Drawn.refl _ | apply Drawn.step)⟩
  replace hE := As.mk (hE.out.trans (if_neg hbig))
  go_wp2_with fail
  go_loopw [4, 14] (fun _ v14 wr => ∃ k : Nat, k ≤ n ∧ v14 = .int .i64 k ∧ As (rows.any long = (rows.drop k).any long) ∧ Drawn w wr) (fun _ v14 _ => (n - intOf v14).toNat)
  case atStart => exact ⟨0, by omega, rfl, ⟨by simp⟩, by repeat (first | exact Drawn.refl _ | apply Drawn.step)⟩
  case round =>
    obtain ⟨k, hk, rfl, hI, hd⟩ := hrel
    by_cases hlt : k < n
    · obtain ⟨ad, hA, B, d, hcell, _⟩ := hrow.out _ hd k hlt
      subst hA
      have hst := As.mk (hdr.out long k hlt)
      have hlr := hr.out k
      obtain ⟨L, hL⟩ : ∃ L, (rows.getD k []).length = L := ⟨_, rfl⟩
      rw [hL] at hcell hlr
      have hp : As (long (rows.getD k []) = decide (60 < L)) := ⟨by rw [← hL]; rfl⟩
      replace hL := As.mk hL
      by_cases h60 : 60 < L
      · have R := As.mk (show E = 5 by rw [hE.out, if_pos (by rw [hI.out, hst.out, hp.out, decide_eq_true h60]; rfl)])
        clear hE hI hst
        go_wp2_with fail
        go_ret
        exact ⟨ret_int R.out.symm, by repeat (first | exact hd | apply Drawn.step)⟩
      · have R : As (rows.any long = (rows.drop (k + 1)).any long) := ⟨by rw [hI.out, hst.out, hp.out, decide_eq_false h60]; rfl⟩
        clear hI hst
        go_wp2_with fail
        go_roundw
        case rel => exact ⟨k + 1, by omega, by go_num, R, by repeat (first | exact hd | apply Drawn.step)⟩
        case measure => simp [intOf]; omega
    · obtain rfl : k = n := by omega
      replace hE := As.mk (hE.out.trans (if_neg (by rw [hI.out, hdn.out]; simp)))
      clear hI
      go_wp2_with fail
      go_loopw [6, 24] (fun _ v24 wr => ∃ j : Nat, j ≤ k ∧ v24 = .int .i64 j ∧ As (rows.any wild = (rows.drop j).any wild) ∧ Drawn w wr) (fun _ v24 _ => (k - intOf v24).toNat)
      case atStart => exact ⟨0, by omega, rfl, ⟨by simp⟩, by repeat (first | exact hd | apply Drawn.step)⟩
      case round =>
        clear hd
        obtain ⟨j, hj, rfl, hI, hd⟩ := hrel
        by_cases hlt : j < k
        · obtain ⟨ad, hA, B, d, hcell, hiv⟩ := hrow.out _ hd j hlt
          subst hA
          have hst := As.mk (hdr.out wild j hlt)
          have H := As.mk (hsc.out _ _ _ _ hiv)
          clear hiv
          have hlr := hr.out j
          have hp : As (wild (rows.getD j []) = !okScores (rows.getD j [])) := ⟨rfl⟩
          generalize (rows.getD j []).length = L at *
          generalize okScores (rows.getD j []) = O at *
          have b0 : ((j : Int) < (k : Int)) = True := eq_true (by omega)
          go_wp2_with fail
          refine H.out.mono ?_
          rintro e w1 ⟨rfl, ⟨m1, rfl⟩⟩
          cases O
          · have R := As.mk (show E = 3 by rw [hE.out, if_pos (by rw [hI.out, hst.out, hp.out]; rfl)])
            clear hE hI hst H
            go_wp2_with fail
            go_ret
            exact ⟨ret_int R.out.symm, by repeat (first | exact hd | apply Drawn.step)⟩
          · have R : As (rows.any wild = (rows.drop (j + 1)).any wild) := ⟨by rw [hI.out, hst.out, hp.out]; rfl⟩
            clear hI hst H
            go_wp2_with fail
            go_roundw
            case rel => exact ⟨j + 1, by omega, by go_num, R, by repeat (first | exact hd | apply Drawn.step)⟩
            case measure => simp [intOf]; omega
        · obtain rfl : j = k := by omega
          replace hE := As.mk (hE.out.trans (if_neg (by rw [hI.out, hdn.out]; simp)))
          clear hI hsc
          go_wp2_with fail
          go_loopw [8, 34] (fun _ v34 wr => ∃ i : Nat, i ≤ j ∧ v34 = .int .i64 i ∧ As (rows.any (odd (rows.getD 0 []).length) = (rows.drop i).any (odd (rows.getD 0 []).length)) ∧ Drawn w wr) (fun _ v34 _ => (j - intOf v34).toNat)
          case atStart => exact ⟨0, by omega, rfl, ⟨by simp⟩, by repeat (first | exact hd | apply Drawn.step)⟩
          case round =>
            clear hd
            obtain ⟨i, hi, rfl, hI, hd⟩ := hrel
            by_cases hlt : i < j
            · obtain ⟨ad0, hA0, B0, d0, hcell0, _⟩ := hrow.out _ hd 0 (by omega)
              obtain ⟨ad, hA, B, d, hcell, _⟩ := hrow.out _ hd i hlt
              obtain rfl : ad0 = ad := by rw [hA0] at hA; injection hA
              subst hA0
              rw [addr_zero] at hcell0
              have hst := As.mk (hdr.out (odd (rows.getD 0 []).length) i hlt)
              have hlr := hr.out i
              have hlr0 := hr.out 0
              have hp : As (odd (rows.getD 0 []).length (rows.getD i []) = (decide ((rows.getD i []).length < 2) || decide ((rows.getD i []).length ≠ (rows.getD 0 []).length))) := ⟨rfl⟩
              obtain ⟨L, hL⟩ : ∃ L, (rows.getD i []).length = L := ⟨_, rfl⟩
              obtain ⟨L0, hL0⟩ : ∃ L0, (rows.getD 0 []).length = L0 := ⟨_, rfl⟩
              have hp2 := hp.out
              rw [hL, hL0] at hp2
              rw [hL] at hcell hlr
              rw [hL0] at hcell0 hlr0 hI hst hE ⊢
              replace hL := As.mk hL
              replace hL0 := As.mk hL0
              replace hp2 := As.mk hp2
              have b0 : ((i : Int) < (j : Int)) = True := eq_true (by omega)
              have b1 : (0 < (j : Int)) = True := eq_true (by omega)
              by_cases h2 : L < 2
              · have R := As.mk (show E = 1 by rw [hE.out, if_pos (by rw [hI.out, hst.out, hp2.out, decide_eq_true h2]; rfl)])
                clear hE hI hst
                go_wp2_with fail
                go_ret
                exact ⟨ret_int R.out.symm, by repeat (first | exact hd | apply Drawn.step)⟩
              · by_cases h3 : L = L0
                · have R : As (rows.any (odd L0) = (rows.drop (i + 1)).any (odd L0)) := ⟨by rw [hI.out, hst.out, hp2.out, decide_eq_false h2, decide_eq_false (not_not_intro h3)]; rfl⟩
                  subst h3
                  clear hI hst hE
                  go_wp2_with fail
                  go_roundw
                  case rel => exact ⟨i + 1, by omega, by go_num, R, by repeat (first | exact hd | apply Drawn.step)⟩
                  case measure => simp [intOf]; omega
                · have R := As.mk (show E = 1 by rw [hE.out, if_pos (by rw [hI.out, hst.out, hp2.out, decide_eq_true h3]; simp)])
                  have b2 : ((L : Int) == (L0 : Int)) = false := beq_eq_false_iff_ne.2 (by omega)
                  have b3 : ((L : Int) != (L0 : Int)) = true := bne_iff_ne.2 (by omega)
                  clear hE hI hst
                  go_wp2_with fail
                  go_ret
                  exact ⟨ret_int R.out.symm, by repeat (first | exact hd | apply Drawn.step)⟩
            · obtain rfl : i = j := by omega
              replace hE := As.mk (hE.out.trans (if_neg (by rw [hI.out, hdn.out]; simp)))
              clear hI
              rcases Nat.eq_zero_or_pos i with h0 | h0
              · have R := As.mk (show E = 20 by rw [hE.out, if_pos h0])
                have b2 : ((i : Int) == 0) = true := beq_iff_eq.2 (by omega)
                replace h0 := As.mk h0
                clear hE
                go_wp2_with fail
                go_ret
                exact ⟨ret_int R.out.symm, by repeat (first | exact hd | apply Drawn.step)⟩
              · have R := As.mk (show E = 0 by rw [hE.out, if_neg (by omega)])
                have b2 : ((i : Int) == 0) = false := beq_eq_false_iff_ne.2 (by omega)
                clear hE
                go_wp2_with fail
                go_ret
                exact ⟨ret_int R.out.symm, by repeat (first | exact hd | apply Drawn.step)⟩
end Go.Proofs.Ytdbpjnjgjmfomaa
