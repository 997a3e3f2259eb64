/- Joined texts: Alpha2, RatTab, NullPure, ListQ, LawModA, RegTail. -/
import Derived.Test.YtdbpjnjgjmfomaaJFitModel3
import Derived.Test.YtdbpjnjgjmfomaaProg
import Derived.WalkKit
import Derived.Deep.RegionHeld3
import Derived.Deep.DrawnRows
import Derived.StillTail
/- classical.alpha where the table is in order. -/
namespace Go.Proofs.Ytdbpjnjgjmfomaa
open Go.RowKit

/-- A box of a ratio: block b holds this ratio's cells, writable. -/
def BoxR (w : World) (b : Nat) (x y z : Value) : Prop := w.cell? ⟨b, 0, none⟩ = some x ∧ w.cell? ⟨b, 1, none⟩ = some y ∧ w.cell? ⟨b, 2, none⟩ = some z ∧ Res w b 3
theorem BoxR.step {w w1 : World} {b : Nat} {x y z : Value} (h : BoxR w b x y z) (hz : w.heap.size ≤ w1.heap.size) (hb : w1.heap[b]? = w.heap[b]?) : BoxR w1 b x y z := by
  obtain ⟨h0, h1, h2, hl, hR⟩ := h
  have hc : ∀ i, w1.cell? ⟨b, i, none⟩ = w.cell? ⟨b, i, none⟩ := fun i => World.cell?_of_block hb
  have hf : ∀ i, w1.frozen? ⟨b, i, none⟩ = w.frozen? ⟨b, i, none⟩ := fun i => by unfold World.frozen?; rw [show (⟨b, i, none⟩ : Addr).block = b from rfl, hb]
  exact ⟨(hc 0).trans h0, (hc 1).trans h1, (hc 2).trans h2, Nat.lt_of_lt_of_le hl hz, fun i hi => by rw [hc, hf]; exact hR i hi⟩
theorem BoxR.below {w w1 : World} {b : Nat} {x y z : Value} (h : BoxR w b x y z) (hb : Below w.heap.size w w1) : BoxR w1 b x y z := h.step hb.size (hb.block b h.2.2.2.1)
/-- A ratio value's letters. -/
theorem RatV.letters {S : Nat → Prop} {w : World} {v : Value} {q : Rat} (h : RatV S w v q) : ∃ N A n c B k d, v = .agg #[.bool N, .slice A n c, .slice B k d] := by
  obtain ⟨A, c, B, d, e⟩ := h.slice
  exact ⟨_, A, _, c, B, _, d, e⟩
theorem one_frac1 : ((1 : Int) : Rat) / ((1 : Int) : Rat) = 1 := by grind
theorem RatV.setc {S : Nat → Prop} {w : World} {v : Value} {q : Rat} {p : Addr} {x : Value} (hp : ¬ S p.block) (h : RatV S w v q) : RatV S (w.setCell p x) v q := by
  obtain ⟨u, d, e, hu, hd⟩ := h
  exact ⟨u, d, e, hu.stored hp _, hd.stored hp _⟩

set_option maxHeartbeats 8000000 in
set_option maxRecDepth 100000 in
theorem cls_alpha_ok {S : Nat → Prop} {v : Value} {rows : List (List Int)} {k : Nat} (w : World) (hv : RowsV S w v rows) (hE : tableE rows = 0) (hk : (rows.getD 0 []).length = k) :
    Calls Try.prog 48 #[v] w fun e w' => ∃ r s, e = .returned (.tuple #[r, s, .int .i64 (if allR rows k = 0 then 20 else 0)]) ∧ RatV (New w) w' r (allR rows k) ∧ RatV (New w) w' s (if allR rows k = 0 then 0 else ((k : Int) : Rat) / (((k : Int) - 1 : Int) : Rat) * (1 - partR rows k / allR rows k)) ∧ Below w.heap.size w w' := by
  have hIO := table_zero hE
  rw [hk] at hIO
  obtain ⟨A, c, rfl⟩ := hv.slice
  have hn1 := hIO.few
  have hn0 := hIO.some
  have hk2 := hIO.two
  have hk60 := hIO.sixty
  obtain ⟨n, hn⟩ : ∃ n, rows.length = n := ⟨_, rfl⟩
  have hm : rows.length ≤ 140737488351232 := by omega
  have hrl : ∀ i, (rows.getD i []).length ≤ 140737488351232 := fun i => by
    rcases Nat.lt_or_ge i rows.length with h | h
    · have := hIO.len i h; omega
    · rw [List.getD_eq_getElem?_getD, List.getElem?_eq_none h]; simp
  have HT : As (∀ W, Below w.heap.size w W → Calls Try.prog 83 #[.slice A rows.length c] W fun e w' => e = .returned (.int .i64 0) ∧ Drawn W w') := ⟨fun W hb => by
    rw [← hE]
    exact cls_table W (hv.below hb) hm hrl⟩
  have HR : As (∃ ad, A = some ad ∧ ∀ W, Below w.heap.size w W → ∀ p, p < n → ∃ B d, W.cell? (ad.add p) = some (.slice B k d) ∧ IntsV (fun b => S b ∧ b < w.heap.size) W (.slice B k d) (rows.getD p [])) := ⟨by
    obtain ⟨ad, hA, _⟩ := hv.row (by omega)
    refine ⟨ad, hA, fun W hb p hp => ?_⟩
    obtain ⟨ad', hA', h⟩ := ((hv.mono (T := fun b => S b ∧ b < w.heap.size) (fun b h1 h2 => ⟨h1, h2⟩)).below hb).row (by omega)
    obtain rfl : ad = ad' := by rw [hA] at hA'; injection hA'
    obtain ⟨B, d, h1, h2⟩ := h p (by omega)
    rw [hIO.len p (by omega)] at h1 h2
    exact ⟨B, d, h1, h2⟩⟩
  rw [hn] at hn0 hn1 HT ⊢
  obtain ⟨ad, hA, HR1⟩ := HR.out
  subst hA
  replace HR1 := As.mk HR1
  clear hv hm hrl hE hk HR
  replace hn := As.mk hn
  replace hIO := As.mk hIO
  go_enter Try.func48, Try.ntmps48
  go_wp2_with fail
  obtain ⟨W, hW⟩ : ∃ W, ((w.alloc (Obj.cells #[Value.bool false, Value.slice none 0 0, Value.slice none 0 0] 40)).alloc (Obj.cells #[Value.bool false, Value.slice none 0 0, Value.slice none 0 0] 40)) = W := ⟨_, rfl⟩
  have hs : W.heap.size = w.heap.size + 2 := by rw [← hW]; simp
  have hB : Below w.heap.size w W := by rw [← hW]; exact (((Below.refl _ _).alloc (by simp <;> omega) _).alloc (by simp <;> omega) _)
  have hR0 : Res W (w.heap.size) 3 := ⟨by omega, fun i hi => by
    subst hW
    rcases (by omega : i = 0 ∨ i = 1 ∨ i = 2) with rfl | rfl | rfl
    · exact ⟨⟨.bool false, by simp [go_sem]⟩, by simp [go_sem]⟩
    · exact ⟨⟨.slice none 0 0, by simp [go_sem]⟩, by simp [go_sem]⟩
    · exact ⟨⟨.slice none 0 0, by simp [go_sem]⟩, by simp [go_sem]⟩⟩
  have hR1 : Res W (w.heap.size + 1) 3 := ⟨by omega, fun i hi => by
    subst hW
    rcases (by omega : i = 0 ∨ i = 1 ∨ i = 2) with rfl | rfl | rfl
    · exact ⟨⟨.bool false, by simp [go_sem]⟩, by simp [go_sem]⟩
    · exact ⟨⟨.slice none 0 0, by simp [go_sem]⟩, by simp [go_sem]⟩
    · exact ⟨⟨.slice none 0 0, by simp [go_sem]⟩, by simp [go_sem]⟩⟩
  rw [hW]
  clear hW
  have hS : Below w.heap.size w W ∧ Res W w.heap.size 3 ∧ Res W (w.heap.size + 1) 3 := ⟨hB, hR0, hR1⟩
  clear hR0 hR1
  refine (HT.out _ hB).mono ?_
  rintro e w1 ⟨rfl, ⟨m1, rfl⟩⟩
  replace hS := (keep_B (keep_R (Res.below))) hS ((Below.refl _ _).drewsN m1)
  have hlW : w.heap.size + 2 ≤ W.heap.size := by omega
  clear hB HT
  generalize hW1 : W.drewN m1 = W1 at *
  have hlW1 : w.heap.size + 2 ≤ W1.heap.size := by rw [← hW1]; exact hlW
  clear hW1 hs hlW
  obtain ⟨B0, d0, hc0, _⟩ := HR1.out _ hS.1 0 hn0
  rw [addr_zero] at hc0
  have b0 : (0 < (n : Int)) = True := eq_true (by omega)
  have hmk : ∀ W, (Instr.makeSlice 28 (.int .i64 (n : Int)) (.int .i64 (n : Int))).run Try.prog W = .ok (.slice (some ⟨W.heap.size, 0, none⟩) n n) (W.alloc (.cells (madeCells #[.int .i64 0] n) 3)) :=
    fun W => make_ints 28 Try.underlying28 (by kernel_rfl) n n (by omega) (by omega) W
  go_wp2_with fail
  have hO := OwnI.made W1 0 n (Nat.zero_le _) (by omega)
  replace hS := (keep_B (keep_R (Res.below))) hS ((Below.refl _ _).alloc (Nat.le_refl _) (.cells (madeCells #[.int .i64 0] n) 3))
  have hg7 : (W1.alloc (.cells (madeCells #[.int .i64 0] n) 3)).heap.size = W1.heap.size + 1 := by simp
  generalize W1.alloc (.cells (madeCells #[.int .i64 0] n) 3) = W2 at *
  generalize W1.heap.size = g7 at *
  refine (cls_zero _).mono ?_
  rintro e w3 ⟨r1, rfl, hr1, hb3⟩
  replace hS := (keep_B (keep_R (Res.below))) hS hb3
  replace hO := hO.below hb3
  have hz3 := hb3.size
  obtain ⟨A1, c1, B1, d1, rfl⟩ := hr1.slice
  replace hr1 := hr1.mono (T := fun b => w.heap.size + 2 ≤ b ∧ b ≠ g7 ∧ b ≠ w3.heap.size) (fun b h1 h2 => by have : W2.heap.size ≤ b := h1; omega)
  clear hb3 hc0
  obtain ⟨s0, hs0⟩ : ∃ s, decide ((partR rows 0).num < 0) = s := ⟨_, rfl⟩
  obtain ⟨s1, hs1⟩ : ∃ s, sz (partR rows 0).num = s := ⟨_, rfl⟩
  obtain ⟨s2, hs2⟩ : ∃ s, (dig (partR rows 0).den).length = s := ⟨_, rfl⟩
  rw [show (0 : Rat) = partR rows 0 from rfl, hs0, hs1, hs2] at hr1
  rw [show (0 : Rat) = partR rows 0 from rfl, hs0, hs1, hs2]
  replace hs0 := As.mk hs0
  replace hs1 := As.mk hs1
  replace hs2 := As.mk hs2
  go_wp2_with fail
  have hb34 := (Below.refl w3.heap.size w3).alloc (Nat.le_refl _) (Obj.cells #[.bool s0, .slice A1 s1 c1, .slice B1 s2 d1] 40)
  obtain ⟨W4, hW4⟩ : ∃ W4, w3.alloc (Obj.cells #[.bool s0, .slice A1 s1 c1, .slice B1 s2 d1] 40) = W4 := ⟨_, rfl⟩
  rw [hW4] at hb34 ⊢
  replace hS := (keep_B (keep_R (Res.below))) hS hb34
  replace hO := hO.below hb34
  replace hr1 := hr1.below hb34
  have hz4 : w3.heap.size < W4.heap.size := by rw [← hW4]; simp
  have hbox : BoxR W4 w3.heap.size (.bool s0) (.slice A1 s1 c1) (.slice B1 s2 d1) := by
    refine ⟨by subst hW4; simp [go_sem], by subst hW4; simp [go_sem], by subst hW4; simp [go_sem], hz4, fun i hi => ?_⟩
    subst hW4
    rcases (by omega : i = 0 ∨ i = 1 ∨ i = 2) with rfl | rfl | rfl
    · exact ⟨⟨.bool s0, by simp [go_sem]⟩, by simp [go_sem]⟩
    · exact ⟨⟨.slice A1 s1 c1, by simp [go_sem]⟩, by simp [go_sem]⟩
    · exact ⟨⟨.slice B1 s2 d1, by simp [go_sem]⟩, by simp [go_sem]⟩
  clear hW4 hb34
  have hgb : g7 < w3.heap.size := by omega
  generalize w3.heap.size = b8 at *
  go_loopw [9, 10, 11, 12, 32] (fun _ _ _ _ v32 wr => ∃ i : Nat, i ≤ k ∧ v32 = .int .i64 i ∧ b8 < wr.heap.size ∧ (Below w.heap.size w wr ∧ Res wr w.heap.size 3 ∧ Res wr (w.heap.size + 1) 3) ∧ OwnI wr 0 (.slice (some ⟨g7, 0, none⟩) n n) (totp rows i) ∧ ∃ A1 c1 B1 d1, BoxR wr b8 (.bool (decide ((partR rows i).num < 0))) (.slice A1 (sz (partR rows i).num) c1) (.slice B1 (dig (partR rows i).den).length d1) ∧ RatV (fun b => w.heap.size + 2 ≤ b ∧ b ≠ g7 ∧ b ≠ b8) wr (.agg #[.bool (decide ((partR rows i).num < 0)), .slice A1 (sz (partR rows i).num) c1, .slice B1 (dig (partR rows i).den).length d1]) (partR rows i)) (fun _ _ _ _ v32 _ => (k - intOf v32).toNat)
  case atStart => exact ⟨0, by omega, rfl, hz4, hS, by rw [show totp rows 0 = List.replicate n 0 by rw [← hn.out]; unfold totp; exact List.map_const' ..]; exact hO, A1, c1, B1, d1, by rw [hs0.out, hs1.out, hs2.out]; exact hbox, by rw [hs0.out, hs1.out, hs2.out]; exact hr1⟩
  case round =>
    clear hS hO hr1 hbox hz4 hs0 hs1 hs2
    obtain ⟨i, hi, rfl, hz4, hS, hO, A1, c1, B1, d1, hbox, hr1⟩ := hrel
    by_cases hlt : i < k
    · have b1 : ((i : Int) < (k : Int)) = True := eq_true (by omega)
      generalize hq : partR rows i = q at *
      replace hq := As.mk hq
      have hC0 := OwnI.made wr 0 n (Nat.zero_le _) (by omega)
      have hb45 := (Below.refl wr.heap.size wr).alloc (Nat.le_refl _) (.cells (madeCells #[.int .i64 0] n) 3)
      go_wp2_with fail
      have hz5 : (wr.alloc (.cells (madeCells #[.int .i64 0] n) 3)).heap.size = wr.heap.size + 1 := by simp
      generalize wr.alloc (.cells (madeCells #[.int .i64 0] n) 3) = W5 at *
      replace hS := (keep_B (keep_R (Res.below))) hS hb45
      replace hO := hO.below hb45
      replace hbox := hbox.below hb45
      replace hr1 := (hr1.mono (T := fun b => w.heap.size + 2 ≤ b ∧ b ≠ g7 ∧ b ≠ b8 ∧ b ≠ wr.heap.size) (fun b h1 h2 => ⟨h1.1, h1.2.1, h1.2.2, by omega⟩)).below hb45
      clear hb45
      generalize wr.heap.size = g10 at *
      have hmixT : As (totp rows i = mix (totp rows (i + 1)) (totp rows i) 0) := ⟨(mix_zero _ _).symm⟩
      go_loopw [11, 12, 40] (fun _ _ v40 wq => ∃ p : Nat, p ≤ n ∧ v40 = .int .i64 p ∧ g10 < wq.heap.size ∧ (Below w.heap.size w wq ∧ Res wq w.heap.size 3 ∧ Res wq (w.heap.size + 1) 3) ∧ OwnI wq 0 (.slice (some ⟨g7, 0, none⟩) n n) (mix (totp rows (i + 1)) (totp rows i) p) ∧ OwnI wq 0 (.slice (some ⟨g10, 0, none⟩) n n) (mix (col rows i) (List.replicate n 0) p) ∧ BoxR wq b8 (.bool (decide (q.num < 0))) (.slice A1 (sz q.num) c1) (.slice B1 (dig q.den).length d1) ∧ RatV (fun b => w.heap.size + 2 ≤ b ∧ b ≠ g7 ∧ b ≠ b8 ∧ b ≠ g10) wq (.agg #[.bool (decide (q.num < 0)), .slice A1 (sz q.num) c1, .slice B1 (dig q.den).length d1]) q) (fun _ _ v40 _ => (n - intOf v40).toNat)
      case atStart => exact ⟨0, by omega, rfl, by omega, hS, by rw [mix_zero]; exact hO, by rw [mix_zero]; exact hC0, hbox, hr1⟩
      case round =>
        clear hS hO hr1 hbox hC0 hz5
        obtain ⟨p, hp, rfl, hz5, hS, hO, hC, hbox, hr1⟩ := hrel
        by_cases hlp : p < n
        · obtain ⟨B, d, hrc, hri⟩ := HR1.out _ hS.1 p hlp
          have hrl : As ((rows.getD p []).length = k) := ⟨hIO.out.len p (by rw [hn.out]; exact hlp)⟩
          have hri2 := hri
          obtain ⟨bd, hB, hbc⟩ := hri.cells (by rw [hrl.out]; omega)
          subst hB
          have hx := hbc i (by rw [hrl.out]; exact hlt)
          have hlen1 : (totp rows (i + 1)).length = (totp rows i).length := by rw [totp_length, totp_length]
          have hlen2 : (col rows i).length = (List.replicate n (0 : Int)).length := by rw [col_length, List.length_replicate, hn.out]
          have hlt1 : p < (totp rows i).length := by rw [totp_length, hn.out]; exact hlp
          have hlt2 : p < (List.replicate n (0 : Int)).length := by rw [List.length_replicate]; exact hlp
          obtain ⟨hcc, hcf⟩ := hC.cell p (by rw [mix_length hlen2]; exact hlt2)
          obtain ⟨hoc, hof⟩ := hO.cell p (by rw [mix_length hlen1]; exact hlt1)
          have hO1 := As.mk (mix_set hlen1 p hlt1)
          have hC1 := As.mk (mix_set hlen2 p hlt2)
          have hog : As ((mix (totp rows (i + 1)) (totp rows i) p).getD p 0 = (totp rows i).getD p 0) := ⟨mix_get hlen1 p hlt1⟩
          have htg : As ((totp rows (i + 1)).getD p 0 = (totp rows i).getD p 0 + (rows.getD p []).getD i 0) := ⟨by rw [totp_succ, col_get]⟩
          have hcg : As ((col rows i).getD p 0 = (rows.getD p []).getD i 0) := ⟨col_get ..⟩
          have hsx := hIO.out.score p i
          have hst := sm_small (fun j => hIO.out.score p j) i
          rw [← totp_get] at hst
          rw [hog.out] at hoc
          generalize (rows.getD p []).getD i 0 = X at *
          generalize (totp rows i).getD p 0 = Y at *
          have bp : ((p : Int) < (n : Int)) = True := eq_true (by omega)
          have bp0 : (0 ≤ (p : Int)) = True := eq_true (by omega)
          have hblk : bd.block < w.heap.size := by
            obtain ⟨A', c', e, _, hr⟩ := hri2
            injection e with e1
            obtain ⟨ad', e', hs, _⟩ := hr (fun e => by rw [← List.length_eq_zero_iff, i64s_length, hrl.out] at e; omega)
            rw [← e1] at e'; injection e' with e'; rw [e']; exact hs.2
          clear hri hri2 hbc hlen1 hlen2 hlt1 hlt2
          go_wp2_with fail
          have hgg : g10 ≠ g7 := by omega
          have hO6 : OwnI (wr.setCell ⟨g10, p, none⟩ (.int .i64 X)) 0 (.slice (some ⟨g7, 0, none⟩) n n) (mix (totp rows (i + 1)) (totp rows i) p) := hO.kept (fun b hb => Below.heap_setCell wr _ _ b (by simp [Value.ownBlock] at hb; simp; omega))
          have hC6 := OwnI.store hC p X
          have hx6 : (wr.setCell ⟨g10, p, none⟩ (.int .i64 X)).cell? (bd.add i) = some (.int .i64 X) := set_cell hx (by rw [add_block]; simp; have := hS.1.size; omega)
          have hoc6 : (wr.setCell ⟨g10, p, none⟩ (.int .i64 X)).cell? ⟨g7, p, none⟩ = some (.int .i64 Y) := set_cell hoc (by simp; omega)
          have hof6 : (wr.setCell ⟨g10, p, none⟩ (.int .i64 X)).frozen? ⟨g7, p, none⟩ = false := (World.frozen?_setCell _ _ _ _).trans hof
          have hS6 : Below w.heap.size w (wr.setCell ⟨g10, p, none⟩ (.int .i64 X)) ∧ Res (wr.setCell ⟨g10, p, none⟩ (.int .i64 X)) w.heap.size 3 ∧ Res (wr.setCell ⟨g10, p, none⟩ (.int .i64 X)) (w.heap.size + 1) 3 := ⟨hS.1.setCell (by simp; omega) _, hS.2.1.set _ _, hS.2.2.set _ _⟩
          have hbox6 : BoxR (wr.setCell ⟨g10, p, none⟩ (.int .i64 X)) b8 (.bool (decide (q.num < 0))) (.slice A1 (sz q.num) c1) (.slice B1 (dig q.den).length d1) := hbox.step (by simp [World.setCell]) (Below.heap_setCell wr _ _ b8 (by simp; omega))
          have hr6 := hr1.step (w1 := wr.setCell ⟨g10, p, none⟩ (.int .i64 X)) (fun b hb _ => Below.heap_setCell wr _ _ b (by simp; exact hb.2.2.2))
          have hz6 : g10 < (wr.setCell ⟨g10, p, none⟩ (.int .i64 X)).heap.size := by simpa [World.setCell] using hz5
          generalize wr.setCell ⟨g10, p, none⟩ (.int .i64 X) = W6 at *
          clear hS hO hC hx hoc hof hbox hr1 hz5 hcc hcf hrc
          obtain ⟨Z, hZ⟩ : ∃ Z, Y + X = Z := ⟨_, rfl⟩
          have hw1 : IntKind.i64.wrap (Y + X) = Z := by rw [← hZ]; exact IntWalk.i64_in _ (by omega)
          rw [hZ] at htg
          replace hZ := As.mk hZ
          have bi : ((i : Int) < (k : Int)) = True := eq_true (by omega)
          have bi0 : (0 ≤ (i : Int)) = True := eq_true (by omega)
          have hd6 := (Below.refl W6.heap.size W6).drewsN 1
          have hO7 := hO6.below hd6
          have hC7 := OwnI.below hC6 hd6
          have hS7 := (keep_B (keep_R (Res.below))) hS6 hd6
          have hbox7 := hbox6.below hd6
          have hr7 := hr6.below hd6
          clear hO6 hC6 hS6 hbox6 hr6 hd6
          go_still_tail 10, (by kernel_rfl)
          repeat still_step
          try refine wpStill_nil ?_
          change wpList _ _ _ _ _ (W6.drewN 1)
          go_wp2_with fail
          go_roundw
          case rel => exact ⟨p + 1, by omega, by go_num, by simpa [World.setCell] using hz6, ⟨hS7.1.setCell (by simp; omega) _, hS7.2.1.set _ _, hS7.2.2.set _ _⟩, by rw [← hO1.out, htg.out]; exact OwnI.store hO7 p Z, by rw [← hC1.out, hcg.out]; exact hC7.kept (fun b hb => Below.heap_setCell _ _ _ b (by simp [Value.ownBlock] at hb; simp; omega)), hbox7.step (by simp [World.setCell]) (Below.heap_setCell _ _ _ b8 (by simp; omega)), hr7.step (fun b hb _ => Below.heap_setCell _ _ _ b (by simp; exact hb.2.1))⟩
          case measure => simp [intOf]; omega
        · obtain rfl : p = n := by omega
          have hlen1 : (totp rows (i + 1)).length = (totp rows i).length := by rw [totp_length, totp_length]
          have hlen2 : (col rows i).length = (List.replicate p (0 : Int)).length := by rw [col_length, List.length_replicate, hn.out]
          rw [show mix (totp rows (i + 1)) (totp rows i) p = totp rows (i + 1) by rw [show p = (totp rows i).length by rw [totp_length, hn.out]]; exact mix_full hlen1] at hO
          rw [show mix (col rows i) (List.replicate p 0) p = col rows i by have := mix_full hlen2; rwa [List.length_replicate] at this] at hC
          have hCv := hC.ints
          have hcol := col_length rows i
          rw [hn.out] at hcol
          have hmod := As.mk (hIO.out.colmod i)
          have hrz := rz_part hIO.out i
          rw [hq.out] at hrz
          have hrzc := rz_covR (col rows i) (col rows i) hmod.out hmod.out (by rw [hcol]; exact hn1)
          clear hlen1 hlen2
          go_wp2_with fail
          have hd6 := (Below.refl wr.heap.size wr).drew
          replace hCv := (hCv.mono (T := fun _ => True) (fun _ _ _ => trivial)).below hd6
          replace hO := hO.below hd6
          replace hS := (keep_B (keep_R (Res.below))) hS hd6
          replace hbox := hbox.below hd6
          replace hr1 := hr1.below hd6
          have hz6 : g10 < wr.drew.heap.size := hz5
          obtain ⟨e0, e1, e2, eR⟩ := id hbox
          clear hC hd6
          go_region_with (first
            | (go_at_call 52; refine (cls_cov _ hCv hCv hmod.out hmod.out (by omega) rfl).mono ?_; rintro e w5 ⟨r5, rfl, hM, hb⟩; obtain ⟨E0, E1, E2, ER⟩ := hbox.below hb)
            | (go_at_call 24; refine (rat_Add _ (hr1.below hb).i hM.i (rz_pos _) (rz_pos _) (by omega)).mono ?_; rintro e w6 ⟨r6, rfl, hL, hb6⟩; obtain ⟨A7, c7, B7, d7, rfl⟩ := hL.slice; obtain ⟨G0, G1, G2, GR⟩ := (hbox.below hb).below hb6; obtain ⟨⟨_, _⟩, ⟨_, _⟩, ⟨_, _⟩, F0, F1, F2⟩ := GR.cells3))
          all_goals
            have hq1 : As (q + covR (col rows i) (col rows i) = partR rows (i + 1)) := ⟨by rw [← hq.out]; rfl⟩
            have hS8 := (keep_B (keep_R (Res.below))) ((keep_B (keep_R (Res.below))) hS hb) hb6
            have hO8 := (hO.below hb).below hb6
            have hz8 : g10 < w6.heap.size := Nat.lt_of_lt_of_le hz6 (Nat.le_trans hb.size hb6.size)
            have hsz5 : g10 < w5.heap.size := Nat.lt_of_lt_of_le hz6 hb.size
            have hL8 := hL.mono (T := fun b => w.heap.size + 2 ≤ b ∧ b ≠ g7 ∧ b ≠ b8) (fun b h1 _ => by have : w5.heap.size ≤ b := h1; omega)
            clear hS hO hb hb6 hL hr1 hM hbox hCv
            go_wp2_with fail
            go_roundw
            case measure => simp [intOf]; omega
            case rel =>
              refine ⟨i + 1, by omega, by go_num, by simp [World.setCell]; omega, ⟨((hS8.1.setCell (by simp; omega) _).setCell (by simp; omega) _).setCell (by simp; omega) _, ((hS8.2.1.set _ _).set _ _).set _ _, ((hS8.2.2.set _ _).set _ _).set _ _⟩, hO8.kept (fun b hb => ?_), A7, c7, B7, d7, ?_⟩
              · simp [Value.ownBlock] at hb
                rw [Below.heap_setCell _ _ _ b (by simp; omega), Below.heap_setCell _ _ _ b (by simp; omega), Below.heap_setCell _ _ _ b (by simp; omega)]
              · rw [← hq1.out]
                refine ⟨⟨by simp [go_sem, G0, G1, G2], by simp [go_sem, G0, G1, G2], by simp [go_sem, G0, G1, G2], ((GR.set _ _).set _ _).set _ _⟩, hL8.set3 (by simp)⟩
    · obtain rfl : i = k := by omega
      have hcl : (totp rows i).length = n := by rw [totp_length, hn.out]
      have hTv := hO.ints.mono (T := fun _ => True) (fun _ _ _ => trivial)
      rw [← hcl] at hTv
      have hmod := As.mk (hIO.out.totmod i hk60)
      have hrzp := rz_part hIO.out i
      have hall : As (covR (totp rows i) (totp rows i) = allR rows i) := ⟨rfl⟩
      have hrza := rz_covR (totp rows i) (totp rows i) hmod.out hmod.out (by rw [hcl]; exact hn1)
      rw [hall.out] at hrza
      have HC := As.mk (cls_cov wr hTv hTv hmod.out hmod.out (by rw [hcl]; exact hn1) rfl)
      rw [hall.out, hcl] at HC
      clear hTv hmod hall hO
      obtain ⟨P, hPe⟩ : ∃ P, partR rows i = P := ⟨_, rfl⟩
      obtain ⟨V, hVe⟩ : ∃ V, allR rows i = V := ⟨_, rfl⟩
      rw [hPe] at hrzp hr1 hbox
      rw [hVe] at hrza HC
      replace hPe := As.mk hPe
      replace hVe := As.mk hVe
      go_wp2_with fail
      refine HC.out.mono ?_
      rintro e w5 ⟨r5, rfl, hM, hb⟩
      obtain ⟨A5, c5, B5, d5, rfl⟩ := hM.slice
      have hz5 : b8 < w5.heap.size := Nat.lt_of_lt_of_le hz4 hb.size
      replace hS := (keep_B (keep_R (Res.below))) hS hb
      replace hr1 := hr1.below hb
      replace hbox := hbox.below hb
      clear hb HC
      obtain ⟨E0, E1, E2, ER⟩ := id hbox
      have hb6 := (Below.refl w5.heap.size w5).alloc (Nat.le_refl _) (Obj.cells #[.bool (decide (V.num < 0)), .slice A5 (sz V.num) c5, .slice B5 (dig V.den).length d5] 40)
      obtain ⟨V0, hV0⟩ : ∃ s, decide (V.num < 0) = s := ⟨_, rfl⟩
      obtain ⟨V1, hV1⟩ : ∃ s, sz V.num = s := ⟨_, rfl⟩
      obtain ⟨V2, hV2⟩ : ∃ s, (dig V.den).length = s := ⟨_, rfl⟩
      rw [hV0, hV1, hV2] at hM hb6 ⊢
      replace hV0 := As.mk hV0
      replace hV1 := As.mk hV1
      replace hV2 := As.mk hV2
      go_wp2_with fail
      obtain ⟨W6, hW6⟩ : ∃ W6, w5.alloc (Obj.cells #[.bool V0, .slice A5 V1 c5, .slice B5 V2 d5] 40) = W6 := ⟨_, rfl⟩
      rw [hW6] at hb6 ⊢
      replace hS := (keep_B (keep_R (Res.below))) hS hb6
      replace hr1 := hr1.below hb6
      replace hM := (hM.mono (T := fun b => w.heap.size + 2 ≤ b ∧ b < w5.heap.size) (fun b h1 h => ⟨by have : wr.heap.size ≤ b := h1; omega, h⟩)).below hb6
      replace hbox := hbox.below hb6
      have hboxV : BoxR W6 w5.heap.size (.bool V0) (.slice A5 V1 c5) (.slice B5 V2 d5) := by
        refine ⟨by subst hW6; simp [go_sem], by subst hW6; simp [go_sem], by subst hW6; simp [go_sem], by subst hW6; simp, fun i hi => ?_⟩
        subst hW6
        rcases (by omega : i = 0 ∨ i = 1 ∨ i = 2) with rfl | rfl | rfl
        · exact ⟨⟨.bool V0, by simp [go_sem]⟩, by simp [go_sem]⟩
        · exact ⟨⟨.slice A5 V1 c5, by simp [go_sem]⟩, by simp [go_sem]⟩
        · exact ⟨⟨.slice B5 V2 d5, by simp [go_sem]⟩, by simp [go_sem]⟩
      have hz6 : w5.heap.size < W6.heap.size := by subst hW6; simp
      clear hW6 hb6 E0 E1 E2 ER
      refine (rat_Div _ hr1.i hM.i (rz_pos P) (rz_pos V) (by omega)).mono ?_
      rintro e w7 ⟨r7, rfl, hD, hb7⟩
      replace hS := (keep_B (keep_R (Res.below))) hS hb7
      replace hM := hM.below hb7
      replace hboxV := hboxV.below hb7
      have hz7 : w5.heap.size < w7.heap.size := Nat.lt_of_lt_of_le hz6 hb7.size
      obtain ⟨A7, c7, B7, d7, rfl⟩ := hD.slice
      clear hb7 hbox hr1
      by_cases hv0 : V = 0
      · rw [show decide (V ≠ 0) = false from decide_eq_false (not_not_intro hv0)]
        replace hv0 := As.mk hv0
        clear hD hM hboxV
        have hw7 : w.heap.size + 2 ≤ w7.heap.size := by omega
        go_wp2_with fail
        have hb8 : ∀ o, Below w7.heap.size w7 (w7.alloc o) := fun o => (Below.refl w7.heap.size w7).alloc (Nat.le_refl _) o
        refine (cls_zero _).mono ?_
        rintro e w8 ⟨z1, rfl, hz1, hb9⟩
        replace hS := (keep_B (keep_R (Res.below))) ((keep_B (keep_R (Res.below))) hS (hb8 _)) hb9
        have hw8 : w.heap.size + 2 ≤ w8.heap.size := by have := hb9.size; simp at this; omega
        replace hz1 := hz1.mono (T := fun b => w.heap.size + 2 ≤ b) (fun b h1 _ => by have h1 := h1; simp [New] at h1; omega)
        go_wp2_with fail
        refine (cls_zero _).mono ?_
        rintro e w9 ⟨z2, rfl, hz2, hb10⟩
        replace hS := (keep_B (keep_R (Res.below))) hS hb10
        replace hz1 := hz1.below hb10
        replace hz2 := hz2.mono (T := fun b => w.heap.size + 2 ≤ b) (fun b h1 _ => by have : w8.heap.size ≤ b := h1; omega)
        obtain ⟨A8, c8, B8, d8, rfl⟩ := hz1.slice
        obtain ⟨A9, c9, B9, d9, rfl⟩ := hz2.slice
        obtain ⟨⟨x0, g0⟩, ⟨x1, g1⟩, ⟨x2, g2⟩, f0, f1, f2⟩ := hS.2.1.cells3
        obtain ⟨⟨y0, k0⟩, ⟨y1, k1⟩, ⟨y2, k2⟩, l0, l1, l2⟩ := hS.2.2.cells3
        have hst1 : As (∀ x y z x' y' z', RatV (New w) ((((((w9.setCell ⟨w.heap.size, 0, none⟩ x).setCell ⟨w.heap.size, 1, none⟩ y).setCell ⟨w.heap.size, 2, none⟩ z).setCell ⟨w.heap.size + 1, 0, none⟩ x').setCell ⟨w.heap.size + 1, 1, none⟩ y').setCell ⟨w.heap.size + 1, 2, none⟩ z') (.agg #[.bool (decide ((0 : Rat).num < 0)), .slice A8 (sz (0 : Rat).num) c8, .slice B8 (dig (0 : Rat).den).length d8]) 0) := ⟨fun x y z x' y' z' =>
          ((hz1.set3 (by simp)).set3 (by simp)).mono (fun k hk _ => by show w.heap.size ≤ k; omega)⟩
        have hst2 : As (∀ x y z x' y' z', RatV (New w) ((((((w9.setCell ⟨w.heap.size, 0, none⟩ x).setCell ⟨w.heap.size, 1, none⟩ y).setCell ⟨w.heap.size, 2, none⟩ z).setCell ⟨w.heap.size + 1, 0, none⟩ x').setCell ⟨w.heap.size + 1, 1, none⟩ y').setCell ⟨w.heap.size + 1, 2, none⟩ z') (.agg #[.bool (decide ((0 : Rat).num < 0)), .slice A9 (sz (0 : Rat).num) c9, .slice B9 (dig (0 : Rat).den).length d9]) 0) := ⟨fun x y z x' y' z' =>
          ((hz2.set3 (by simp)).set3 (by simp)).mono (fun k hk _ => by show w.heap.size ≤ k; omega)⟩
        have hB9 := As.mk hS.1
        clear hS hz1 hz2 hb9 hb10 hb8
        go_wp2_with fail
        refine bodyPost_ret (v := .tuple #[.agg #[.bool (decide ((0 : Rat).num < 0)), .slice A8 (sz (0 : Rat).num) c8, .slice B8 (dig (0 : Rat).den).length d8], .agg #[.bool (decide ((0 : Rat).num < 0)), .slice A9 (sz (0 : Rat).num) c9, .slice B9 (dig (0 : Rat).den).length d9], .int .i64 20]) (by simp [results, Try.results48, go_sem, g0, g1, g2, k0, k1, k2]) rfl ?_
        try rw [if_pos hv0.out, if_pos hv0.out, hv0.out]
        exact ⟨_, _, rfl, hst1.out _ _ _ _ _ _, hst2.out _ _ _ _ _ _, Below.set3 (Below.set3 hB9.out (Nat.le_refl _)) (by omega)⟩
        exact absurd (hVe.out.trans hv0.out) (by assumption)
      · have hdt : decide (V ≠ 0) = true := decide_eq_true hv0
        rw [hdt]
        clear hdt
        replace hv0 := As.mk hv0
        obtain ⟨Q, hQ⟩ : ∃ Q, P / V = Q := ⟨_, rfl⟩
        have hrzq := rz_div P V
        rw [hQ] at hD hrzq ⊢
        replace hQ := As.mk hQ
        obtain ⟨D0, hD0⟩ : ∃ s, decide (Q.num < 0) = s := ⟨_, rfl⟩
        obtain ⟨D1, hD1⟩ : ∃ s, sz Q.num = s := ⟨_, rfl⟩
        obtain ⟨D2, hD2⟩ : ∃ s, (dig Q.den).length = s := ⟨_, rfl⟩
        rw [hD0, hD1, hD2] at hD ⊢
        replace hD0 := As.mk hD0
        replace hD1 := As.mk hD1
        replace hD2 := As.mk hD2
        have hb8 := (Below.refl w7.heap.size w7).alloc (Nat.le_refl _) (Obj.cells #[.bool D0, .slice A7 D1 c7, .slice B7 D2 d7] 40)
        go_wp2_with fail
        obtain ⟨W8, hW8⟩ : ∃ W8, w7.alloc (Obj.cells #[.bool D0, .slice A7 D1 c7, .slice B7 D2 d7] 40) = W8 := ⟨_, rfl⟩
        rw [hW8] at hb8 ⊢
        replace hS := (keep_B (keep_R (Res.below))) hS hb8
        replace hM := hM.below hb8
        have hN3 : w.heap.size + 2 ≤ w5.heap.size := by omega
        have hN4 : w5.heap.size < W6.heap.size := hz6
        replace hD := (hD.mono (T := fun b => w.heap.size + 2 ≤ b ∧ b < w7.heap.size) (fun b h1 h => ⟨by have : W6.heap.size ≤ b := h1; omega, h⟩)).below hb8
        replace hboxV := hboxV.below hb8
        have hboxD : W8.cell? ⟨w7.heap.size, 0, none⟩ = some (.bool D0) ∧ W8.cell? ⟨w7.heap.size, 1, none⟩ = some (.slice A7 D1 c7) ∧ W8.cell? ⟨w7.heap.size, 2, none⟩ = some (.slice B7 D2 d7) := by
          subst hW8
          exact ⟨by simp [go_sem], by simp [go_sem], by simp [go_sem]⟩
        have hz8 : w7.heap.size < W8.heap.size := by subst hW8; simp
        clear hW8 hb8
        obtain ⟨E0, E1, E2, _⟩ := hboxV
        obtain ⟨G0, G1, G2⟩ := hboxD
        generalize w5.heap.size = N5 at *
        generalize w7.heap.size = N7 at *
        have hq0 : -9223372036854775808 ≤ (i : Int) := by omega
        have hq1 : (i : Int) ≤ 9223372036854775807 := by omega
        obtain ⟨J, hJ⟩ : ∃ J, (i : Int) - 1 = J := ⟨_, rfl⟩
        have hq2 : -9223372036854775808 ≤ J := by omega
        have hq3 : J ≤ 9223372036854775807 := by omega
        have hw1 : IntKind.i64.wrap ((i : Int) - 1) = J := by rw [hJ]; exact IntWalk.i64_in _ (by omega)
        have hsz1 : rz (((1 : Int) : Rat) / ((1 : Int) : Rat)) + rz Q ≤ 35184372088828 := by
          have := rz_small 1 1 (by decide) (by decide)
          omega
        have hsz2 : rz (((i : Int) : Rat) / (J : Rat)) + rz (((1 : Int) : Rat) / ((1 : Int) : Rat) - Q) ≤ 35184372088829 := by
          have h1 := rz_small 1 1 (by decide) (by decide)
          have h2 := rz_small (i : Int) J (by omega) (by omega)
          have h3 := rz_sub (((1 : Int) : Rat) / ((1 : Int) : Rat)) Q
          omega
        obtain ⟨R, hRe⟩ : ∃ R, ((i : Int) : Rat) / (J : Rat) * (((1 : Int) : Rat) / ((1 : Int) : Rat) - Q) = R := ⟨_, rfl⟩
        replace hRe := As.mk hRe
        replace hJ := As.mk hJ
        clear hrzq hrzp hrza hz4 hz5 hz6
        go_region_held3 (fun w' => w'.cell? ⟨N5, 0, none⟩ = some ((.bool V0)) ∧ w'.cell? ⟨N5, 1, none⟩ = some ((.slice A5 V1 c5)) ∧ w'.cell? ⟨N5, 2, none⟩ = some ((.slice B5 V2 d5)) ∧ w'.cell? ⟨N7, 0, none⟩ = some ((.bool D0)) ∧ w'.cell? ⟨N7, 1, none⟩ = some ((.slice A7 D1 c7)) ∧ w'.cell? ⟨N7, 2, none⟩ = some ((.slice B7 D2 d7)) ∧ RatV (fun b => w.heap.size + 2 ≤ b ∧ b < N5) w' (.agg #[.bool V0, .slice A5 V1 c5, .slice B5 V2 d5]) V ∧ RatV (fun b => w.heap.size + 2 ≤ b ∧ b < N7) w' (.agg #[.bool D0, .slice A7 D1 c7, .slice B7 D2 d7]) Q ∧ Below w.heap.size w w' ∧ Res w' w.heap.size 3 ∧ Res w' (w.heap.size + 1) 3)
          ((first
            | with_reducible exact (set_held (by simp <;> omega) (set_held (by simp <;> omega) (set_held (by simp <;> omega) (set_held (by simp <;> omega) (set_held (by simp <;> omega) (set_held (by simp <;> omega) (set_p (RatV.setc (by simp <;> omega)) (set_p (RatV.setc (by simp <;> omega)) (set_B (by simp <;> omega) (set_R (set_R1))))))))))) ((set_held (by simp <;> omega) (set_held (by simp <;> omega) (set_held (by simp <;> omega) (set_held (by simp <;> omega) (set_held (by simp <;> omega) (set_held (by simp <;> omega) (set_p (RatV.setc (by simp <;> omega)) (set_p (RatV.setc (by simp <;> omega)) (set_B (by simp <;> omega) (set_R (set_R1))))))))))) ((set_held (by simp <;> omega) (set_held (by simp <;> omega) (set_held (by simp <;> omega) (set_held (by simp <;> omega) (set_held (by simp <;> omega) (set_held (by simp <;> omega) (set_p (RatV.setc (by simp <;> omega)) (set_p (RatV.setc (by simp <;> omega)) (set_B (by simp <;> omega) (set_R (set_R1))))))))))) (by with_reducible assumption)))
            | exact (keep_and (keep_and (keep_and (keep_and (keep_and (keep_and (keep_p RatV.below (keep_p RatV.below (keep_B (keep_R (Res.below))))))))))) ⟨E0, E1, E2, G0, G1, G2, hM, hD, hS.1, hS.2.1, hS.2.2⟩ (below_drew _)
            | with_reducible exact (keep_and (keep_and (keep_and (keep_and (keep_and (keep_and (keep_p RatV.below (keep_p RatV.below (keep_B (keep_R (Res.below))))))))))) (by with_reducible assumption) (below_drew _)
            | with_reducible exact (keep_and (keep_and (keep_and (keep_and (keep_and (keep_and (keep_p RatV.below (keep_p RatV.below (keep_B (keep_R (Res.below))))))))))) (by with_reducible assumption) (by with_reducible assumption)))
          (first
            | (go_at_call 50; obtain ⟨_, _, _, _, _, _, hM1, hD1, hB1, hRg9, hRg10⟩ := ‹(_ = some _) ∧ (_ = some _) ∧ (_ = some _) ∧ (_ = some _) ∧ (_ = some _) ∧ (_ = some _) ∧ RatV _ _ _ V ∧ RatV _ _ _ Q ∧ Below _ _ _ ∧ Res _ _ _ ∧ Res _ _ _›; first | (with_reducible refine (cls_fraction _ 1 1 (by omega) (by omega) (by omega) (by omega)).mono ?_; rintro e w9 ⟨u1, rfl, hF1, hb⟩; (try replace hF0 := hF0.below hb)) | (with_reducible refine (cls_fraction _ _ _ hq0 hq1 hq2 hq3).mono ?_; rintro e w9 ⟨u0, rfl, hF0, hb⟩; (try replace hF1 := hF1.below hb); (try replace hL := hL.below hb)))
            | (go_at_call 29; obtain ⟨_, _, _, _, _, _, hM1, hD1, hB1, hRg9, hRg10⟩ := ‹(_ = some _) ∧ (_ = some _) ∧ (_ = some _) ∧ (_ = some _) ∧ (_ = some _) ∧ (_ = some _) ∧ RatV _ _ _ V ∧ RatV _ _ _ Q ∧ Below _ _ _ ∧ Res _ _ _ ∧ Res _ _ _›; refine (rat_Sub _ hF1.i hD1.i (rz_pos _) (rz_pos _) hsz1).mono ?_; rintro e w9 ⟨u2, rfl, hL, hb⟩; (try replace hF0 := hF0.below hb))
            | (go_at_call 28; obtain ⟨_, _, _, _, _, _, hM1, hD1, hB1, hRg9, hRg10⟩ := ‹(_ = some _) ∧ (_ = some _) ∧ (_ = some _) ∧ (_ = some _) ∧ (_ = some _) ∧ (_ = some _) ∧ RatV _ _ _ V ∧ RatV _ _ _ Q ∧ Below _ _ _ ∧ Res _ _ _ ∧ Res _ _ _›; refine (rat_Mul _ hF0.i hL.i (rz_pos _) (rz_pos _) hsz2).mono ?_; rw [hRe.out]; rintro e w9 ⟨u3, rfl, hX, hb⟩; obtain ⟨X0, A9, X1, c9, B9, X2, d9, rfl⟩ := hX.letters; obtain ⟨⟨x0, g0⟩, ⟨x1, g1⟩, ⟨x2, g2⟩, f0, f1, f2⟩ := (hRg9.below hb).cells3; obtain ⟨⟨y0, k0⟩, ⟨y1, k1⟩, ⟨y2, k2⟩, l0, l1, l2⟩ := (hRg10.below hb).cells3))
        all_goals
          have hn0 := hRg9.1
          have hn1 := hRg10.1
          have hMb := hM1.below hb
          have hst1 : As (∀ x y z x' y' z', RatV (New w) ((((((w9.setCell ⟨w.heap.size, 0, none⟩ x).setCell ⟨w.heap.size, 1, none⟩ y).setCell ⟨w.heap.size, 2, none⟩ z).setCell ⟨w.heap.size + 1, 0, none⟩ x').setCell ⟨w.heap.size + 1, 1, none⟩ y').setCell ⟨w.heap.size + 1, 2, none⟩ z') (.agg #[.bool V0, .slice A5 V1 c5, .slice B5 V2 d5]) V) := ⟨fun x y z x' y' z' =>
            ((hMb.set3 (fun h => by have := h.1; omega)).set3 (fun h => by have := h.1; omega)).mono (fun k hk _ => by show w.heap.size ≤ k; omega)⟩
          have hst2 : As (∀ x y z x' y' z', RatV (New w) ((((((w9.setCell ⟨w.heap.size, 0, none⟩ x).setCell ⟨w.heap.size, 1, none⟩ y).setCell ⟨w.heap.size, 2, none⟩ z).setCell ⟨w.heap.size + 1, 0, none⟩ x').setCell ⟨w.heap.size + 1, 1, none⟩ y').setCell ⟨w.heap.size + 1, 2, none⟩ z') (.agg #[.bool X0, .slice A9 X1 c9, .slice B9 X2 d9]) R) := ⟨fun x y z x' y' z' =>
            ((hX.set3 (fun h => by have h : _ ≤ _ := h; omega)).set3 (fun h => by have h : _ ≤ _ := h; omega)).mono (fun k hk _ => by have hk : _ ≤ _ := hk; show w.heap.size ≤ k; omega)⟩
          have hB9 := As.mk (hB1.after hB1.size hb)
          go_wp2_with fail
          all_goals refine bodyPost_ret (v := .tuple #[.agg #[.bool V0, .slice A5 V1 c5, .slice B5 V2 d5], .agg #[.bool X0, .slice A9 X1 c9, .slice B9 X2 d9], .int .i64 0]) (by simp [results, Try.results48, go_sem, g0, g1, g2, k0, k1, k2]) rfl ?_
          all_goals have hvv : allR rows i ≠ 0 := fun h => hv0.out (hVe.out.symm.trans h)
          all_goals first | exact absurd (by assumption) hvv | skip
          try rw [if_neg hvv, if_neg hvv]
          refine ⟨_, _, rfl, ?_, ?_, Below.set3 (Below.set3 hB9.out (Nat.le_refl _)) (by omega)⟩
          · rw [hVe.out]; exact hst1.out _ _ _ _ _ _
          · have e1 : (((i : Int) - 1 : Int) : Rat) = ((i : Int) : Rat) - 1 := by rw [Rat.intCast_sub]; simp
            rw [hVe.out, hPe.out, hQ.out]
            try rw [← e1]
            rw [hJ.out, ← one_frac1, hRe.out]
            exact hst2.out _ _ _ _ _ _
end Go.Proofs.Ytdbpjnjgjmfomaa

/- Rows and tables of ratios of the call's own. -/
namespace Go.Proofs.Ytdbpjnjgjmfomaa
open Go.RowKit

theorem make_slices {P : Program} (t e : TypeId) (ht : P.underlying t = some (.slice e)) (hinfo : (P.info? e).map (fun i => (i.zero, i.size, i.bytes)) = some (some (.slice none 0 0), 1, 24)) (l c : Nat) (hlc : l ≤ c) (hb : c ≤ 17592186044) (W : World) :
    (Instr.makeSlice t (.int .i64 (l : Int)) (.int .i64 (c : Int))).run P W = .ok (.slice (some ⟨W.heap.size, 0, none⟩) l c) (W.alloc (.cells (madeCells #[.slice none 0 0] c) e)) := by
  obtain ⟨i0, hi, hzz⟩ := Option.map_eq_some_iff.1 hinfo
  simp only [Prod.mk.injEq] at hzz
  obtain ⟨hz0, hz1, hz2⟩ := hzz
  have := run_make (P := P) W t e i0 (.slice none 0 0) ht hi hz0 .i64 .i64 (l : Int) (c : Int) (by omega) (by omega) (by rw [hz2]; omega) (by omega)
  rw [this, hz1]
  simp [Value.cells]
/-- The cells of the ratio that a fresh place holds. -/
abbrev zq : Array Value := #[.bool false, .slice none 0 0, .slice none 0 0]
theorem make_ratios {P : Program} (t : TypeId) (ht : P.underlying t = some (.slice 40)) (hinfo : (P.info? 40).map (fun i => (i.zero, i.size, i.bytes)) = some (some (.agg #[.bool false, .slice none 0 0, .slice none 0 0]), 3, 56)) (l c : Nat) (hlc : l ≤ c) (hb : c ≤ 17592186) (W : World) :
    (Instr.makeSlice t (.int .i64 (l : Int)) (.int .i64 (c : Int))).run P W = .ok (.slice (some ⟨W.heap.size, 0, none⟩) l c) (W.alloc (.cells (madeCells zq (c * 3)) 40)) := by
  obtain ⟨i0, hi, hzz⟩ := Option.map_eq_some_iff.1 hinfo
  simp only [Prod.mk.injEq] at hzz
  obtain ⟨hz0, hz1, hz2⟩ := hzz
  have := run_make (P := P) W t 40 i0 _ ht hi hz0 .i64 .i64 (l : Int) (c : Int) (by omega) (by omega) (by rw [hz2]; omega) (by omega)
  rw [this, hz1]
  simp [Value.cells, zq]
theorem ratio_info : (Try.prog.info? 40).map (fun i => (i.zero, i.size, i.bytes)) = some (some (.agg #[.bool false, .slice none 0 0, .slice none 0 0]), 3, 56) := by kernel_rfl
theorem ratios_info : (Try.prog.info? 49).map (fun i => (i.zero, i.size, i.bytes)) = some (some (.slice none 0 0), 1, 24) := by kernel_rfl
theorem zero_ratI (S : Nat → Prop) (w : World) : RatI S w (.agg #[.bool false, .slice none 0 0, .slice none 0 0]) 0 (rz 0) :=
  ⟨false, .slice none 0 0, .slice none 0 0, [], [], rfl, NumV.nil _ _, NumV.nil _ _, by rw [show (nv ([] : List Int) : Nat) = 0 from rfl]; simp [Rat.div_def], by simp, by simp⟩
theorem RatI.setc {S : Nat → Prop} {w : World} {v : Value} {q : Rat} {n : Nat} {p : Addr} {x : Value} (hp : ¬ S p.block) (h : RatI S w v q n) : RatI S (w.setCell p x) v q n :=
  h.step fun _k hk _ => Below.heap_setCell w _ _ _ (fun e => hp (e ▸ hk))
/-- At offset o of block b lie the three cells of a ratio that reads as q, in no more limbs than q's own. -/
def RatC (S : Nat → Prop) (w : World) (b o : Nat) (q : Rat) : Prop :=
  ∃ N U k c B m d, w.cell? ⟨b, o, none⟩ = some (.bool N) ∧ w.cell? ⟨b, o + 1, none⟩ = some (.slice U k c) ∧ w.cell? ⟨b, o + 2, none⟩ = some (.slice B m d) ∧ RatI S w (.agg #[.bool N, .slice U k c, .slice B m d]) q (rz q)
theorem RatC.step {S : Nat → Prop} {w w1 : World} {b o : Nat} {q : Rat} (h : RatC S w b o q) (hb : w1.heap[b]? = w.heap[b]?) (hm : ∀ k, S k → k < w.heap.size → w1.heap[k]? = w.heap[k]?) : RatC S w1 b o q := by
  obtain ⟨N, U, k, c, B, m, d, h0, h1, h2, h3⟩ := h
  exact ⟨N, U, k, c, B, m, d, (World.cell?_of_block hb).trans h0, (World.cell?_of_block hb).trans h1, (World.cell?_of_block hb).trans h2, h3.step hm⟩
theorem RatC.mono {S T : Nat → Prop} {w : World} {b o : Nat} {q : Rat} (h : RatC S w b o q) (hm : ∀ k, S k → k < w.heap.size → T k) : RatC T w b o q := by
  obtain ⟨N, U, k, c, B, m, d, h0, h1, h2, h3⟩ := h
  exact ⟨N, U, k, c, B, m, d, h0, h1, h2, h3.mono hm⟩
/-- A row of m ratios in block b, writable; their limbs lie in blocks of S, of which b is none. -/
structure RowQ (S : Nat → Prop) (w : World) (b m : Nat) (T : Nat → Rat) : Prop where
  get : ∀ k, k < m → RatC S w b (k * 3) (T k)
  res : Res w b (m * 3)
  out : ¬ S b
theorem RowQ.step {S : Nat → Prop} {w w1 : World} {b m : Nat} {T : Nat → Rat} (h : RowQ S w b m T) (hz : w.heap.size ≤ w1.heap.size) (hb : w1.heap[b]? = w.heap[b]?) (hm : ∀ k, S k → k < w.heap.size → w1.heap[k]? = w.heap[k]?) : RowQ S w1 b m T :=
  ⟨fun k hk => (h.get k hk).step hb hm, ⟨Nat.lt_of_lt_of_le h.res.1 hz, fun i hi => by
    obtain ⟨⟨v, hv⟩, hf⟩ := h.res.2 i hi
    exact ⟨⟨v, (World.cell?_of_block hb).trans hv⟩, by rw [← hf]; exact World.frozen?_of_block hb⟩⟩, h.out⟩
theorem RowQ.below {S : Nat → Prop} {w w1 : World} {b m : Nat} {T : Nat → Rat} (h : RowQ S w b m T) (hb : Below w.heap.size w w1) : RowQ S w1 b m T :=
  h.step hb.size (hb.block b h.res.1) (fun k _ hk => hb.block k hk)
theorem RowQ.mono {S U : Nat → Prop} {w : World} {b m : Nat} {T : Nat → Rat} (h : RowQ S w b m T) (hm : ∀ k, S k → k < w.heap.size → U k) (ho : ¬ U b) : RowQ U w b m T :=
  ⟨fun k hk => (h.get k hk).mono hm, h.res, ho⟩
theorem RowQ.congr {S : Nat → Prop} {w : World} {b m : Nat} {T U : Nat → Rat} (h : RowQ S w b m T) (e : ∀ k, k < m → U k = T k) : RowQ S w b m U :=
  ⟨fun k hk => by rw [e k hk]; exact h.get k hk, h.res, h.out⟩
/-- A store into another block, where no limb lies. -/
theorem RowQ.setc {S : Nat → Prop} {w : World} {b m : Nat} {T : Nat → Rat} {p : Addr} {x : Value} (h : RowQ S w b m T) (hp : ¬ S p.block) (hb : b ≠ p.block) : RowQ S (w.setCell p x) b m T :=
  h.step (by simp [World.setCell]) (Below.heap_setCell w p x b hb) (fun k hk _ => Below.heap_setCell w p x k (fun e => hp (e ▸ hk)))
/-- One of them, written. -/
theorem RowQ.set {S : Nat → Prop} {w : World} {b m : Nat} {T : Nat → Rat} (h : RowQ S w b m T) {x : Nat} (hx : x < m) {q : Rat} {N : Bool} {U B : Option Addr} {k c n d : Nat} (hq : RatI S w (.agg #[.bool N, .slice U k c, .slice B n d]) q (rz q)) :
    RowQ S (((w.setCell ⟨b, x * 3, none⟩ (.bool N)).setCell ⟨b, x * 3 + 1, none⟩ (.slice U k c)).setCell ⟨b, x * 3 + 2, none⟩ (.slice B n d)) b m (fun j => if j = x then q else T j) := by
  have ho := h.out
  refine ⟨fun j hj => ?_, ((h.res.set _ _).set _ _).set _ _, ho⟩
  obtain ⟨⟨v0, h0⟩, _⟩ := h.res.2 (x * 3) (by omega)
  obtain ⟨⟨v1, h1⟩, _⟩ := h.res.2 (x * 3 + 1) (by omega)
  obtain ⟨⟨v2, h2⟩, _⟩ := h.res.2 (x * 3 + 2) (by omega)
  by_cases e : j = x
  · subst e
    rw [if_pos rfl]
    exact ⟨N, U, k, c, B, n, d, by simp [go_sem, h0], by simp [go_sem, h1], by simp [go_sem, h2], ((hq.setc ho).setc ho).setc ho⟩
  · rw [if_neg e]
    obtain ⟨N', U', k', c', B', n', d', g0, g1, g2, g3⟩ := h.get j hj
    refine ⟨N', U', k', c', B', n', d', by simp [go_sem, g0], by simp [go_sem, g1], by simp [go_sem, g2], ((g3.setc ho).setc ho).setc ho⟩
/-- A fresh row. -/
theorem RowQ.made (S : Nat → Prop) (w : World) (m : Nat) (hm : m ≤ 1000000) (ho : ¬ S w.heap.size) : RowQ S (w.alloc (.cells (madeCells zq (m * 3)) 40)) w.heap.size m (fun _ => 0) := by
  have h := World.ownsRow_lit (base := 0) (e := 40) (size := 3) w (madeCells zq (m * 3)) m (Nat.zero_le _) (by simp only [maxLen]; omega) (by simp [size_madeCells])
  have hcell : ∀ i, i < m * 3 → (w.alloc (.cells (madeCells zq (m * 3)) 40)).cell? ⟨w.heap.size, i, none⟩ = some (zq[i % 3]!) := fun i hi => by
    rw [World.ownsRow.cellAt h i (by simpa using hi)]
    simp [madeCells, hi, zq]
  refine ⟨fun k hk => ⟨false, none, 0, 0, none, 0, 0, ?_, ?_, ?_, zero_ratI _ _⟩, ⟨by simp, fun i hi => ⟨⟨_, hcell i hi⟩, World.ownsRow.frozenAt h i⟩⟩, ho⟩
  · rw [hcell _ (by omega), show k * 3 % 3 = 0 by omega]; rfl
  · rw [hcell _ (by omega), show (k * 3 + 1) % 3 = 1 by omega]; rfl
  · rw [hcell _ (by omega), show (k * 3 + 2) % 3 = 2 by omega]; rfl
/-- n rows of m ratios; the outer row lies in block gt, row r in block R r. -/
structure TabQ (S : Nat → Prop) (w : World) (gt n m : Nat) (R : Nat → Nat) (T : Nat → Nat → Rat) : Prop where
  top : ∀ r, r < n → w.cell? ⟨gt, r, none⟩ = some (.slice (some ⟨R r, 0, none⟩) m m)
  row : ∀ r, r < n → RowQ S w (R r) m (T r)
  inj : ∀ r s, r < n → s < n → R r = R s → r = s
  ne : ∀ r, r < n → R r ≠ gt
theorem TabQ.below {S : Nat → Prop} {w w1 : World} {gt n m : Nat} {R : Nat → Nat} {T : Nat → Nat → Rat} (h : TabQ S w gt n m R T) (hb : Below w.heap.size w w1) : TabQ S w1 gt n m R T :=
  ⟨fun r hr => cell_below (h.top r hr) hb, fun r hr => (h.row r hr).below hb, h.inj, h.ne⟩
theorem TabQ.step {S : Nat → Prop} {w w1 : World} {gt n m : Nat} {R : Nat → Nat} {T : Nat → Nat → Rat} (h : TabQ S w gt n m R T) (hz : w.heap.size ≤ w1.heap.size) (ht : w1.heap[gt]? = w.heap[gt]?) (hr : ∀ r, r < n → w1.heap[R r]? = w.heap[R r]?) (hm : ∀ k, S k → k < w.heap.size → w1.heap[k]? = w.heap[k]?) : TabQ S w1 gt n m R T :=
  ⟨fun r hr' => (World.cell?_of_block ht).trans (h.top r hr'), fun r hr' => (h.row r hr').step hz (hr r hr') hm, h.inj, h.ne⟩
theorem TabQ.congr {S : Nat → Prop} {w : World} {gt n m : Nat} {R : Nat → Nat} {T U : Nat → Nat → Rat} (h : TabQ S w gt n m R T) (e : ∀ r, r < n → ∀ k, k < m → U r k = T r k) : TabQ S w gt n m R U :=
  ⟨h.top, fun r hr => (h.row r hr).congr (e r hr), h.inj, h.ne⟩
theorem TabQ.mono {S U : Nat → Prop} {w : World} {gt n m : Nat} {R : Nat → Nat} {T : Nat → Nat → Rat} (h : TabQ S w gt n m R T) (hm : ∀ k, S k → k < w.heap.size → U k) (ho : ∀ r, r < n → ¬ U (R r)) : TabQ U w gt n m R T :=
  ⟨h.top, fun r hr => (h.row r hr).mono hm (ho r hr), h.inj, h.ne⟩
/-- One number of it, written. -/
theorem TabQ.set {S : Nat → Prop} {w : World} {gt n m : Nat} {R : Nat → Nat} {T : Nat → Nat → Rat} (h : TabQ S w gt n m R T) {g x : Nat} (hg : g < n) (hx : x < m) {q : Rat} {N : Bool} {U B : Option Addr} {k c l d : Nat} (hq : RatI S w (.agg #[.bool N, .slice U k c, .slice B l d]) q (rz q)) :
    TabQ S (((w.setCell ⟨R g, x * 3, none⟩ (.bool N)).setCell ⟨R g, x * 3 + 1, none⟩ (.slice U k c)).setCell ⟨R g, x * 3 + 2, none⟩ (.slice B l d)) gt n m R (fun r j => if r = g ∧ j = x then q else T r j) := by
  have hne : gt ≠ R g := fun e => h.ne g hg e.symm
  refine ⟨fun r hr => set_cell (set_cell (set_cell (h.top r hr) hne) hne) hne, fun r hr => ?_, h.inj, h.ne⟩
  by_cases e : r = g
  · subst e
    refine ((h.row r hr).set hx hq).congr (fun j _ => ?_)
    by_cases e2 : j = x
    · rw [if_pos ⟨rfl, e2⟩, if_pos e2]
    · rw [if_neg (fun a => e2 a.2), if_neg e2]
  · have hb : R r ≠ R g := fun e2 => e (h.inj r g hr hg e2)
    have ho := (h.row g hg).out
    exact ((((h.row r hr).setc (p := ⟨R g, x * 3, none⟩) ho hb).setc (p := ⟨R g, x * 3 + 1, none⟩) ho hb).setc (p := ⟨R g, x * 3 + 2, none⟩) ho hb).congr (fun j _ => by rw [if_neg (fun a => e a.1)])
/-- The outer row of n slices in block gt; the first k rows of m zeros stand right behind it. -/
structure GrowQ (S : Nat → Prop) (w : World) (gt n m k : Nat) : Prop where
  size : w.heap.size = gt + 1 + k
  res : Res w gt n
  top : ∀ r, r < k → w.cell? ⟨gt, r, none⟩ = some (.slice (some ⟨gt + 1 + r, 0, none⟩) m m)
  row : ∀ r, r < k → RowQ S w (gt + 1 + r) m (fun _ => 0)
theorem GrowQ.step {S : Nat → Prop} {w : World} {gt n m k : Nat} (h : GrowQ S w gt n m k) (hk : k < n) (hm : m ≤ 1000000) (ho : ∀ j, gt ≤ j → j ≤ gt + n → ¬ S j) :
    GrowQ S ((w.setCell ⟨gt, k, none⟩ (.slice (some ⟨gt + 1 + k, 0, none⟩) m m)).alloc (.cells (madeCells zq (m * 3)) 40)) gt n m (k + 1) := by
  have hs : (w.setCell ⟨gt, k, none⟩ (.slice (some ⟨gt + 1 + k, 0, none⟩) m m)).heap.size = gt + 1 + k := by rw [← h.size]; simp [World.setCell]
  have hb := (Below.refl _ (w.setCell ⟨gt, k, none⟩ (.slice (some ⟨gt + 1 + k, 0, none⟩) m m))).alloc (Nat.le_refl _) (.cells (madeCells zq (m * 3)) 40)
  refine ⟨by simp [hs]; omega, (h.res.set _ _).below hb, fun r hr => cell_below ?_ hb, fun r hr => ?_⟩
  · by_cases e : r = k
    · subst e
      obtain ⟨⟨x, hx⟩, _⟩ := h.res.2 r hk
      simp [go_sem, hx]
    · have := h.top r (by omega)
      simp [go_sem, this, e]
  · by_cases e : r = k
    · subst e
      have := RowQ.made S (w.setCell ⟨gt, r, none⟩ (.slice (some ⟨gt + 1 + r, 0, none⟩) m m)) m hm (by rw [hs]; exact ho _ (by omega) (by omega))
      rwa [hs] at this
    · exact ((h.row r (by omega)).setc (ho _ (by simp) (by simp)) (by simp; omega)).below hb
theorem GrowQ.start (S : Nat → Prop) (w : World) (n m : Nat) (hn : n ≤ 1000) : GrowQ S (w.alloc (.cells (madeCells #[.slice none 0 0] n) 49)) w.heap.size n m 0 := by
  have h := World.ownsRow_lit (base := 0) (e := 49) (size := 1) w (madeCells #[.slice none 0 0] n) n (Nat.zero_le _) (by simp only [maxLen]; omega) (by simp [size_madeCells])
  rw [toList_madeCells_one] at h
  refine ⟨by simp, ⟨by simp, fun i hi => ?_⟩, fun r hr => by omega, fun r hr => by omega⟩
  have hc := World.ownsRow.cellAt h i (by simpa using hi)
  exact ⟨⟨.slice none 0 0, by rw [hc]; simp [hi]⟩, World.ownsRow.frozenAt h i⟩
theorem GrowQ.done {S : Nat → Prop} {w : World} {gt n m : Nat} (h : GrowQ S w gt n m n) : TabQ S w gt n m (fun r => gt + 1 + r) (fun _ _ => 0) :=
  ⟨h.top, h.row, fun r s _ _ e => by omega, fun r _ => by omega⟩
theorem RatV.setc' {S : Nat → Prop} {w : World} {v : Value} {q : Rat} {p : Addr} {x : Value} (hp : ¬ S p.block) (h : RatV S w v q) : RatV S (w.setCell p x) v q :=
  h.step fun _k hk _ => Below.heap_setCell w _ _ _ (fun e => hp (e ▸ hk))
/-- At offset o of block b lie the three cells of the normal form of q. -/
def RatN (S : Nat → Prop) (w : World) (b o : Nat) (q : Rat) : Prop :=
  ∃ N U k c B m d, w.cell? ⟨b, o, none⟩ = some (.bool N) ∧ w.cell? ⟨b, o + 1, none⟩ = some (.slice U k c) ∧ w.cell? ⟨b, o + 2, none⟩ = some (.slice B m d) ∧ RatV S w (.agg #[.bool N, .slice U k c, .slice B m d]) q
theorem RatN.below {S : Nat → Prop} {w w1 : World} {b o : Nat} {q : Rat} (h : RatN S w b o q) (hb : Below w.heap.size w w1) : RatN S w1 b o q := by
  obtain ⟨N, U, k, c, B, m, d, h0, h1, h2, h3⟩ := h
  exact ⟨N, U, k, c, B, m, d, cell_below h0 hb, cell_below h1 hb, cell_below h2 hb, h3.below hb⟩
/-- The places k with L k of the row in block b hold the normal forms of T k. -/
def RowN (S : Nat → Prop) (w : World) (b : Nat) (L : Nat → Prop) (T : Nat → Rat) : Prop := ∀ k, L k → RatN S w b (k * 3) (T k)
theorem RowN.below {S : Nat → Prop} {w w1 : World} {b : Nat} {L : Nat → Prop} {T : Nat → Rat} (h : RowN S w b L T) (hb : Below w.heap.size w w1) : RowN S w1 b L T := fun k hk => (h k hk).below hb
theorem RowN.congr {S : Nat → Prop} {w : World} {b : Nat} {L M : Nat → Prop} {T U : Nat → Rat} (h : RowN S w b L T) (e : ∀ k, M k → L k ∧ U k = T k) : RowN S w b M U := fun k hk => by
  rw [(e k hk).2]; exact h k (e k hk).1
theorem RowN.set {S : Nat → Prop} {w : World} {b : Nat} {L : Nat → Prop} {T : Nat → Rat} (h : RowN S w b L T) (x : Nat) (ho : ¬ S b) (hr : Res w b (x * 3 + 3)) {q : Rat} {N : Bool} {U B : Option Addr} {k c n d : Nat} (hq : RatV S w (.agg #[.bool N, .slice U k c, .slice B n d]) q) :
    RowN S (((w.setCell ⟨b, x * 3, none⟩ (.bool N)).setCell ⟨b, x * 3 + 1, none⟩ (.slice U k c)).setCell ⟨b, x * 3 + 2, none⟩ (.slice B n d)) b (fun j => j = x ∨ L j) (fun j => if j = x then q else T j) := fun j hj => by
  obtain ⟨⟨v0, h0⟩, _⟩ := hr.2 (x * 3) (by omega)
  obtain ⟨⟨v1, h1⟩, _⟩ := hr.2 (x * 3 + 1) (by omega)
  obtain ⟨⟨v2, h2⟩, _⟩ := hr.2 (x * 3 + 2) (by omega)
  by_cases e : j = x
  · subst e
    simp only [if_pos]
    exact ⟨N, U, k, c, B, n, d, by simp [go_sem, h0], by simp [go_sem, h1], by simp [go_sem, h2], ((hq.setc' ho).setc' ho).setc' ho⟩
  · simp only [if_neg e]
    rcases hj with hj | hj
    · exact absurd hj e
    · obtain ⟨N', U', k', c', B', n', d', g0, g1, g2, g3⟩ := h j hj
      refine ⟨N', U', k', c', B', n', d', by simp [go_sem, g0], by simp [go_sem, g1], by simp [go_sem, g2], ((g3.setc' ho).setc' ho).setc' ho⟩
theorem Res.le {w : World} {b m n : Nat} (h : Res w b m) (hn : n ≤ m) : Res w b n := ⟨h.1, fun i hi => h.2 i (by omega)⟩
end Go.Proofs.Ytdbpjnjgjmfomaa

/- The distribution of the Guttman errors, step by step, in plain numbers. -/
namespace Go.Proofs.Ytdbpjnjgjmfomaa
open Go.RowKit

/-- One response more: from B to the next table. -/
def stepQ (p : Rat) (B : Nat → Nat → Rat) : Nat → Nat → Rat := fun r k =>
  (if 1 ≤ r then B (r - 1) k * (1 - p) else 0) + (if r ≤ k then B r (k - r) * p else 0)
/-- The table behind i responses: r wrong ones and k errors. -/
def dpQ (p : Nat → Rat) : Nat → Nat → Nat → Rat
  | 0 => fun r k => if r = 0 ∧ k = 0 then 1 else 0
  | i + 1 => stepQ (p i) (dpQ p i)
theorem dpQ_zero (p : Nat → Rat) : ∀ i r k, i < r → dpQ p i r k = 0
  | 0, r, k, h => by
    show (if r = 0 ∧ k = 0 then (1 : Rat) else 0) = 0
    rw [if_neg (by omega)]
  | i + 1, r, k, h => by
    have h1 := dpQ_zero p i (r - 1) k (by omega)
    have h2 := dpQ_zero p i r (k - r) (by omega)
    rw [dpQ, stepQ, h1, h2]
    split <;> split <;> grind
/-- The next table on its way: the rows below w and the first k of row w are spread. -/
def midQ (p : Rat) (B : Nat → Nat → Rat) (w k : Nat) : Nat → Nat → Rat := fun r j =>
  (if 1 ≤ r ∧ (r - 1 < w ∨ (r - 1 = w ∧ j < k)) then B (r - 1) j * (1 - p) else 0) + (if r ≤ j ∧ (r < w ∨ (r = w ∧ j - r < k)) then B r (j - r) * p else 0)
theorem mid_start (p : Rat) (B : Nat → Nat → Rat) (r j : Nat) : midQ p B 0 0 r j = 0 := by
  unfold midQ
  rw [if_neg (by omega), if_neg (by omega)]; grind
theorem mid_row (p : Rat) (B : Nat → Nat → Rat) (w m r j : Nat) (hj : j < m) : midQ p B w m r j = midQ p B (w + 1) 0 r j := by
  unfold midQ
  by_cases a : 1 ≤ r ∧ (r - 1 < w ∨ (r - 1 = w ∧ j < m))
  · rw [if_pos a, if_pos (show 1 ≤ r ∧ (r - 1 < w + 1 ∨ (r - 1 = w + 1 ∧ j < 0)) by omega)]
    by_cases b : r ≤ j ∧ (r < w ∨ (r = w ∧ j - r < m))
    · rw [if_pos b, if_pos (show r ≤ j ∧ (r < w + 1 ∨ (r = w + 1 ∧ j - r < 0)) by omega)]
    · rw [if_neg b, if_neg (show ¬ (r ≤ j ∧ (r < w + 1 ∨ (r = w + 1 ∧ j - r < 0))) by omega)]
  · rw [if_neg a, if_neg (show ¬ (1 ≤ r ∧ (r - 1 < w + 1 ∨ (r - 1 = w + 1 ∧ j < 0))) by omega)]
    by_cases b : r ≤ j ∧ (r < w ∨ (r = w ∧ j - r < m))
    · rw [if_pos b, if_pos (show r ≤ j ∧ (r < w + 1 ∨ (r = w + 1 ∧ j - r < 0)) by omega)]
    · rw [if_neg b, if_neg (show ¬ (r ≤ j ∧ (r < w + 1 ∨ (r = w + 1 ∧ j - r < 0))) by omega)]
theorem mid_end (p : Rat) (B : Nat → Nat → Rat) (i : Nat) (hB : ∀ r k, i < r → B r k = 0) (r j : Nat) : midQ p B (i + 1) 0 r j = stepQ p B r j := by
  unfold midQ stepQ
  congr 1
  · by_cases a : 1 ≤ r
    · by_cases b : r - 1 < i + 1
      · rw [if_pos (by omega), if_pos a]
      · rw [if_neg (by omega), if_pos a, hB _ _ (by omega)]; grind
    · rw [if_neg (by omega), if_neg a]
  · by_cases a : r ≤ j
    · by_cases b : r < i + 1
      · rw [if_pos (by omega), if_pos a]
      · rw [if_neg (by omega), if_pos a, hB _ _ (by omega)]; grind
    · rw [if_neg (by omega), if_neg a]
/-- Behind the first of the two additions. -/
def mid1 (p : Rat) (B : Nat → Nat → Rat) (w k : Nat) : Nat → Nat → Rat := fun r j => if r = w + 1 ∧ j = k then midQ p B w k (w + 1) k + B w k * (1 - p) else midQ p B w k r j
theorem mid1_other (p : Rat) (B : Nat → Nat → Rat) (w k m r j : Nat) (hj : j < m) (h : m ≤ k + w) : mid1 p B w k r j = midQ p B w (k + 1) r j := by
  unfold mid1
  by_cases e : r = w + 1 ∧ j = k
  · obtain ⟨rfl, rfl⟩ := e
    rw [if_pos ⟨rfl, rfl⟩]
    unfold midQ
    rw [if_neg (by omega), if_neg (by omega), if_pos (by omega), if_neg (by omega)]
    simp; grind
  · rw [if_neg e]
    unfold midQ
    congr 1
    · by_cases a : 1 ≤ r ∧ (r - 1 < w ∨ (r - 1 = w ∧ j < k))
      · rw [if_pos a, if_pos (by omega)]
      · rw [if_neg a, if_neg (by omega)]
    · by_cases a : r ≤ j ∧ (r < w ∨ (r = w ∧ j - r < k))
      · rw [if_pos a, if_pos (by omega)]
      · rw [if_neg a, if_neg (by omega)]
theorem mid_both (p : Rat) (B : Nat → Nat → Rat) (w k r j : Nat) : (if r = w ∧ j = k + w then mid1 p B w k w (k + w) + B w k * p else mid1 p B w k r j) = midQ p B w (k + 1) r j := by
  by_cases e : r = w ∧ j = k + w
  · obtain ⟨rfl, rfl⟩ := e
    rw [if_pos ⟨rfl, rfl⟩]
    unfold mid1
    rw [if_neg (by omega)]
    unfold midQ
    rw [show k + r - r = k by omega]
    congr 1
    · by_cases a : 1 ≤ r
      · rw [if_pos (by omega), if_neg (by omega), if_pos (by omega)]
        grind
      · rw [if_neg (by omega), if_neg (by omega), if_neg (by omega)]
        grind
    · rw [if_pos (by omega)]
  · rw [if_neg e]
    unfold mid1
    by_cases f : r = w + 1 ∧ j = k
    · obtain ⟨rfl, rfl⟩ := f
      rw [if_pos ⟨rfl, rfl⟩]
      unfold midQ
      rw [if_neg (by omega), if_neg (by omega), if_pos (by omega), if_neg (by omega)]
      simp; grind
    · rw [if_neg f]
      unfold midQ
      congr 1
      · by_cases a : 1 ≤ r ∧ (r - 1 < w ∨ (r - 1 = w ∧ j < k))
        · rw [if_pos a, if_pos (by omega)]
        · rw [if_neg a, if_neg (by omega)]
      · by_cases a : r ≤ j ∧ (r < w ∨ (r = w ∧ j - r < k))
        · rw [if_pos a, if_pos (by omega)]
        · rw [if_neg a, if_neg (by omega)]
theorem mid_skip (p : Rat) (B : Nat → Nat → Rat) (w k : Nat) (h : B w k = 0) (r j : Nat) : midQ p B w k r j = midQ p B w (k + 1) r j := by
  rw [← mid_both]
  unfold mid1
  by_cases e : r = w ∧ j = k + w
  · obtain ⟨rfl, rfl⟩ := e
    rw [if_pos ⟨rfl, rfl⟩, if_neg (by omega), h]; grind
  · rw [if_neg e]
    by_cases f : r = w + 1 ∧ j = k
    · obtain ⟨rfl, rfl⟩ := f
      rw [if_pos ⟨rfl, rfl⟩, h]; grind
    · rw [if_neg f]
/-- The sum over the first w numbers of wrong ones. -/
def sumW (p : Nat → Rat) (n k : Nat) : Nat → Rat
  | 0 => 0
  | w + 1 => sumW p n k w + dpQ p n w k
/-- The probability of k errors among n responses. -/
def nulQ (p : Nat → Rat) (n k : Nat) : Rat := sumW p n k (n + 1)

theorem rz_zero : rz 0 ≤ 2 := by
  have := rz_small 0 1 (by decide) (by decide)
  rwa [show ((0 : Int) : Rat) / ((1 : Int) : Rat) = 0 by grind] at this
theorem rz_one' : rz 1 ≤ 2 := by
  have := rz_small 1 1 (by decide) (by decide)
  rwa [show ((1 : Int) : Rat) / ((1 : Int) : Rat) = 1 by grind] at this
/-- How many limbs the numbers of the table have at most. -/
def bz : Nat → Nat
  | 0 => 2
  | i + 1 => 2 * bz i + 2010
theorem bz_pos : ∀ i, 2 ≤ bz i
  | 0 => Nat.le_refl _
  | i + 1 => by have := bz_pos i; rw [bz]; omega
theorem bz_le : ∀ {i}, i ≤ 20 → bz i ≤ bz 20 := by
  have mono : ∀ i, bz i ≤ bz (i + 1) := fun i => by rw [bz]; omega
  intro i hi
  have : ∀ d, bz i ≤ bz (i + d) := fun d => by
    induction d with
    | zero => exact Nat.le_refl _
    | succ d ih => exact Nat.le_trans ih (mono _)
  have h := this (20 - i)
  rwa [show i + (20 - i) = 20 by omega] at h
theorem bz_20 : bz 20 ≤ 3000000000 := by decide
theorem mid_rz {p : Rat} {B : Nat → Nat → Rat} {z : Nat} (hp : rz p ≤ 1000) (hB : ∀ r k, rz (B r k) ≤ z) (w k r j : Nat) : rz (midQ p B w k r j) ≤ 2 * z + 2010 := by
  unfold midQ
  have h0 := rz_zero
  have h1 := rz_one'
  have h2 := rz_sub 1 p
  have h3 := rz_mul (B (r - 1) j) (1 - p)
  have h4 := rz_mul (B r (j - r)) p
  have h5 := hB (r - 1) j
  have h6 := hB r (j - r)
  refine Nat.le_trans (rz_add _ _) ?_
  split <;> split <;> omega
theorem dp_rz {p : Nat → Rat} {n : Nat} (hp : ∀ i, i < n → rz (p i) ≤ 1000) : ∀ i, i ≤ n → ∀ r k, rz (dpQ p i r k) ≤ bz i
  | 0, _, r, k => by
    show rz (if r = 0 ∧ k = 0 then (1 : Rat) else 0) ≤ 2
    split
    · exact rz_one'
    · exact rz_zero
  | i + 1, hi, r, k => by
    rw [dpQ, ← mid_end (p i) (dpQ p i) i (fun r k h => dpQ_zero p i r k h) r k]
    exact mid_rz (hp i (by omega)) (dp_rz hp i (by omega)) _ _ _ _
theorem sum_rz {p : Nat → Rat} {n z : Nat} (hB : ∀ r k, rz (dpQ p n r k) ≤ z) (k : Nat) : ∀ w, rz (sumW p n k w) ≤ w * (z + 1) + 2
  | 0 => by rw [sumW]; have := rz_zero; omega
  | w + 1 => by
    rw [sumW]
    have := sum_rz hB k w
    have h2 := rz_add (sumW p n k w) (dpQ p n w k)
    have h3 := hB w k
    have e : (w + 1) * (z + 1) = w * (z + 1) + (z + 1) := by rw [Nat.add_mul]; omega
    omega
/-- No ratio takes more limbs than it is written in. -/
theorem RatI.rz {S : Nat → Prop} {w : World} {v : Value} {q : Rat} {n : Nat} (h : RatI S w v q n) (hn : 2 ≤ n) : rz q ≤ n := by
  obtain ⟨neg, u, d, l, t, e, hu, hd, hq, h1, h2⟩ := h
  rcases Nat.eq_zero_or_pos (nv t) with h0 | h0
  · rw [h0] at hq
    have : q = 0 := by rw [← hq]; simp [Rat.div_def, Rat.inv_zero]
    rw [this]
    exact Nat.le_trans rz_zero hn
  · rw [← hq]
    refine Nat.le_trans (rz_frac _ _ h0) (Nat.max_le.2 ⟨?_, ?_⟩)
    · unfold sz
      rw [iv_natAbs]
      exact Nat.le_trans (dig_len_le hu.1) h1
    · exact Nat.le_trans (dig_len_le hd.1) h2
end Go.Proofs.Ytdbpjnjgjmfomaa

/- Lists of ratios to read: as they came in, or as a row of the call's own. -/
namespace Go.Proofs.Ytdbpjnjgjmfomaa
open Go.RowKit

/-- From A on lie m ratios T 0, T 1, .., none in more than z limbs a part. -/
def LisQ (w : World) (A : Option Addr) (m : Nat) (T : Nat → Rat) (z : Nat) : Prop :=
  ∀ k, k < m → ∃ ad, A = some ad ∧ ∃ N U l c B n d, w.cell? (ad.add (k * 3)) = some (.bool N) ∧ w.cell? ⟨(ad.add (k * 3)).block, (ad.add (k * 3)).off + 1, none⟩ = some (.slice U l c) ∧ w.cell? ⟨(ad.add (k * 3)).block, (ad.add (k * 3)).off + 2, none⟩ = some (.slice B n d) ∧ RatI (fun _ => True) w (.agg #[.bool N, .slice U l c, .slice B n d]) (T k) z
theorem LisQ.below {w w1 : World} {A : Option Addr} {m z : Nat} {T : Nat → Rat} (h : LisQ w A m T z) (hb : Below w.heap.size w w1) : LisQ w1 A m T z := fun k hk => by
  obtain ⟨ad, e, N, U, l, c, B, n, d, h0, h1, h2, h3⟩ := h k hk
  exact ⟨ad, e, N, U, l, c, B, n, d, cell_below h0 hb, cell_below h1 hb, cell_below h2 hb, h3.below hb⟩
theorem RsV.lis {S : Nat → Prop} {w : World} {A : Option Addr} {es : List Rt} {z : Nat} (h : RsV S w A es) (hz : ∀ i, i < es.length → (es.getD i rt0).2.1.length ≤ z ∧ (es.getD i rt0).2.2.length ≤ z) : LisQ w A es.length (fun i => qe (es.getD i rt0)) z := fun k hk => by
  obtain ⟨ad, e, N, U, l, c, B, n, d, h0, h1, h2, h3, h4, h5⟩ := h.at k hk
  have := hz k hk
  exact ⟨ad, e, N, U, l, c, B, n, d, h0, h1, h2, (h5.le (by omega)).mono (fun _ _ _ => trivial)⟩
theorem RowQ.lis {S : Nat → Prop} {w : World} {b m z : Nat} {T : Nat → Rat} (h : RowQ S w b m T) (hz : ∀ k, k < m → rz (T k) ≤ z) : LisQ w (some ⟨b, 0, none⟩) m T z := fun k hk => by
  obtain ⟨N, U, l, c, B, n, d, h0, h1, h2, h3⟩ := h.get k hk
  refine ⟨⟨b, 0, none⟩, rfl, N, U, l, c, B, n, d, ?_, ?_, ?_, (h3.le (hz k hk)).mono (fun _ _ _ => trivial)⟩
  · rw [add_zero_off]; exact h0
  · rw [add_zero_off]; exact h1
  · rw [add_zero_off]; exact h2
/-- The sum of the first k. -/
def sumT (T : Nat → Rat) : Nat → Rat
  | 0 => 0
  | k + 1 => sumT T k + T k
theorem sumT_rz {T : Nat → Rat} {m z : Nat} (h : ∀ k, k < m → rz (T k) ≤ z) : ∀ k, k ≤ m → rz (sumT T k) ≤ k * (z + 1) + 2
  | 0, _ => by rw [sumT]; have := rz_zero; omega
  | k + 1, hk => by
    rw [sumT]
    have := sumT_rz h k (by omega)
    have h2 := rz_add (sumT T k) (T k)
    have h3 := h k (by omega)
    have e : (k + 1) * (z + 1) = k * (z + 1) + (z + 1) := by rw [Nat.add_mul]; omega
    omega
theorem LisQ.rz {w : World} {A : Option Addr} {m z : Nat} {T : Nat → Rat} (h : LisQ w A m T z) (hz : 2 ≤ z) : ∀ k, k < m → rz (T k) ≤ z := fun k hk => by
  obtain ⟨_, _, _, _, _, _, _, _, _, _, _, _, hI⟩ := h k hk
  exact hI.rz hz
/-- A box with one ratio. -/
theorem RowQ.lit {S : Nat → Prop} {w : World} {q : Rat} {N : Bool} {U B : Option Addr} {k c n d : Nat} (hq : RatI S w (.agg #[.bool N, .slice U k c, .slice B n d]) q (rz q)) (ho : ¬ S w.heap.size) :
    RowQ S (w.alloc (.cells #[.bool N, .slice U k c, .slice B n d] 40)) w.heap.size 1 (fun _ => q) := by
  refine ⟨fun j hj => ?_, ⟨by simp, fun i hi => ?_⟩, ho⟩
  · obtain rfl : j = 0 := by omega
    exact ⟨N, U, k, c, B, n, d, by simp [go_sem], by simp [go_sem], by simp [go_sem], hq.below ((Below.refl _ _).alloc (Nat.le_refl _) _)⟩
  · rcases (by omega : i = 0 ∨ i = 1 ∨ i = 2) with rfl | rfl | rfl
    · exact ⟨⟨.bool N, by simp [go_sem]⟩, by simp [go_sem]⟩
    · exact ⟨⟨.slice U k c, by simp [go_sem]⟩, by simp [go_sem]⟩
    · exact ⟨⟨.slice B n d, by simp [go_sem]⟩, by simp [go_sem]⟩
theorem RowN.lit {S : Nat → Prop} {w : World} {q : Rat} {N : Bool} {U B : Option Addr} {k c n d : Nat} (hq : RatV S w (.agg #[.bool N, .slice U k c, .slice B n d]) q) :
    RowN S (w.alloc (.cells #[.bool N, .slice U k c, .slice B n d] 40)) w.heap.size (fun j => j = 0) (fun _ => q) := fun j hj => by
  subst hj
  exact ⟨N, U, k, c, B, n, d, by simp [go_sem], by simp [go_sem], by simp [go_sem], hq.below ((Below.refl _ _).alloc (Nat.le_refl _) _)⟩
theorem Res.lit0 (w : World) : Res (w.alloc (.cells #[.bool false, .slice none 0 0, .slice none 0 0] 40)) w.heap.size 3 := by
  refine ⟨by simp, fun i hi => ?_⟩
  rcases (by omega : i = 0 ∨ i = 1 ∨ i = 2) with rfl | rfl | rfl
  · exact ⟨⟨.bool false, by simp [go_sem]⟩, by simp [go_sem]⟩
  · exact ⟨⟨.slice none 0 0, by simp [go_sem]⟩, by simp [go_sem]⟩
  · exact ⟨⟨.slice none 0 0, by simp [go_sem]⟩, by simp [go_sem]⟩
end Go.Proofs.Ytdbpjnjgjmfomaa

/- The law of the model, walked where fit.Null refuses, or the list is not looked at. -/
namespace Go.Proofs.Ytdbpjnjgjmfomaa
open Go.RowKit

theorem ck_three {es : List Rt} (h : ckE es ≠ 0) (h20 : es.length ≤ 20) : ckE es = 3 ∧ es.any badE = true := by
  unfold ckE at *
  rw [if_neg (by omega)] at *
  cases hb : es.any badE with
  | true => exact ⟨rfl, rfl⟩
  | false => rw [hb] at h; exact absurd rfl h
theorem longE_false {e : Rt} (h : longE e = false) : e.2.1.length ≤ 2 ∧ e.2.2.length ≤ 2 := by
  unfold longE at h
  rw [Bool.or_eq_false_iff] at h
  have h1 := of_decide_eq_false h.1
  have h2 := of_decide_eq_false h.2
  omega
theorem short_of {es : List Rt} (h : heavyB es = false) : Short es := by
  intro h20 i hi
  unfold heavyB at h
  rw [if_neg (by omega), Bool.or_eq_false_iff] at h
  have h1 := List.any_eq_false.1 h.1 (es.getD i rt0) (by rw [List.getD_eq_getElem?_getD, List.getElem?_eq_getElem hi]; exact List.getElem_mem hi)
  have h2 : (es.getD i rt0).2.1.length ≤ 2 ∧ (es.getD i rt0).2.2.length ≤ 2 := longE_false (Bool.eq_false_iff.2 h1)
  exact ⟨by omega, by omega⟩
theorem short_two {es : List Rt} (h : heavyB es = false) (h20 : es.length ≤ 20) : ∀ i, i < es.length → (es.getD i rt0).2.1.length ≤ 2 ∧ (es.getD i rt0).2.2.length ≤ 2 := by
  intro i hi
  unfold heavyB at h
  rw [if_neg (by omega), Bool.or_eq_false_iff] at h
  have h1 := List.any_eq_false.1 h.1 (es.getD i rt0) (by rw [List.getD_eq_getElem?_getD, List.getElem?_eq_getElem hi]; exact List.getElem_mem hi)
  exact longE_false (Bool.eq_false_iff.2 h1)

set_option maxHeartbeats 16000000 in
set_option maxRecDepth 100000 in
theorem law_Model_no {S : Nat → Prop} {A : Option Addr} {c : Nat} {es : List Rt} (w : World) (hv : RsV S w A es) (hH : heavyB es = false) (h6 : es.length ≤ 6) (hE : ckE es ≠ 0) :
    Calls Try.prog 8 #[.slice A es.length c] w fun e w' => e = .returned (.bool true) ∧ Below w.heap.size w w' := by
  obtain ⟨hE3, hany⟩ := ck_three hE (by omega)
  have hl := short_of hH
  have hl2 := short_two hH (by omega)
  have H1 : As (Calls Try.prog 30 #[.slice A es.length c] w fun e w' => e = .returned (.bool false) ∧ Below w.heap.size w w') := ⟨by rw [← hH]; exact law_heavy w hv (by omega)⟩
  have H2 : As (∀ W, Below w.heap.size w W → Calls Try.prog 31 #[.slice A es.length c] W fun e w' => e = .returned (.tuple #[.slice none 0 0, .int .i64 3]) ∧ Below W.heap.size W w') := ⟨fun W hb => by
    have := fit_Null_no (c := c) W (hv.below hb) (by omega) hl hE
    rwa [hE3] at this⟩
  have hq := As.mk (hv.lis (z := 2) hl2)
  have hdr : As (∀ k, k < es.length → (es.drop k).any badE = (badE (es.getD k rt0) || (es.drop (k + 1)).any badE)) := ⟨fun k hk => any_dropR es badE k hk⟩
  have hdn : As ((es.drop es.length).any badE = false) := ⟨by simp⟩
  replace hany := As.mk hany
  clear hv hl hl2 hH hE hE3
  generalize es.length = n at *
  have b6 : (6 < (n : Int)) = False := eq_false (by omega)
  have hsz : 2 + rz 1 ≤ 35184372088828 := by have := rz_on; omega
  go_enter Try.func8, Try.ntmps8
  go_wp2_with fail
  refine H1.out.mono ?_
  rintro e w1 ⟨rfl, hb1⟩
  clear H1
  have K2 := As.mk (H2.out _ hb1)
  clear H2
  go_wp2_with fail
  refine K2.out.mono ?_
  rintro e w2 ⟨rfl, hb2⟩
  replace hb2 := hb1.after hb1.size hb2
  clear K2 hb1
  go_wp2_with fail
  refine (rat_Of _ 1 1 (by decide) (by decide) (by decide) (by decide)).mono ?_
  rintro e w3 ⟨r3, rfl, hL, hb3⟩
  rw [one_fr] at hL
  replace hb3 := hb2.after hb2.size hb3
  obtain ⟨oN, oA, ok, oc, oB, ol, od, rfl⟩ := hL.letters
  have hO : RatI (fun _ => True) w3 (.agg #[.bool oN, .slice oA ok oc, .slice oB ol od]) 1 (rz 1) := hL.i.mono (fun _ _ _ => trivial)
  have hb4 := (Below.refl w3.heap.size w3).alloc (Nat.le_refl _) (.cells #[.bool oN, .slice oA ok oc, .slice oB ol od] 40)
  clear hb2 hL
  go_wp2_with fail
  obtain ⟨W4, hW4⟩ : ∃ W, w3.alloc (.cells #[.bool oN, .slice oA ok oc, .slice oB ol od] 40) = W := ⟨_, rfl⟩
  have o0 : W4.cell? ⟨w3.heap.size, 0, none⟩ = some (.bool oN) := by rw [← hW4]; simp [go_sem]
  have o1 : W4.cell? ⟨w3.heap.size, 1, none⟩ = some (.slice oA ok oc) := by rw [← hW4]; simp [go_sem]
  have o2 : W4.cell? ⟨w3.heap.size, 2, none⟩ = some (.slice oB ol od) := by rw [← hW4]; simp [go_sem]
  rw [hW4] at hb4 ⊢
  replace hO := hO.below hb4
  replace hb4 := As.mk (hb3.after hb3.size hb4)
  obtain ⟨ob, hob⟩ : ∃ ob, w3.heap.size = ob := ⟨_, rfl⟩
  rw [hob] at o0 o1 o2 ⊢
  clear hW4 hob hb3
  go_loopw [7] (fun v7 wr => ∃ k : Nat, k ≤ n ∧ v7 = .int .i64 k ∧ As (es.any badE = (es.drop k).any badE) ∧ Below W4.heap.size W4 wr) (fun v7 _ => (n - intOf v7).toNat)
  case atStart => exact ⟨0, by omega, rfl, ⟨by simp⟩, Below.refl _ _⟩
  case round =>
    obtain ⟨k, hk, rfl, hI, hB⟩ := hrel
    by_cases hlt : k < n
    · have bk : ((k : Int) < (n : Int)) = True := eq_true (by omega)
      have bk0 : (0 ≤ (k : Int)) = True := eq_true (by omega)
      have hst := As.mk (hdr.out k hlt)
      have hbe : As (badE (es.getD k rt0) = (decide (qe (es.getD k rt0) < 0) || decide (1 < qe (es.getD k rt0)))) := ⟨rfl⟩
      have hBw := hb4.out.after hb4.out.size hB
      have hd := below_drew wr
      obtain ⟨ad, rfl, N, U, l, c', B, m, d, h0, h1, h2, hX⟩ := (hq.out.below hBw).below hd k hlt
      replace hX : RatI (fun _ => True) wr.drew (.agg #[.bool N, .slice U l c', .slice B m d]) (qe (es.getD k rt0)) 2 := hX
      have p0 := cell_below (cell_below o0 hB) hd
      have p1 := cell_below (cell_below o1 hB) hd
      have p2 := cell_below (cell_below o2 hB) hd
      have hO' := (hO.below hB).below hd
      have hBd := hBw.after hBw.size hd
      generalize qe (es.getD k rt0) = X at *
      go_wp2_with fail
      by_cases hx : X < 0
      · obtain ⟨s, hs⟩ : ∃ s, cmpR X 0 = s := ⟨_, rfl⟩
        have hs0 : (s < 0) = True := eq_true (by rw [← hs, cmpR_neg hx]; omega)
        replace hs := As.mk hs
        first
          | (go_region_with (first
              | (go_at_call 32; refine (rat_Sign _ hX (by omega) (by omega)).mono ?_; rw [hs.out]; rintro e w7 ⟨rfl, hb⟩)))
          | fail
        all_goals
          go_wp2_with fail
          go_ret
          exact ⟨rfl, hBd.after hBd.size hb⟩
      · obtain ⟨s, hs⟩ : ∃ s, cmpR X 0 = s := ⟨_, rfl⟩
        have hs0 : (s < 0) = False := eq_false (by rw [← hs]; exact Int.not_lt.2 (cmpR_nonneg hx))
        replace hs := As.mk hs
        obtain ⟨t, ht⟩ : ∃ t, cmpR X 1 = t := ⟨_, rfl⟩
        by_cases hx1 : 1 < X
        · have ht0 : (0 < t) = True := eq_true (by rw [← ht, cmpR_pos hx1]; omega)
          replace ht := As.mk ht
          go_region_held3 (fun w' => w'.cell? (ad.add (k * 3)) = some (.bool N) ∧ w'.cell? ⟨(ad.add (k * 3)).block, (ad.add (k * 3)).off + 1, none⟩ = some (.slice U l c') ∧ w'.cell? ⟨(ad.add (k * 3)).block, (ad.add (k * 3)).off + 2, none⟩ = some (.slice B m d) ∧ w'.cell? ⟨ob, 0, none⟩ = some (.bool oN) ∧ w'.cell? ⟨ob, 1, none⟩ = some (.slice oA ok oc) ∧ w'.cell? ⟨ob, 2, none⟩ = some (.slice oB ol od))
            ((first
              | with_reducible exact ⟨cell_below (cell_below h0 hb) hb8, cell_below (cell_below h1 hb) hb8, cell_below (cell_below h2 hb) hb8, cell_below (cell_below p0 hb) hb8, cell_below (cell_below p1 hb) hb8, cell_below (cell_below p2 hb) hb8⟩
              | with_reducible exact ⟨cell_below h0 hb, cell_below h1 hb, cell_below h2 hb, cell_below p0 hb, cell_below p1 hb, cell_below p2 hb⟩
              | with_reducible exact ⟨h0, h1, h2, p0, p1, p2⟩))
            (first
              | (go_at_call 32; refine (rat_Sign _ hX (by omega) (by omega)).mono ?_; rw [hs.out]; rintro e w7 ⟨rfl, hb⟩)
              | (go_at_call 33; refine (rat_Cmp _ (hX.below hb) (hO'.below hb) (by omega) (rz_pos _) hsz).mono ?_; rw [ht.out]; rintro e w8 ⟨rfl, hb8⟩))
          all_goals
            go_wp2_with fail
            go_ret
            exact ⟨rfl, (hBd.after hBd.size hb).after (hBd.after hBd.size hb).size hb8⟩
        · have ht0 : (0 < t) = False := eq_false (by rw [← ht]; exact Int.not_lt.2 (cmpR_nonpos hx1))
          replace ht := As.mk ht
          have R : As (es.any badE = (es.drop (k + 1)).any badE) := ⟨by rw [hI.out, hst.out, hbe.out, decide_eq_false hx, decide_eq_false hx1]; rfl⟩
          go_region_held3 (fun w' => w'.cell? (ad.add (k * 3)) = some (.bool N) ∧ w'.cell? ⟨(ad.add (k * 3)).block, (ad.add (k * 3)).off + 1, none⟩ = some (.slice U l c') ∧ w'.cell? ⟨(ad.add (k * 3)).block, (ad.add (k * 3)).off + 2, none⟩ = some (.slice B m d) ∧ w'.cell? ⟨ob, 0, none⟩ = some (.bool oN) ∧ w'.cell? ⟨ob, 1, none⟩ = some (.slice oA ok oc) ∧ w'.cell? ⟨ob, 2, none⟩ = some (.slice oB ol od))
            ((first
              | with_reducible exact ⟨cell_below (cell_below h0 hb) hb8, cell_below (cell_below h1 hb) hb8, cell_below (cell_below h2 hb) hb8, cell_below (cell_below p0 hb) hb8, cell_below (cell_below p1 hb) hb8, cell_below (cell_below p2 hb) hb8⟩
              | with_reducible exact ⟨cell_below h0 hb, cell_below h1 hb, cell_below h2 hb, cell_below p0 hb, cell_below p1 hb, cell_below p2 hb⟩
              | with_reducible exact ⟨h0, h1, h2, p0, p1, p2⟩))
            (first
              | (go_at_call 32; refine (rat_Sign _ hX (by omega) (by omega)).mono ?_; rw [hs.out]; rintro e w7 ⟨rfl, hb⟩)
              | (go_at_call 33; refine (rat_Cmp _ (hX.below hb) (hO'.below hb) (by omega) (rz_pos _) hsz).mono ?_; rw [ht.out]; rintro e w8 ⟨rfl, hb8⟩))
          all_goals
            have hBz := ((hB.after hB.size hd).after (hB.after hB.size hd).size hb).after ((hB.after hB.size hd).after (hB.after hB.size hd).size hb).size hb8
            go_wp2_with fail
            go_roundw
            case rel => exact ⟨k + 1, by omega, by go_num, R, hBz⟩
            case measure => simp [intOf]; omega
    · exfalso
      obtain rfl : n = k := by omega
      have := hany.out
      rw [hI.out, hdn.out] at this
      cases this
end Go.Proofs.Ytdbpjnjgjmfomaa

/- A region that draws its order and ends in one operation that waits for all others: the others in any order under a condition on the world, then that one. -/
namespace Go.Proofs.Ytdbpjnjgjmfomaa

section
variable {P : Program} {Q : Exit → Act → World → Prop} {S : World → Prop}

/-- What is left to be shown behind the others. -/
def TailQ (P : Program) (ops : Array Oper) (Q : Exit → Act → World → Prop) (rest : List Oper) : Exit → Act → World → Prop
  | .normal, a, w => wpList P ops Q rest a w
  | e, a, w => Q e a w
/-- No guards; every operation waits for elder ones only; the last one waits for each of the others. -/
def tailB (ops : Array Oper) (n : Nat) : Bool :=
  decide (ops.size = n + 1) && (List.range (n + 1)).all (fun j => match ops[j]? with
    | some o => o.guard.isNone && o.after.all (fun e => decide (e.on < j))
    | none => false) && (List.range n).all (fun i => Region.waitsFor .any ops n i)
structure TailIs (ops : Array Oper) (n : Nat) : Prop where
  size : ops.size = n + 1
  each : ∀ (j : Nat) o, ops[j]? = some o → o.guard = none ∧ ∀ e ∈ o.after, e.on < j
  last : ∀ i, i < n → Region.waitsFor .any ops n i = true
theorem tailB_is {ops : Array Oper} {n : Nat} (h : tailB ops n = true) : TailIs ops n := by
  unfold tailB at h
  simp only [Bool.and_eq_true, decide_eq_true_eq, List.all_eq_true, List.mem_range] at h
  obtain ⟨⟨h1, h2⟩, h3⟩ := h
  refine ⟨h1, fun j o ho => ?_, h3⟩
  have hj : j < n + 1 := by rw [← h1]; exact (Array.getElem?_eq_some_iff.1 ho).1
  have := h2 j hj
  rw [ho] at this
  simp only [Bool.and_eq_true] at this
  refine ⟨by simpa using this.1, fun e he => ?_⟩
  have := Array.all_eq_true'.1 this.2 e he
  simpa using this
/-- The two lists of what has come up. -/
structure Two (n : Nat) (A B : Array Bool) : Prop where
  sa : A.size = n + 1
  sb : B.size = n
  eq : ∀ k, A.getD k false = B.getD k false
theorem Two.lt {n : Nat} {A B : Array Bool} (h : Two n A B) (k : Nat) (hk : k < n) : A.getD k true = B.getD k true := by
  have := h.eq k
  have h1 : k < A.size := by rw [h.sa]; omega
  have h2 : k < B.size := by rw [h.sb]; omega
  simpa [h1, h2] using this
theorem Two.set {n : Nat} {A B : Array Bool} (h : Two n A B) (i : Nat) (hi : i < n) : Two n (A.setIfInBounds i true) (B.setIfInBounds i true) := by
  refine ⟨by simp [h.sa], by simp [h.sb], fun k => ?_⟩
  by_cases e : i = k
  · subst e
    have h1 : i < A.size := by rw [h.sa]; omega
    have h2 : i < B.size := by rw [h.sb]; omega
    simp [h1, h2]
  · rw [getD_set_ne false e, getD_set_ne false e]; exact h.eq k
theorem take_get {l : List Oper} {n k : Nat} (hk : k < n) : (l.take n).toArray[k]? = l.toArray[k]? := by
  simp [hk]
theorem ready_lt {l : List Oper} {n : Nat} {A B : Array Bool} (hn : l.toArray.size = n + 1) (h : Two n A B) (k : Nat) (hk : k < n) : k ∈ Region.ready .any l.toArray A ↔ k ∈ Region.ready .any (l.take n).toArray B := by
  rw [mem_ready, mem_ready, h.lt k hk, take_get hk]
  constructor
  · rintro ⟨h1, o, ho, hall⟩
    exact ⟨h1, o, ho, fun e he hb => by rw [← h.eq]; exact hall e he hb⟩
  · rintro ⟨h1, o, ho, hall⟩
    exact ⟨h1, o, ho, fun e he hb => by rw [h.eq]; exact hall e he hb⟩
theorem ready_in {ops : Array Oper} {A : Array Bool} {k : Nat} (h : k ∈ Region.ready .any ops A) : k < ops.size := by
  obtain ⟨_, o, ho, _⟩ := mem_ready.1 h
  exact (Array.getElem?_eq_some_iff.1 ho).1
/-- Nothing is ready any more: everything has come up. -/
theorem all_up {l : List Oper} {n : Nat} {B : Array Bool} (hT : TailIs l.toArray n) (hB : B.size = n) (hr : Region.ready .any (l.take n).toArray B = []) : ∀ k, k < n → B.getD k false = true := by
  intro k
  induction k using Nat.strongRecOn with
  | ind k ih =>
    intro hk
    cases hb : B.getD k false with
    | true => rfl
    | false =>
      exfalso
      have hlt : k < l.toArray.size := by rw [hT.size]; omega
      have hmem : k ∈ Region.ready .any (l.take n).toArray B := by
        rw [mem_ready]
        have h2 : k < B.size := by rw [hB]; exact hk
        refine ⟨by simpa [h2] using hb, l.toArray[k], by rw [take_get hk]; simp [hlt], fun e he _ => ?_⟩
        have := (hT.each k _ (by simp [hlt])).2 e he
        exact ih e.on this (by omega)
      rw [hr] at hmem
      cases hmem
theorem wp_weak {o : Oper} {ops : Array Oper} {rest : List Oper} {a : Act} {w : World} {K : Act → World → Prop} (h : o.wp P a w K (TailQ P ops Q rest)) : o.wp P a w K Q := by
  unfold Oper.wp at *
  generalize (execOp a.eval o).run P w = r at *
  cases r with
  | ok n w' =>
    cases n <;> simp only [Oper.upon] at h ⊢ <;>
      first
        | exact h
        | exact Calls.mono h (fun e w'' he => by cases e <;> exact he)
  | halt x w' => cases x <;> simp only [Oper.upon] at h ⊢ <;> exact h
theorem wpAnyH_tail {l : List Oper} {n : Nat} (hT : TailIs l.toArray n) : ∀ (f : Nat) (A B : Array Bool) (a : Act) (w : World), Two n A B →
    wpAnyH P .any (l.take n).toArray (TailQ P l.toArray Q (l.drop n)) S f B a w → wpAny P .any l.toArray Q (f + 1) A a w := by
  have hdrop : ∃ o, l.drop n = [o] ∧ l.toArray[n]? = some o := by
    have hs : l.length = n + 1 := by simpa using hT.size
    have : l.drop n = [l[n]] := by
      rw [List.drop_eq_getElem_cons (by omega), List.drop_of_length_le (by omega)]
    exact ⟨l[n], this, by simp [hs]⟩
  obtain ⟨o, hd, ho⟩ := hdrop
  have hog := hT.each n o ho
  have last : ∀ (f : Nat) (A B : Array Bool) (a : Act) (w : World), Two n A B → Region.ready .any (l.take n).toArray B = [] → wpList P l.toArray Q [o] a w → wpAny P .any l.toArray Q (f + 1) A a w := by
    intro f A B a w h2 hr hw
    have hup := all_up hT h2.sb hr
    have hAn : A.getD n false = false := by
      rw [h2.eq]
      simp [h2.sb]
    have hset : Region.ready .any l.toArray (A.setIfInBounds n true) = [] := by
      rw [List.eq_nil_iff_forall_not_mem]
      intro k hk
      have hkl : k < n + 1 := by rw [← hT.size]; exact ready_in hk
      have h1 := (mem_ready.1 hk).1
      have h3 : (A.setIfInBounds n true).getD k false = true := by
        by_cases e : n = k
        · subst e
          have : n < A.size := by rw [h2.sa]; omega
          simp [this]
        · rw [getD_set_ne false e, h2.eq]; exact hup k (by omega)
      have h4 := getD_both h1
      rw [h3] at h4
      cases h4
    refine ⟨fun h0 => ?_, fun k hk => ?_⟩
    · exfalso
      have : n ∈ Region.ready .any l.toArray A := by
        rw [mem_ready]
        refine ⟨getD_in (by rw [h2.sa]; omega) hAn, o, ho, fun e he _ => ?_⟩
        rw [h2.eq]
        exact hup _ (hog.2 e he)
      rw [h0] at this
      cases this
    · have hkl : k < n + 1 := by rw [← hT.size]; exact ready_in hk
      have hkn : k = n := by
        by_cases e : k < n
        · have h1 := (mem_ready.1 hk).1
          have h3 := getD_both h1
          rw [h2.eq, hup k e] at h3
          cases h3
        · omega
      subst hkn
      unfold wpOp
      simp only [ho]
      have hwant : Region.wanted o (yielded l.toArray a.tmps) = true := by simp [Region.wanted, hog.1]
      unfold wpList at hw
      simp only [hwant, if_true] at hw ⊢
      refine hw.imp (fun h => Oper.wp_mono (fun a' w' h' => ?_) h) id
      cases f with
      | zero => exact ⟨hset, h'⟩
      | succ f => exact ⟨fun _ => h', by rw [hset]; simp⟩
  intro f
  induction f with
  | zero =>
    intro A B a w h2 h
    refine last 0 A B a w h2 h.1 ?_
    have := h.2
    rw [hd] at this
    exact this
  | succ f ih =>
    intro A B a w h2 h
    by_cases hr : Region.ready .any (l.take n).toArray B = []
    · refine last (f + 1) A B a w h2 hr ?_
      have := h.1 hr
      rw [hd] at this
      exact this
    · refine ⟨fun h0 => ?_, fun k hk => ?_⟩
      · exfalso
        obtain ⟨k, hk⟩ := List.exists_mem_of_ne_nil _ hr
        have hkn : k < n := by have := ready_in hk; simp at this; omega
        have := (ready_lt hT.size h2 k hkn).2 hk
        rw [h0] at this
        cases this
      · have hkl : k < n + 1 := by rw [← hT.size]; exact ready_in hk
        have hkn : k < n := by
          by_cases e : k < n
          · exact e
          · exfalso
            obtain rfl : k = n := by omega
            obtain ⟨i, hi⟩ := List.exists_mem_of_ne_nil _ hr
            have hin : i < k := by have := ready_in hi; simp at this; omega
            have h1 := (mem_ready.1 hi).1
            obtain ⟨oj, hoj, e, he, hb, hon⟩ := Region.waitsFor_spec (hT.last i hin)
            obtain ⟨_, ok, hok, hall⟩ := mem_ready.1 hk
            have : oj = ok := Option.some.inj (hoj.symm.trans hok)
            subst this
            have h3 := hall e he hb
            rw [hon, h2.eq, getD_both h1] at h3
            cases h3
        have hk' := (ready_lt hT.size h2 k hkn).1 hk
        have hw := h.2 k hk'
        obtain ⟨ok, hok⟩ : ∃ ok, l.toArray[k]? = some ok := by
          obtain ⟨_, ok, hok, _⟩ := mem_ready.1 hk
          exact ⟨ok, hok⟩
        have hgk := (hT.each k ok hok).1
        unfold wpOp at hw ⊢
        rw [take_get hkn] at hw
        simp only [hok] at hw ⊢
        have hwant : ∀ y, Region.wanted ok y = true := fun y => by simp [Region.wanted, hgk]
        simp only [hwant, if_true] at hw ⊢
        rcases hw with hw | ⟨h1, h3⟩
        · exact .inl (Oper.wp_mono (fun a' w' h' => ih _ _ a' w' (h2.set k hkn) h'.2) (wp_weak hw))
        · exact .inr ⟨h1, h3⟩
/-- THE BEGINNING. -/
theorem region_tail {id : Nat} {a : Act} {w : World} {l : List Oper} (n : Nat) (hm : P.follows .mixedOrders = true) (hB : tailB l.toArray n = true) (hS : S w.drew)
    (h : S w.drew → wpAnyH P .any (l.take n).toArray (TailQ P l.toArray Q (l.drop n)) S n (Array.replicate n false) a w.drew) : (Code.region id l.toArray true).wp P Q a w := by
  have hT := tailB_is hB
  refine wp_region_any hm ?_
  rw [hT.size]
  refine wpAnyH_tail hT n _ _ a _ ⟨by simp, by simp, fun k => ?_⟩ (h hS)
  rw [getD_replicate_false, getD_replicate_false]
end
end Go.Proofs.Ytdbpjnjgjmfomaa
