/- classical.alpha where the table is in order. -/
import Derived.Test.YtdbpjnjgjmfomaaMix
namespace Go.Proofs.Ytdbpjnjgjmfomaa
open Go.RowKit

/-- A box of a ratio: block b holds this ratio's cells, writable. -/
def BoxR (w : World) (b : Nat) (x y z : Value) : Prop := w.cell? ⟨b, 0, none⟩ = some x ∧ w.cell? ⟨b, 1, none⟩ = some y ∧ w.cell? ⟨b, 2, none⟩ = some z ∧ Res w b 3
theorem BoxR.step {w w1 : World} {b : Nat} {x y z : Value} (h : BoxR w b x y z) (hz : w.heap.size ≤ w1.heap.size) (hb : w1.heap[b]? = w.heap[b]?) : BoxR w1 b x y z := by
  obtain ⟨h0, h1, h2, hl, hR⟩ := h
  have hc : ∀ i, w1.cell? ⟨b, i, none⟩ = w.cell? ⟨b, i, none⟩ := fun i => World.cell?_of_block hb
  have hf : ∀ i, w1.frozen? ⟨b, i, none⟩ = w.frozen? ⟨b, i, none⟩ := fun i => by unfold World.frozen?; rw [show (⟨b, i, none⟩ : Addr).block = b from rfl, hb]
  exact ⟨(hc 0).trans h0, (hc 1).trans h1, (hc 2).trans h2, Nat.lt_of_lt_of_le hl hz, fun i hi => by rw [hc, hf]; exact hR i hi⟩
theorem BoxR.below {w w1 : World} {b : Nat} {x y z : Value} (h : BoxR w b x y z) (hb : Below w.heap.size w w1) : BoxR w1 b x y z := h.step hb.size (hb.block b h.2.2.2.1)
/-- A ratio value's letters. -/
theorem RatV.letters {S : Nat → Prop} {w : World} {v : Value} {q : Rat} (h : RatV S w v q) : ∃ N A n c B k d, v = .agg #[.bool N, .slice A n c, .slice B k d] := by
  obtain ⟨A, c, B, d, e⟩ := h.slice
  exact ⟨_, A, _, c, B, _, d, e⟩
theorem one_frac1 : ((1 : Int) : Rat) / ((1 : Int) : Rat) = 1 := by grind
theorem RatV.setc {S : Nat → Prop} {w : World} {v : Value} {q : Rat} {p : Addr} {x : Value} (hp : ¬ S p.block) (h : RatV S w v q) : RatV S (w.setCell p x) v q := by
  obtain ⟨u, d, e, hu, hd⟩ := h
  exact ⟨u, d, e, hu.stored hp _, hd.stored hp _⟩

set_option maxHeartbeats 8000000 in
set_option maxRecDepth 100000 in
theorem cls_alpha_ok {S : Nat → Prop} {v : Value} {rows : List (List Int)} {k : Nat} (w : World) (hv : RowsV S w v rows) (hE : tableE rows = 0) (hk : (rows.getD 0 []).length = k) :
    Calls Try.prog 48 #[v] w fun e w' => ∃ r s, e = .returned (.tuple #[r, s, .int .i64 (if allR rows k = 0 then 20 else 0)]) ∧ RatV (New w) w' r (allR rows k) ∧ RatV (New w) w' s (if allR rows k = 0 then 0 else ((k : Int) : Rat) / (((k : Int) - 1 : Int) : Rat) * (1 - partR rows k / allR rows k)) ∧ Below w.heap.size w w' := by
  have hIO := table_zero hE
  rw [hk] at hIO
  obtain ⟨A, c, rfl⟩ := hv.slice
  have hn1 := hIO.few
  have hn0 := hIO.some
  have hk2 := hIO.two
  have hk60 := hIO.sixty
  obtain ⟨n, hn⟩ : ∃ n, rows.length = n := ⟨_, rfl⟩
  have hm : rows.length ≤ 140737488351232 := by omega
  have hrl : ∀ i, (rows.getD i []).length ≤ 140737488351232 := fun i => by
    rcases Nat.lt_or_ge i rows.length with h | h
    · have := hIO.len i h; omega
    · rw [List.getD_eq_getElem?_getD, List.getElem?_eq_none h]; simp
  have HT : As (∀ W, Below w.heap.size w W → Calls Try.prog 83 #[.slice A rows.length c] W fun e w' => e = .returned (.int .i64 0) ∧ Drawn W w') := ⟨fun W hb => by
    rw [← hE]
    exact cls_table W (hv.below hb) hm hrl⟩
  have HR : As (∃ ad, A = some ad ∧ ∀ W, Below w.heap.size w W → ∀ p, p < n → ∃ B d, W.cell? (ad.add p) = some (.slice B k d) ∧ IntsV (fun b => S b ∧ b < w.heap.size) W (.slice B k d) (rows.getD p [])) := ⟨by
    obtain ⟨ad, hA, _⟩ := hv.row (by omega)
    refine ⟨ad, hA, fun W hb p hp => ?_⟩
    obtain ⟨ad', hA', h⟩ := ((hv.mono (T := fun b => S b ∧ b < w.heap.size) (fun b h1 h2 => ⟨h1, h2⟩)).below hb).row (by omega)
    obtain rfl : ad = ad' := by rw [hA] at hA'; injection hA'
    obtain ⟨B, d, h1, h2⟩ := h p (by omega)
    rw [hIO.len p (by omega)] at h1 h2
    exact ⟨B, d, h1, h2⟩⟩
  rw [hn] at hn0 hn1 HT ⊢
  obtain ⟨ad, hA, HR1⟩ := HR.out
  subst hA
  replace HR1 := As.mk HR1
  clear hv hm hrl hE hk HR
  replace hn := As.mk hn
  replace hIO := As.mk hIO
  go_enter Try.func48, Try.ntmps48
  go_wp2_with fail
  obtain ⟨W, hW⟩ : ∃ W, ((w.alloc (Obj.cells #[Value.bool false, Value.slice none 0 0, Value.slice none 0 0] 40)).alloc (Obj.cells #[Value.bool false, Value.slice none 0 0, Value.slice none 0 0] 40)) = W := ⟨_, rfl⟩
  have hs : W.heap.size = w.heap.size + 2 := by rw [← hW]; simp
  have hB : Below w.heap.size w W := by rw [← hW]; exact (((Below.refl _ _).alloc (by simp <;> omega) _).alloc (by simp <;> omega) _)
  have hR0 : Res W (w.heap.size) 3 := ⟨by omega, fun i hi => by
    subst hW
    rcases (by omega : i = 0 ∨ i = 1 ∨ i = 2) with rfl | rfl | rfl
    · exact ⟨⟨.bool false, by simp [go_sem]⟩, by simp [go_sem]⟩
    · exact ⟨⟨.slice none 0 0, by simp [go_sem]⟩, by simp [go_sem]⟩
    · exact ⟨⟨.slice none 0 0, by simp [go_sem]⟩, by simp [go_sem]⟩⟩
  have hR1 : Res W (w.heap.size + 1) 3 := ⟨by omega, fun i hi => by
    subst hW
    rcases (by omega : i = 0 ∨ i = 1 ∨ i = 2) with rfl | rfl | rfl
    · exact ⟨⟨.bool false, by simp [go_sem]⟩, by simp [go_sem]⟩
    · exact ⟨⟨.slice none 0 0, by simp [go_sem]⟩, by simp [go_sem]⟩
    · exact ⟨⟨.slice none 0 0, by simp [go_sem]⟩, by simp [go_sem]⟩⟩
  rw [hW]
  clear hW
  have hS : Below w.heap.size w W ∧ Res W w.heap.size 3 ∧ Res W (w.heap.size + 1) 3 := ⟨hB, hR0, hR1⟩
  clear hR0 hR1
  refine (HT.out _ hB).mono ?_
  rintro e w1 ⟨rfl, ⟨m1, rfl⟩⟩
  replace hS := (keep_B (keep_R (Res.below))) hS ((Below.refl _ _).drewsN m1)
  have hlW : w.heap.size + 2 ≤ W.heap.size := by omega
  clear hB HT
  generalize hW1 : W.drewN m1 = W1 at *
  have hlW1 : w.heap.size + 2 ≤ W1.heap.size := by rw [← hW1]; exact hlW
  clear hW1 hs hlW
  obtain ⟨B0, d0, hc0, _⟩ := HR1.out _ hS.1 0 hn0
  rw [addr_zero] at hc0
  have b0 : (0 < (n : Int)) = True := eq_true (by omega)
  have hmk : ∀ W, (Instr.makeSlice 28 (.int .i64 (n : Int)) (.int .i64 (n : Int))).run Try.prog W = .ok (.slice (some ⟨W.heap.size, 0, none⟩) n n) (W.alloc (.cells (madeCells #[.int .i64 0] n) 3)) :=
    fun W => make_ints 28 Try.underlying28 (by kernel_rfl) n n (by omega) (by omega) W
  go_wp2_with fail
  have hO := OwnI.made W1 0 n (Nat.zero_le _) (by omega)
  replace hS := (keep_B (keep_R (Res.below))) hS ((Below.refl _ _).alloc (Nat.le_refl _) (.cells (madeCells #[.int .i64 0] n) 3))
  have hg7 : (W1.alloc (.cells (madeCells #[.int .i64 0] n) 3)).heap.size = W1.heap.size + 1 := by simp
  generalize W1.alloc (.cells (madeCells #[.int .i64 0] n) 3) = W2 at *
  generalize W1.heap.size = g7 at *
  refine (cls_zero _).mono ?_
  rintro e w3 ⟨r1, rfl, hr1, hb3⟩
  replace hS := (keep_B (keep_R (Res.below))) hS hb3
  replace hO := hO.below hb3
  have hz3 := hb3.size
  obtain ⟨A1, c1, B1, d1, rfl⟩ := hr1.slice
  replace hr1 := hr1.mono (T := fun b => w.heap.size + 2 ≤ b ∧ b ≠ g7 ∧ b ≠ w3.heap.size) (fun b h1 h2 => by have : W2.heap.size ≤ b := h1; omega)
  clear hb3 hc0
  obtain ⟨s0, hs0⟩ : ∃ s, decide ((partR rows 0).num < 0) = s := ⟨_, rfl⟩
  obtain ⟨s1, hs1⟩ : ∃ s, sz (partR rows 0).num = s := ⟨_, rfl⟩
  obtain ⟨s2, hs2⟩ : ∃ s, (dig (partR rows 0).den).length = s := ⟨_, rfl⟩
  rw [show (0 : Rat) = partR rows 0 from rfl, hs0, hs1, hs2] at hr1
  rw [show (0 : Rat) = partR rows 0 from rfl, hs0, hs1, hs2]
  replace hs0 := As.mk hs0
  replace hs1 := As.mk hs1
  replace hs2 := As.mk hs2
  go_wp2_with fail
  have hb34 := (Below.refl w3.heap.size w3).alloc (Nat.le_refl _) (Obj.cells #[.bool s0, .slice A1 s1 c1, .slice B1 s2 d1] 40)
  obtain ⟨W4, hW4⟩ : ∃ W4, w3.alloc (Obj.cells #[.bool s0, .slice A1 s1 c1, .slice B1 s2 d1] 40) = W4 := ⟨_, rfl⟩
  rw [hW4] at hb34 ⊢
  replace hS := (keep_B (keep_R (Res.below))) hS hb34
  replace hO := hO.below hb34
  replace hr1 := hr1.below hb34
  have hz4 : w3.heap.size < W4.heap.size := by rw [← hW4]; simp
  have hbox : BoxR W4 w3.heap.size (.bool s0) (.slice A1 s1 c1) (.slice B1 s2 d1) := by
    refine ⟨by subst hW4; simp [go_sem], by subst hW4; simp [go_sem], by subst hW4; simp [go_sem], hz4, fun i hi => ?_⟩
    subst hW4
    rcases (by omega : i = 0 ∨ i = 1 ∨ i = 2) with rfl | rfl | rfl
    · exact ⟨⟨.bool s0, by simp [go_sem]⟩, by simp [go_sem]⟩
    · exact ⟨⟨.slice A1 s1 c1, by simp [go_sem]⟩, by simp [go_sem]⟩
    · exact ⟨⟨.slice B1 s2 d1, by simp [go_sem]⟩, by simp [go_sem]⟩
  clear hW4 hb34
  have hgb : g7 < w3.heap.size := by omega
  generalize w3.heap.size = b8 at *
  go_loopw [9, 10, 11, 12, 32] (fun _ _ _ _ v32 wr => ∃ i : Nat, i ≤ k ∧ v32 = .int .i64 i ∧ b8 < wr.heap.size ∧ (Below w.heap.size w wr ∧ Res wr w.heap.size 3 ∧ Res wr (w.heap.size + 1) 3) ∧ OwnI wr 0 (.slice (some ⟨g7, 0, none⟩) n n) (totp rows i) ∧ ∃ A1 c1 B1 d1, BoxR wr b8 (.bool (decide ((partR rows i).num < 0))) (.slice A1 (sz (partR rows i).num) c1) (.slice B1 (dig (partR rows i).den).length d1) ∧ RatV (fun b => w.heap.size + 2 ≤ b ∧ b ≠ g7 ∧ b ≠ b8) wr (.agg #[.bool (decide ((partR rows i).num < 0)), .slice A1 (sz (partR rows i).num) c1, .slice B1 (dig (partR rows i).den).length d1]) (partR rows i)) (fun _ _ _ _ v32 _ => (k - intOf v32).toNat)
  case atStart => exact ⟨0, by omega, rfl, hz4, hS, by rw [show totp rows 0 = List.replicate n 0 by rw [← hn.out]; unfold totp; exact List.map_const' ..]; exact hO, A1, c1, B1, d1, by rw [hs0.out, hs1.out, hs2.out]; exact hbox, by rw [hs0.out, hs1.out, hs2.out]; exact hr1⟩
  case round =>
    clear hS hO hr1 hbox hz4 hs0 hs1 hs2
    obtain ⟨i, hi, rfl, hz4, hS, hO, A1, c1, B1, d1, hbox, hr1⟩ := hrel
    by_cases hlt : i < k
    · have b1 : ((i : Int) < (k : Int)) = True := eq_true (by omega)
      generalize hq : partR rows i = q at *
      replace hq := As.mk hq
      have hC0 := OwnI.made wr 0 n (Nat.zero_le _) (by omega)
      have hb45 := (Below.refl wr.heap.size wr).alloc (Nat.le_refl _) (.cells (madeCells #[.int .i64 0] n) 3)
      go_wp2_with fail
      have hz5 : (wr.alloc (.cells (madeCells #[.int .i64 0] n) 3)).heap.size = wr.heap.size + 1 := by simp
      generalize wr.alloc (.cells (madeCells #[.int .i64 0] n) 3) = W5 at *
      replace hS := (keep_B (keep_R (Res.below))) hS hb45
      replace hO := hO.below hb45
      replace hbox := hbox.below hb45
      replace hr1 := (hr1.mono (T := fun b => w.heap.size + 2 ≤ b ∧ b ≠ g7 ∧ b ≠ b8 ∧ b ≠ wr.heap.size) (fun b h1 h2 => ⟨h1.1, h1.2.1, h1.2.2, by omega⟩)).below hb45
      clear hb45
      generalize wr.heap.size = g10 at *
      have hmixT : As (totp rows i = mix (totp rows (i + 1)) (totp rows i) 0) := ⟨(mix_zero _ _).symm⟩
      go_loopw [11, 12, 40] (fun _ _ v40 wq => ∃ p : Nat, p ≤ n ∧ v40 = .int .i64 p ∧ g10 < wq.heap.size ∧ (Below w.heap.size w wq ∧ Res wq w.heap.size 3 ∧ Res wq (w.heap.size + 1) 3) ∧ OwnI wq 0 (.slice (some ⟨g7, 0, none⟩) n n) (mix (totp rows (i + 1)) (totp rows i) p) ∧ OwnI wq 0 (.slice (some ⟨g10, 0, none⟩) n n) (mix (col rows i) (List.replicate n 0) p) ∧ BoxR wq b8 (.bool (decide (q.num < 0))) (.slice A1 (sz q.num) c1) (.slice B1 (dig q.den).length d1) ∧ RatV (fun b => w.heap.size + 2 ≤ b ∧ b ≠ g7 ∧ b ≠ b8 ∧ b ≠ g10) wq (.agg #[.bool (decide (q.num < 0)), .slice A1 (sz q.num) c1, .slice B1 (dig q.den).length d1]) q) (fun _ _ v40 _ => (n - intOf v40).toNat)
      case atStart => exact ⟨0, by omega, rfl, by omega, hS, by rw [mix_zero]; exact hO, by rw [mix_zero]; exact hC0, hbox, hr1⟩
      case round =>
        clear hS hO hr1 hbox hC0 hz5
        obtain ⟨p, hp, rfl, hz5, hS, hO, hC, hbox, hr1⟩ := hrel
        by_cases hlp : p < n
        · obtain ⟨B, d, hrc, hri⟩ := HR1.out _ hS.1 p hlp
          have hrl : As ((rows.getD p []).length = k) := ⟨hIO.out.len p (by rw [hn.out]; exact hlp)⟩
          have hri2 := hri
          obtain ⟨bd, hB, hbc⟩ := hri.cells (by rw [hrl.out]; omega)
          subst hB
          have hx := hbc i (by rw [hrl.out]; exact hlt)
          have hlen1 : (totp rows (i + 1)).length = (totp rows i).length := by rw [totp_length, totp_length]
          have hlen2 : (col rows i).length = (List.replicate n (0 : Int)).length := by rw [col_length, List.length_replicate, hn.out]
          have hlt1 : p < (totp rows i).length := by rw [totp_length, hn.out]; exact hlp
          have hlt2 : p < (List.replicate n (0 : Int)).length := by rw [List.length_replicate]; exact hlp
          obtain ⟨hcc, hcf⟩ := hC.cell p (by rw [mix_length hlen2]; exact hlt2)
          obtain ⟨hoc, hof⟩ := hO.cell p (by rw [mix_length hlen1]; exact hlt1)
          have hO1 := As.mk (mix_set hlen1 p hlt1)
          have hC1 := As.mk (mix_set hlen2 p hlt2)
          have hog : As ((mix (totp rows (i + 1)) (totp rows i) p).getD p 0 = (totp rows i).getD p 0) := ⟨mix_get hlen1 p hlt1⟩
          have htg : As ((totp rows (i + 1)).getD p 0 = (totp rows i).getD p 0 + (rows.getD p []).getD i 0) := ⟨by rw [totp_succ, col_get]⟩
          have hcg : As ((col rows i).getD p 0 = (rows.getD p []).getD i 0) := ⟨col_get ..⟩
          have hsx := hIO.out.score p i
          have hst := sm_small (fun j => hIO.out.score p j) i
          rw [← totp_get] at hst
          rw [hog.out] at hoc
          generalize (rows.getD p []).getD i 0 = X at *
          generalize (totp rows i).getD p 0 = Y at *
          have bp : ((p : Int) < (n : Int)) = True := eq_true (by omega)
          have bp0 : (0 ≤ (p : Int)) = True := eq_true (by omega)
          have hblk : bd.block < w.heap.size := by
            obtain ⟨A', c', e, _, hr⟩ := hri2
            injection e with e1
            obtain ⟨ad', e', hs, _⟩ := hr (fun e => by rw [← List.length_eq_zero_iff, i64s_length, hrl.out] at e; omega)
            rw [← e1] at e'; injection e' with e'; rw [e']; exact hs.2
          clear hri hri2 hbc hlen1 hlen2 hlt1 hlt2
          go_wp2_with fail
          have hgg : g10 ≠ g7 := by omega
          have hO6 : OwnI (wr.setCell ⟨g10, p, none⟩ (.int .i64 X)) 0 (.slice (some ⟨g7, 0, none⟩) n n) (mix (totp rows (i + 1)) (totp rows i) p) := hO.kept (fun b hb => Below.heap_setCell wr _ _ b (by simp [Value.ownBlock] at hb; simp; omega))
          have hC6 := OwnI.store hC p X
          have hx6 : (wr.setCell ⟨g10, p, none⟩ (.int .i64 X)).cell? (bd.add i) = some (.int .i64 X) := set_cell hx (by rw [add_block]; simp; have := hS.1.size; omega)
          have hoc6 : (wr.setCell ⟨g10, p, none⟩ (.int .i64 X)).cell? ⟨g7, p, none⟩ = some (.int .i64 Y) := set_cell hoc (by simp; omega)
          have hof6 : (wr.setCell ⟨g10, p, none⟩ (.int .i64 X)).frozen? ⟨g7, p, none⟩ = false := (World.frozen?_setCell _ _ _ _).trans hof
          have hS6 : Below w.heap.size w (wr.setCell ⟨g10, p, none⟩ (.int .i64 X)) ∧ Res (wr.setCell ⟨g10, p, none⟩ (.int .i64 X)) w.heap.size 3 ∧ Res (wr.setCell ⟨g10, p, none⟩ (.int .i64 X)) (w.heap.size + 1) 3 := ⟨hS.1.setCell (by simp; omega) _, hS.2.1.set _ _, hS.2.2.set _ _⟩
          have hbox6 : BoxR (wr.setCell ⟨g10, p, none⟩ (.int .i64 X)) b8 (.bool (decide (q.num < 0))) (.slice A1 (sz q.num) c1) (.slice B1 (dig q.den).length d1) := hbox.step (by simp [World.setCell]) (Below.heap_setCell wr _ _ b8 (by simp; omega))
          have hr6 := hr1.step (w1 := wr.setCell ⟨g10, p, none⟩ (.int .i64 X)) (fun b hb _ => Below.heap_setCell wr _ _ b (by simp; exact hb.2.2.2))
          have hz6 : g10 < (wr.setCell ⟨g10, p, none⟩ (.int .i64 X)).heap.size := by simpa [World.setCell] using hz5
          generalize wr.setCell ⟨g10, p, none⟩ (.int .i64 X) = W6 at *
          clear hS hO hC hx hoc hof hbox hr1 hz5 hcc hcf hrc
          obtain ⟨Z, hZ⟩ : ∃ Z, Y + X = Z := ⟨_, rfl⟩
          have hw1 : IntKind.i64.wrap (Y + X) = Z := by rw [← hZ]; exact IntWalk.i64_in _ (by omega)
          rw [hZ] at htg
          replace hZ := As.mk hZ
          have bi : ((i : Int) < (k : Int)) = True := eq_true (by omega)
          have bi0 : (0 ≤ (i : Int)) = True := eq_true (by omega)
          have hd6 := (Below.refl W6.heap.size W6).drewsN 1
          have hO7 := hO6.below hd6
          have hC7 := OwnI.below hC6 hd6
          have hS7 := (keep_B (keep_R (Res.below))) hS6 hd6
          have hbox7 := hbox6.below hd6
          have hr7 := hr6.below hd6
          clear hO6 hC6 hS6 hbox6 hr6 hd6
          go_still_tail 10, (by kernel_rfl)
          repeat still_step
          try refine wpStill_nil ?_
          change wpList _ _ _ _ _ (W6.drewN 1)
          go_wp2_with fail
          go_roundw
          case rel => exact ⟨p + 1, by omega, by go_num, by simpa [World.setCell] using hz6, ⟨hS7.1.setCell (by simp; omega) _, hS7.2.1.set _ _, hS7.2.2.set _ _⟩, by rw [← hO1.out, htg.out]; exact OwnI.store hO7 p Z, by rw [← hC1.out, hcg.out]; exact hC7.kept (fun b hb => Below.heap_setCell _ _ _ b (by simp [Value.ownBlock] at hb; simp; omega)), hbox7.step (by simp [World.setCell]) (Below.heap_setCell _ _ _ b8 (by simp; omega)), hr7.step (fun b hb _ => Below.heap_setCell _ _ _ b (by simp; exact hb.2.1))⟩
          case measure => simp [intOf]; omega
        · obtain rfl : p = n := by omega
          have hlen1 : (totp rows (i + 1)).length = (totp rows i).length := by rw [totp_length, totp_length]
          have hlen2 : (col rows i).length = (List.replicate p (0 : Int)).length := by rw [col_length, List.length_replicate, hn.out]
          rw [show mix (totp rows (i + 1)) (totp rows i) p = totp rows (i + 1) by rw [show p = (totp rows i).length by rw [totp_length, hn.out]]; exact mix_full hlen1] at hO
          rw [show mix (col rows i) (List.replicate p 0) p = col rows i by have := mix_full hlen2; rwa [List.length_replicate] at this] at hC
          have hCv := hC.ints
          have hcol := col_length rows i
          rw [hn.out] at hcol
          have hmod := As.mk (hIO.out.colmod i)
          have hrz := rz_part hIO.out i
          rw [hq.out] at hrz
          have hrzc := rz_covR (col rows i) (col rows i) hmod.out hmod.out (by rw [hcol]; exact hn1)
          clear hlen1 hlen2
          go_wp2_with fail
          have hd6 := (Below.refl wr.heap.size wr).drew
          replace hCv := (hCv.mono (T := fun _ => True) (fun _ _ _ => trivial)).below hd6
          replace hO := hO.below hd6
          replace hS := (keep_B (keep_R (Res.below))) hS hd6
          replace hbox := hbox.below hd6
          replace hr1 := hr1.below hd6
          have hz6 : g10 < wr.drew.heap.size := hz5
          obtain ⟨e0, e1, e2, eR⟩ := id hbox
          clear hC hd6
          go_region_with (first
            | (go_at_call 52; refine (cls_cov _ hCv hCv hmod.out hmod.out (by omega) rfl).mono ?_; rintro e w5 ⟨r5, rfl, hM, hb⟩; obtain ⟨E0, E1, E2, ER⟩ := hbox.below hb)
            | (go_at_call 24; refine (rat_Add _ (hr1.below hb).i hM.i (rz_pos _) (rz_pos _) (by omega)).mono ?_; rintro e w6 ⟨r6, rfl, hL, hb6⟩; obtain ⟨A7, c7, B7, d7, rfl⟩ := hL.slice; obtain ⟨G0, G1, G2, GR⟩ := (hbox.below hb).below hb6; obtain ⟨⟨_, _⟩, ⟨_, _⟩, ⟨_, _⟩, F0, F1, F2⟩ := GR.cells3))
          all_goals
            have hq1 : As (q + covR (col rows i) (col rows i) = partR rows (i + 1)) := ⟨by rw [← hq.out]; rfl⟩
            have hS8 := (keep_B (keep_R (Res.below))) ((keep_B (keep_R (Res.below))) hS hb) hb6
            have hO8 := (hO.below hb).below hb6
            have hz8 : g10 < w6.heap.size := Nat.lt_of_lt_of_le hz6 (Nat.le_trans hb.size hb6.size)
            have hsz5 : g10 < w5.heap.size := Nat.lt_of_lt_of_le hz6 hb.size
            have hL8 := hL.mono (T := fun b => w.heap.size + 2 ≤ b ∧ b ≠ g7 ∧ b ≠ b8) (fun b h1 _ => by have : w5.heap.size ≤ b := h1; omega)
            clear hS hO hb hb6 hL hr1 hM hbox hCv
            go_wp2_with fail
            go_roundw
            case measure => simp [intOf]; omega
            case rel =>
              refine ⟨i + 1, by omega, by go_num, by simp [World.setCell]; omega, ⟨((hS8.1.setCell (by simp; omega) _).setCell (by simp; omega) _).setCell (by simp; omega) _, ((hS8.2.1.set _ _).set _ _).set _ _, ((hS8.2.2.set _ _).set _ _).set _ _⟩, hO8.kept (fun b hb => ?_), A7, c7, B7, d7, ?_⟩
              · simp [Value.ownBlock] at hb
                rw [Below.heap_setCell _ _ _ b (by simp; omega), Below.heap_setCell _ _ _ b (by simp; omega), Below.heap_setCell _ _ _ b (by simp; omega)]
              · rw [← hq1.out]
                refine ⟨⟨by simp [go_sem, G0, G1, G2], by simp [go_sem, G0, G1, G2], by simp [go_sem, G0, G1, G2], ((GR.set _ _).set _ _).set _ _⟩, hL8.set3 (by simp)⟩
    · obtain rfl : i = k := by omega
      have hcl : (totp rows i).length = n := by rw [totp_length, hn.out]
      have hTv := hO.ints.mono (T := fun _ => True) (fun _ _ _ => trivial)
      rw [← hcl] at hTv
      have hmod := As.mk (hIO.out.totmod i hk60)
      have hrzp := rz_part hIO.out i
      have hall : As (covR (totp rows i) (totp rows i) = allR rows i) := ⟨rfl⟩
      have hrza := rz_covR (totp rows i) (totp rows i) hmod.out hmod.out (by rw [hcl]; exact hn1)
      rw [hall.out] at hrza
      have HC := As.mk (cls_cov wr hTv hTv hmod.out hmod.out (by rw [hcl]; exact hn1) rfl)
      rw [hall.out, hcl] at HC
      clear hTv hmod hall hO
      obtain ⟨P, hPe⟩ : ∃ P, partR rows i = P := ⟨_, rfl⟩
      obtain ⟨V, hVe⟩ : ∃ V, allR rows i = V := ⟨_, rfl⟩
      rw [hPe] at hrzp hr1 hbox
      rw [hVe] at hrza HC
      replace hPe := As.mk hPe
      replace hVe := As.mk hVe
      go_wp2_with fail
      refine HC.out.mono ?_
      rintro e w5 ⟨r5, rfl, hM, hb⟩
      obtain ⟨A5, c5, B5, d5, rfl⟩ := hM.slice
      have hz5 : b8 < w5.heap.size := Nat.lt_of_lt_of_le hz4 hb.size
      replace hS := (keep_B (keep_R (Res.below))) hS hb
      replace hr1 := hr1.below hb
      replace hbox := hbox.below hb
      clear hb HC
      obtain ⟨E0, E1, E2, ER⟩ := id hbox
      have hb6 := (Below.refl w5.heap.size w5).alloc (Nat.le_refl _) (Obj.cells #[.bool (decide (V.num < 0)), .slice A5 (sz V.num) c5, .slice B5 (dig V.den).length d5] 40)
      obtain ⟨V0, hV0⟩ : ∃ s, decide (V.num < 0) = s := ⟨_, rfl⟩
      obtain ⟨V1, hV1⟩ : ∃ s, sz V.num = s := ⟨_, rfl⟩
      obtain ⟨V2, hV2⟩ : ∃ s, (dig V.den).length = s := ⟨_, rfl⟩
      rw [hV0, hV1, hV2] at hM hb6 ⊢
      replace hV0 := As.mk hV0
      replace hV1 := As.mk hV1
      replace hV2 := As.mk hV2
      go_wp2_with fail
      obtain ⟨W6, hW6⟩ : ∃ W6, w5.alloc (Obj.cells #[.bool V0, .slice A5 V1 c5, .slice B5 V2 d5] 40) = W6 := ⟨_, rfl⟩
      rw [hW6] at hb6 ⊢
      replace hS := (keep_B (keep_R (Res.below))) hS hb6
      replace hr1 := hr1.below hb6
      replace hM := (hM.mono (T := fun b => w.heap.size + 2 ≤ b ∧ b < w5.heap.size) (fun b h1 h => ⟨by have : wr.heap.size ≤ b := h1; omega, h⟩)).below hb6
      replace hbox := hbox.below hb6
      have hboxV : BoxR W6 w5.heap.size (.bool V0) (.slice A5 V1 c5) (.slice B5 V2 d5) := by
        refine ⟨by subst hW6; simp [go_sem], by subst hW6; simp [go_sem], by subst hW6; simp [go_sem], by subst hW6; simp, fun i hi => ?_⟩
        subst hW6
        rcases (by omega : i = 0 ∨ i = 1 ∨ i = 2) with rfl | rfl | rfl
        · exact ⟨⟨.bool V0, by simp [go_sem]⟩, by simp [go_sem]⟩
        · exact ⟨⟨.slice A5 V1 c5, by simp [go_sem]⟩, by simp [go_sem]⟩
        · exact ⟨⟨.slice B5 V2 d5, by simp [go_sem]⟩, by simp [go_sem]⟩
      have hz6 : w5.heap.size < W6.heap.size := by subst hW6; simp
      clear hW6 hb6 E0 E1 E2 ER
      refine (rat_Div _ hr1.i hM.i (rz_pos P) (rz_pos V) (by omega)).mono ?_
      rintro e w7 ⟨r7, rfl, hD, hb7⟩
      replace hS := (keep_B (keep_R (Res.below))) hS hb7
      replace hM := hM.below hb7
      replace hboxV := hboxV.below hb7
      have hz7 : w5.heap.size < w7.heap.size := Nat.lt_of_lt_of_le hz6 hb7.size
      obtain ⟨A7, c7, B7, d7, rfl⟩ := hD.slice
      clear hb7 hbox hr1
      by_cases hv0 : V = 0
      · rw [show decide (V ≠ 0) = false from decide_eq_false (not_not_intro hv0)]
        replace hv0 := As.mk hv0
        clear hD hM hboxV
        have hw7 : w.heap.size + 2 ≤ w7.heap.size := by omega
        go_wp2_with fail
        have hb8 : ∀ o, Below w7.heap.size w7 (w7.alloc o) := fun o => (Below.refl w7.heap.size w7).alloc (Nat.le_refl _) o
        refine (cls_zero _).mono ?_
        rintro e w8 ⟨z1, rfl, hz1, hb9⟩
        replace hS := (keep_B (keep_R (Res.below))) ((keep_B (keep_R (Res.below))) hS (hb8 _)) hb9
        have hw8 : w.heap.size + 2 ≤ w8.heap.size := by have := hb9.size; simp at this; omega
        replace hz1 := hz1.mono (T := fun b => w.heap.size + 2 ≤ b) (fun b h1 _ => by have h1 := h1; simp [New] at h1; omega)
        go_wp2_with fail
        refine (cls_zero _).mono ?_
        rintro e w9 ⟨z2, rfl, hz2, hb10⟩
        replace hS := (keep_B (keep_R (Res.below))) hS hb10
        replace hz1 := hz1.below hb10
        replace hz2 := hz2.mono (T := fun b => w.heap.size + 2 ≤ b) (fun b h1 _ => by have : w8.heap.size ≤ b := h1; omega)
        obtain ⟨A8, c8, B8, d8, rfl⟩ := hz1.slice
        obtain ⟨A9, c9, B9, d9, rfl⟩ := hz2.slice
        obtain ⟨⟨x0, g0⟩, ⟨x1, g1⟩, ⟨x2, g2⟩, f0, f1, f2⟩ := hS.2.1.cells3
        obtain ⟨⟨y0, k0⟩, ⟨y1, k1⟩, ⟨y2, k2⟩, l0, l1, l2⟩ := hS.2.2.cells3
        have hst1 : As (∀ x y z x' y' z', RatV (New w) ((((((w9.setCell ⟨w.heap.size, 0, none⟩ x).setCell ⟨w.heap.size, 1, none⟩ y).setCell ⟨w.heap.size, 2, none⟩ z).setCell ⟨w.heap.size + 1, 0, none⟩ x').setCell ⟨w.heap.size + 1, 1, none⟩ y').setCell ⟨w.heap.size + 1, 2, none⟩ z') (.agg #[.bool (decide ((0 : Rat).num < 0)), .slice A8 (sz (0 : Rat).num) c8, .slice B8 (dig (0 : Rat).den).length d8]) 0) := ⟨fun x y z x' y' z' =>
          ((hz1.set3 (by simp)).set3 (by simp)).mono (fun k hk _ => by show w.heap.size ≤ k; omega)⟩
        have hst2 : As (∀ x y z x' y' z', RatV (New w) ((((((w9.setCell ⟨w.heap.size, 0, none⟩ x).setCell ⟨w.heap.size, 1, none⟩ y).setCell ⟨w.heap.size, 2, none⟩ z).setCell ⟨w.heap.size + 1, 0, none⟩ x').setCell ⟨w.heap.size + 1, 1, none⟩ y').setCell ⟨w.heap.size + 1, 2, none⟩ z') (.agg #[.bool (decide ((0 : Rat).num < 0)), .slice A9 (sz (0 : Rat).num) c9, .slice B9 (dig (0 : Rat).den).length d9]) 0) := ⟨fun x y z x' y' z' =>
          ((hz2.set3 (by simp)).set3 (by simp)).mono (fun k hk _ => by show w.heap.size ≤ k; omega)⟩
        have hB9 := As.mk hS.1
        clear hS hz1 hz2 hb9 hb10 hb8
        go_wp2_with fail
        refine bodyPost_ret (v := .tuple #[.agg #[.bool (decide ((0 : Rat).num < 0)), .slice A8 (sz (0 : Rat).num) c8, .slice B8 (dig (0 : Rat).den).length d8], .agg #[.bool (decide ((0 : Rat).num < 0)), .slice A9 (sz (0 : Rat).num) c9, .slice B9 (dig (0 : Rat).den).length d9], .int .i64 20]) (by simp [results, Try.results48, go_sem, g0, g1, g2, k0, k1, k2]) rfl ?_
        try rw [if_pos hv0.out, if_pos hv0.out, hv0.out]
        exact ⟨_, _, rfl, hst1.out _ _ _ _ _ _, hst2.out _ _ _ _ _ _, Below.set3 (Below.set3 hB9.out (Nat.le_refl _)) (by omega)⟩
        exact absurd (hVe.out.trans hv0.out) (by assumption)
      · have hdt : decide (V ≠ 0) = true := decide_eq_true hv0
        rw [hdt]
        clear hdt
        replace hv0 := As.mk hv0
        obtain ⟨Q, hQ⟩ : ∃ Q, P / V = Q := ⟨_, rfl⟩
        have hrzq := rz_div P V
        rw [hQ] at hD hrzq ⊢
        replace hQ := As.mk hQ
        obtain ⟨D0, hD0⟩ : ∃ s, decide (Q.num < 0) = s := ⟨_, rfl⟩
        obtain ⟨D1, hD1⟩ : ∃ s, sz Q.num = s := ⟨_, rfl⟩
        obtain ⟨D2, hD2⟩ : ∃ s, (dig Q.den).length = s := ⟨_, rfl⟩
        rw [hD0, hD1, hD2] at hD ⊢
        replace hD0 := As.mk hD0
        replace hD1 := As.mk hD1
        replace hD2 := As.mk hD2
        have hb8 := (Below.refl w7.heap.size w7).alloc (Nat.le_refl _) (Obj.cells #[.bool D0, .slice A7 D1 c7, .slice B7 D2 d7] 40)
        go_wp2_with fail
        obtain ⟨W8, hW8⟩ : ∃ W8, w7.alloc (Obj.cells #[.bool D0, .slice A7 D1 c7, .slice B7 D2 d7] 40) = W8 := ⟨_, rfl⟩
        rw [hW8] at hb8 ⊢
        replace hS := (keep_B (keep_R (Res.below))) hS hb8
        replace hM := hM.below hb8
        have hN3 : w.heap.size + 2 ≤ w5.heap.size := by omega
        have hN4 : w5.heap.size < W6.heap.size := hz6
        replace hD := (hD.mono (T := fun b => w.heap.size + 2 ≤ b ∧ b < w7.heap.size) (fun b h1 h => ⟨by have : W6.heap.size ≤ b := h1; omega, h⟩)).below hb8
        replace hboxV := hboxV.below hb8
        have hboxD : W8.cell? ⟨w7.heap.size, 0, none⟩ = some (.bool D0) ∧ W8.cell? ⟨w7.heap.size, 1, none⟩ = some (.slice A7 D1 c7) ∧ W8.cell? ⟨w7.heap.size, 2, none⟩ = some (.slice B7 D2 d7) := by
          subst hW8
          exact ⟨by simp [go_sem], by simp [go_sem], by simp [go_sem]⟩
        have hz8 : w7.heap.size < W8.heap.size := by subst hW8; simp
        clear hW8 hb8
        obtain ⟨E0, E1, E2, _⟩ := hboxV
        obtain ⟨G0, G1, G2⟩ := hboxD
        generalize w5.heap.size = N5 at *
        generalize w7.heap.size = N7 at *
        have hq0 : -9223372036854775808 ≤ (i : Int) := by omega
        have hq1 : (i : Int) ≤ 9223372036854775807 := by omega
        obtain ⟨J, hJ⟩ : ∃ J, (i : Int) - 1 = J := ⟨_, rfl⟩
        have hq2 : -9223372036854775808 ≤ J := by omega
        have hq3 : J ≤ 9223372036854775807 := by omega
        have hw1 : IntKind.i64.wrap ((i : Int) - 1) = J := by rw [hJ]; exact IntWalk.i64_in _ (by omega)
        have hsz1 : rz (((1 : Int) : Rat) / ((1 : Int) : Rat)) + rz Q ≤ 35184372088828 := by
          have := rz_small 1 1 (by decide) (by decide)
          omega
        have hsz2 : rz (((i : Int) : Rat) / (J : Rat)) + rz (((1 : Int) : Rat) / ((1 : Int) : Rat) - Q) ≤ 35184372088829 := by
          have h1 := rz_small 1 1 (by decide) (by decide)
          have h2 := rz_small (i : Int) J (by omega) (by omega)
          have h3 := rz_sub (((1 : Int) : Rat) / ((1 : Int) : Rat)) Q
          omega
        obtain ⟨R, hRe⟩ : ∃ R, ((i : Int) : Rat) / (J : Rat) * (((1 : Int) : Rat) / ((1 : Int) : Rat) - Q) = R := ⟨_, rfl⟩
        replace hRe := As.mk hRe
        replace hJ := As.mk hJ
        clear hrzq hrzp hrza hz4 hz5 hz6
        go_region_held3 (fun w' => w'.cell? ⟨N5, 0, none⟩ = some ((.bool V0)) ∧ w'.cell? ⟨N5, 1, none⟩ = some ((.slice A5 V1 c5)) ∧ w'.cell? ⟨N5, 2, none⟩ = some ((.slice B5 V2 d5)) ∧ w'.cell? ⟨N7, 0, none⟩ = some ((.bool D0)) ∧ w'.cell? ⟨N7, 1, none⟩ = some ((.slice A7 D1 c7)) ∧ w'.cell? ⟨N7, 2, none⟩ = some ((.slice B7 D2 d7)) ∧ RatV (fun b => w.heap.size + 2 ≤ b ∧ b < N5) w' (.agg #[.bool V0, .slice A5 V1 c5, .slice B5 V2 d5]) V ∧ RatV (fun b => w.heap.size + 2 ≤ b ∧ b < N7) w' (.agg #[.bool D0, .slice A7 D1 c7, .slice B7 D2 d7]) Q ∧ Below w.heap.size w w' ∧ Res w' w.heap.size 3 ∧ Res w' (w.heap.size + 1) 3)
          ((first
            | with_reducible exact (set_held (by simp <;> omega) (set_held (by simp <;> omega) (set_held (by simp <;> omega) (set_held (by simp <;> omega) (set_held (by simp <;> omega) (set_held (by simp <;> omega) (set_p (RatV.setc (by simp <;> omega)) (set_p (RatV.setc (by simp <;> omega)) (set_B (by simp <;> omega) (set_R (set_R1))))))))))) ((set_held (by simp <;> omega) (set_held (by simp <;> omega) (set_held (by simp <;> omega) (set_held (by simp <;> omega) (set_held (by simp <;> omega) (set_held (by simp <;> omega) (set_p (RatV.setc (by simp <;> omega)) (set_p (RatV.setc (by simp <;> omega)) (set_B (by simp <;> omega) (set_R (set_R1))))))))))) ((set_held (by simp <;> omega) (set_held (by simp <;> omega) (set_held (by simp <;> omega) (set_held (by simp <;> omega) (set_held (by simp <;> omega) (set_held (by simp <;> omega) (set_p (RatV.setc (by simp <;> omega)) (set_p (RatV.setc (by simp <;> omega)) (set_B (by simp <;> omega) (set_R (set_R1))))))))))) (by with_reducible assumption)))
            | exact (keep_and (keep_and (keep_and (keep_and (keep_and (keep_and (keep_p RatV.below (keep_p RatV.below (keep_B (keep_R (Res.below))))))))))) ⟨E0, E1, E2, G0, G1, G2, hM, hD, hS.1, hS.2.1, hS.2.2⟩ (below_drew _)
            | with_reducible exact (keep_and (keep_and (keep_and (keep_and (keep_and (keep_and (keep_p RatV.below (keep_p RatV.below (keep_B (keep_R (Res.below))))))))))) (by with_reducible assumption) (below_drew _)
            | with_reducible exact (keep_and (keep_and (keep_and (keep_and (keep_and (keep_and (keep_p RatV.below (keep_p RatV.below (keep_B (keep_R (Res.below))))))))))) (by with_reducible assumption) (by with_reducible assumption)))
          (first
            | (go_at_call 50; obtain ⟨_, _, _, _, _, _, hM1, hD1, hB1, hRg9, hRg10⟩ := ‹(_ = some _) ∧ (_ = some _) ∧ (_ = some _) ∧ (_ = some _) ∧ (_ = some _) ∧ (_ = some _) ∧ RatV _ _ _ V ∧ RatV _ _ _ Q ∧ Below _ _ _ ∧ Res _ _ _ ∧ Res _ _ _›; first | (with_reducible refine (cls_fraction _ 1 1 (by omega) (by omega) (by omega) (by omega)).mono ?_; rintro e w9 ⟨u1, rfl, hF1, hb⟩; (try replace hF0 := hF0.below hb)) | (with_reducible refine (cls_fraction _ _ _ hq0 hq1 hq2 hq3).mono ?_; rintro e w9 ⟨u0, rfl, hF0, hb⟩; (try replace hF1 := hF1.below hb); (try replace hL := hL.below hb)))
            | (go_at_call 29; obtain ⟨_, _, _, _, _, _, hM1, hD1, hB1, hRg9, hRg10⟩ := ‹(_ = some _) ∧ (_ = some _) ∧ (_ = some _) ∧ (_ = some _) ∧ (_ = some _) ∧ (_ = some _) ∧ RatV _ _ _ V ∧ RatV _ _ _ Q ∧ Below _ _ _ ∧ Res _ _ _ ∧ Res _ _ _›; refine (rat_Sub _ hF1.i hD1.i (rz_pos _) (rz_pos _) hsz1).mono ?_; rintro e w9 ⟨u2, rfl, hL, hb⟩; (try replace hF0 := hF0.below hb))
            | (go_at_call 28; obtain ⟨_, _, _, _, _, _, hM1, hD1, hB1, hRg9, hRg10⟩ := ‹(_ = some _) ∧ (_ = some _) ∧ (_ = some _) ∧ (_ = some _) ∧ (_ = some _) ∧ (_ = some _) ∧ RatV _ _ _ V ∧ RatV _ _ _ Q ∧ Below _ _ _ ∧ Res _ _ _ ∧ Res _ _ _›; refine (rat_Mul _ hF0.i hL.i (rz_pos _) (rz_pos _) hsz2).mono ?_; rw [hRe.out]; rintro e w9 ⟨u3, rfl, hX, hb⟩; obtain ⟨X0, A9, X1, c9, B9, X2, d9, rfl⟩ := hX.letters; obtain ⟨⟨x0, g0⟩, ⟨x1, g1⟩, ⟨x2, g2⟩, f0, f1, f2⟩ := (hRg9.below hb).cells3; obtain ⟨⟨y0, k0⟩, ⟨y1, k1⟩, ⟨y2, k2⟩, l0, l1, l2⟩ := (hRg10.below hb).cells3))
        all_goals
          have hn0 := hRg9.1
          have hn1 := hRg10.1
          have hMb := hM1.below hb
          have hst1 : As (∀ x y z x' y' z', RatV (New w) ((((((w9.setCell ⟨w.heap.size, 0, none⟩ x).setCell ⟨w.heap.size, 1, none⟩ y).setCell ⟨w.heap.size, 2, none⟩ z).setCell ⟨w.heap.size + 1, 0, none⟩ x').setCell ⟨w.heap.size + 1, 1, none⟩ y').setCell ⟨w.heap.size + 1, 2, none⟩ z') (.agg #[.bool V0, .slice A5 V1 c5, .slice B5 V2 d5]) V) := ⟨fun x y z x' y' z' =>
            ((hMb.set3 (fun h => by have := h.1; omega)).set3 (fun h => by have := h.1; omega)).mono (fun k hk _ => by show w.heap.size ≤ k; omega)⟩
          have hst2 : As (∀ x y z x' y' z', RatV (New w) ((((((w9.setCell ⟨w.heap.size, 0, none⟩ x).setCell ⟨w.heap.size, 1, none⟩ y).setCell ⟨w.heap.size, 2, none⟩ z).setCell ⟨w.heap.size + 1, 0, none⟩ x').setCell ⟨w.heap.size + 1, 1, none⟩ y').setCell ⟨w.heap.size + 1, 2, none⟩ z') (.agg #[.bool X0, .slice A9 X1 c9, .slice B9 X2 d9]) R) := ⟨fun x y z x' y' z' =>
            ((hX.set3 (fun h => by have h : _ ≤ _ := h; omega)).set3 (fun h => by have h : _ ≤ _ := h; omega)).mono (fun k hk _ => by have hk : _ ≤ _ := hk; show w.heap.size ≤ k; omega)⟩
          have hB9 := As.mk (hB1.after hB1.size hb)
          go_wp2_with fail
          all_goals refine bodyPost_ret (v := .tuple #[.agg #[.bool V0, .slice A5 V1 c5, .slice B5 V2 d5], .agg #[.bool X0, .slice A9 X1 c9, .slice B9 X2 d9], .int .i64 0]) (by simp [results, Try.results48, go_sem, g0, g1, g2, k0, k1, k2]) rfl ?_
          all_goals have hvv : allR rows i ≠ 0 := fun h => hv0.out (hVe.out.symm.trans h)
          all_goals first | exact absurd (by assumption) hvv | skip
          try rw [if_neg hvv, if_neg hvv]
          refine ⟨_, _, rfl, ?_, ?_, Below.set3 (Below.set3 hB9.out (Nat.le_refl _)) (by omega)⟩
          · rw [hVe.out]; exact hst1.out _ _ _ _ _ _
          · have e1 : (((i : Int) - 1 : Int) : Rat) = ((i : Int) : Rat) - 1 := by rw [Rat.intCast_sub]; simp
            rw [hVe.out, hPe.out, hQ.out]
            try rw [← e1]
            rw [hJ.out, ← one_frac1, hRe.out]
            exact hst2.out _ _ _ _ _ _
end Go.Proofs.Ytdbpjnjgjmfomaa
