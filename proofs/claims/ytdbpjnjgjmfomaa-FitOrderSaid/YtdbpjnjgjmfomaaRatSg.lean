/- The sign of a ratio; fit.whole. -/
import Derived.Test.YtdbpjnjgjmfomaaMix
namespace Go.Proofs.Ytdbpjnjgjmfomaa
open Go.RowKit

theorem sign_cmp (z : Int) (D : Nat) (hD : 0 < D) : z.sign = cmpR ((z : Rat) / ((D : Nat) : Rat)) 0 := by
  have h := cmp_frac z 0 D 1 hD (by omega)
  rw [rat_one0] at h
  rw [← h]
  unfold cmpZ
  rcases sign_cases z with ⟨h1, h2⟩ | ⟨h1, h2⟩ | ⟨h1, h2⟩
  · rw [h2, if_pos (by simpa using h1)]
  · rw [h2, if_neg (by simp; omega), if_pos (by simp; omega)]
  · rw [h2, if_neg (by simp; omega), if_neg (by simp; omega)]
theorem IntI.letters {S : Nat → Prop} {w : World} {v : Value} {z : Int} {n : Nat} (h : IntI S w v z n) : ∃ N A k c, v = .agg #[.bool N, .slice A k c] := by
  obtain ⟨N, u, l, rfl, hu, _⟩ := h
  obtain ⟨A, c, rfl⟩ := hu.slice
  exact ⟨N, A, _, c, rfl⟩
theorem RatI.letters {S : Nat → Prop} {w : World} {v : Value} {q : Rat} {n : Nat} (h : RatI S w v q n) : ∃ N A k c B m d, v = .agg #[.bool N, .slice A k c, .slice B m d] := by
  obtain ⟨N, u, d, l, t, rfl, hu, hd, _⟩ := h
  obtain ⟨A, c, rfl⟩ := hu.slice
  obtain ⟨B, e, rfl⟩ := hd.slice
  exact ⟨N, A, _, c, B, _, e, rfl⟩

set_option maxHeartbeats 8000000 in
set_option maxRecDepth 100000 in
theorem rat_Sign {S : Nat → Prop} {v : Value} {q : Rat} {n : Nat} (w : World) (hv : RatI S w v q n) (h1 : 1 ≤ n) (hm : n ≤ 35184372088829) :
    Calls Try.prog 32 #[v] w fun e w' => e = .returned (.int .i64 (cmpR q 0)) ∧ Below w.heap.size w w' := by
  obtain ⟨N0, A1, k1, c1, B1, k2, d1, rfl⟩ := hv.letters
  have HP : As (∀ W, Below w.heap.size w W → Calls Try.prog 53 #[.agg #[.bool N0, .slice A1 k1 c1, .slice B1 k2 d1]] W fun e w' => ∃ r s z D, e = .returned (.tuple #[r, s]) ∧ IntI S w' r z n ∧ IntV (New W) w' s (D : Nat) ∧ 0 < D ∧ (dig D).length ≤ n ∧ ((z : Int) : Rat) / ((D : Nat) : Rat) = q ∧ Below W.heap.size W w') := ⟨fun W hb => rat_parts W (hv.below hb) h1 hm⟩
  clear hv
  go_enter Try.func32, Try.ntmps32
  go_wp2_with fail
  have hb1 := (Below.refl w.heap.size w).alloc (Nat.le_refl _) (Obj.cells #[.bool N0, .slice A1 k1 c1, .slice B1 k2 d1] 40)
  refine (HP.out _ hb1).mono ?_
  rintro e w3 ⟨r, s, z, D, rfl, hr, hs, hD, _, hz, hb⟩
  have hsg := sign_cmp z D hD
  rw [hz] at hsg
  replace hsg := As.mk hsg
  have hS := hb1.after (by simp) hb
  obtain ⟨N2, A2, k3, c2, rfl⟩ := hr.letters
  obtain ⟨N3, A3, k4, c3, rfl⟩ := hs.i.letters
  have HS : As (∀ o1 o2, Calls Try.prog 64 #[.agg #[.bool N2, .slice A2 k3 c2]] ((w3.alloc o1).alloc o2) fun e w' => e = .returned (.int .i64 z.sign) ∧ Below w.heap.size w w') := ⟨fun o1 o2 => by
    have hb2 := ((Below.refl w3.heap.size w3).alloc (Nat.le_refl _) o1).alloc (by simp) o2
    refine (int_Sign _ (hr.below hb2) (by omega)).mono ?_
    rintro e w' ⟨he, hb'⟩
    have h2 := hS.after hS.size hb2
    exact ⟨he, h2.after h2.size hb'⟩⟩
  clear HP hb1 hr hs hb hS hz
  generalize z.sign = sg at *
  go_wp2_with fail
  refine (HS.out _ _).mono ?_
  rintro e w5 ⟨rfl, hb5⟩
  go_wp2_with fail
  go_ret
  exact ⟨ret_int hsg.out, hb5⟩

set_option maxHeartbeats 8000000 in
set_option maxRecDepth 100000 in
theorem fit_whole (w : World) (x : Int) (hx0 : -9223372036854775808 ≤ x) (hx1 : x ≤ 9223372036854775807) :
    Calls Try.prog 63 #[.int .i64 x] w fun e w' => ∃ r, e = .returned r ∧ RatV (New w) w' r ((x : Rat) / ((1 : Int) : Rat)) ∧ Below w.heap.size w w' := by
  obtain ⟨q, hq⟩ : ∃ q, ((x : Rat) / ((1 : Int) : Rat)) = q := ⟨_, rfl⟩
  replace hq := As.mk hq
  rw [hq.out]
  go_enter Try.func63, Try.ntmps63
  go_wp2_with fail
  obtain ⟨W, hW⟩ : ∃ W, (w.alloc (Obj.cells #[Value.bool false, Value.slice none 0 0, Value.slice none 0 0] 40)) = W := ⟨_, rfl⟩
  have hB : Below w.heap.size w W := by rw [← hW]; exact (Below.refl _ _).alloc (by simp) _
  have hs : W.heap.size = w.heap.size + 1 := by rw [← hW]; simp
  have hR : Res W w.heap.size 3 := ⟨by omega, fun i hi => by
    subst hW
    rcases (by omega : i = 0 ∨ i = 1 ∨ i = 2) with rfl | rfl | rfl
    · exact ⟨⟨.bool false, by simp [go_sem]⟩, by simp [go_sem]⟩
    · exact ⟨⟨.slice none 0 0, by simp [go_sem]⟩, by simp [go_sem]⟩
    · exact ⟨⟨.slice none 0 0, by simp [go_sem]⟩, by simp [go_sem]⟩⟩
  rw [hW]
  clear hW
  have hS := And.intro hB hR
  clear hB hR
  refine (rat_Of _ x 1 hx0 hx1 (by omega) (by omega)).mono ?_
  rintro e w3 ⟨r, rfl, hL, hb⟩
  rw [hq.out] at hL
  obtain ⟨A7, c7, B7, d7, rfl⟩ := hL.slice
  have hst := As.mk (fun o x y z => RatV.stored (x := x) (y := y) (z := z) (show w.heap.size ≤ w.heap.size by omega) hS.2 hL |>.below ((Below.refl _ _).alloc (Nat.le_refl _) o))
  have hl0 : w.heap.size < w3.heap.size := by have := hb.size; omega
  replace hS := keep_last hS hb
  have hB9 : As (∀ o x y z, Below w.heap.size w ((((w3.setCell ⟨w.heap.size, 0, none⟩ x).setCell ⟨w.heap.size, 1, none⟩ y).setCell ⟨w.heap.size, 2, none⟩ z).alloc o)) := ⟨fun o x y z => (((hS.1.setCell (Nat.le_refl _) _).setCell (Nat.le_refl _) _).setCell (Nat.le_refl _) _).alloc (by simp [World.setCell]; omega) o⟩
  have hne : w.heap.size ≠ w3.heap.size := by omega
  obtain ⟨⟨⟨x4, h4⟩, f4⟩, ⟨⟨x5, h5⟩, f5⟩, ⟨x6, h6⟩, f6⟩ := And.intro (hS.2.2 0 (by omega)) (And.intro (hS.2.2 1 (by omega)) (hS.2.2 2 (by omega)))
  clear hS hL hb hs
  go_wp2_with fail
  refine bodyPost_ret (v := .agg #[.bool (decide (q.num < 0)), .slice A7 (sz q.num) c7, .slice B7 (dig q.den).length d7]) (by simp [results, Try.results63, go_sem, h4, h5, h6, hl0]) rfl ?_
  exact ⟨_, rfl, hst.out _ _ _ _, hB9.out _ _ _ _⟩

end Go.Proofs.Ytdbpjnjgjmfomaa
