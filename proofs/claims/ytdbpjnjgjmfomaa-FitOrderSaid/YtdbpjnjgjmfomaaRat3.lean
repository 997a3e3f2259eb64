/- The program's ratios, third part: numerator and denominator. -/
import Derived.Test.YtdbpjnjgjmfomaaRat2
namespace Go.Proofs.Ytdbpjnjgjmfomaa
open Go.RowKit

theorem keep_B {w W W' : World} {p q : Prop} (hpq : p → Below W.heap.size W W' → q) (h : Below w.heap.size w W ∧ p) (hb : Below W.heap.size W W') : Below w.heap.size w W' ∧ q := ⟨h.1.after h.1.size hb, hpq h.2 hb⟩
theorem keep_R {W W' : World} {b k : Nat} {p q : Prop} (hpq : p → Below W.heap.size W W' → q) (h : Res W b k ∧ p) (hb : Below W.heap.size W W') : Res W' b k ∧ q := ⟨h.1.below hb, hpq h.2 hb⟩
theorem keep_p {W W' : World} {r r' p q : Prop} (hr : r → Below W.heap.size W W' → r') (hpq : p → Below W.heap.size W W' → q) (h : r ∧ p) (hb : Below W.heap.size W W') : r' ∧ q := ⟨hr h.1 hb, hpq h.2 hb⟩
theorem set_B {w W : World} {a : Addr} {u : Value} {p q : Prop} (ha : w.heap.size ≤ a.block) (hpq : p → q) (h : Below w.heap.size w W ∧ p) : Below w.heap.size w (W.setCell a u) ∧ q := ⟨h.1.setCell ha u, hpq h.2⟩
theorem set_B1 {w W : World} {a : Addr} {u : Value} (ha : w.heap.size ≤ a.block) (h : Below w.heap.size w W) : Below w.heap.size w (W.setCell a u) := h.setCell ha u
theorem set_R {W : World} {a : Addr} {u : Value} {b k : Nat} {p q : Prop} (hpq : p → q) (h : Res W b k ∧ p) : Res (W.setCell a u) b k ∧ q := ⟨h.1.set a u, hpq h.2⟩
theorem set_R1 {W : World} {a : Addr} {u : Value} {b k : Nat} (h : Res W b k) : Res (W.setCell a u) b k := h.set a u
theorem set_p {r r' p q : Prop} (hr : r → r') (hpq : p → q) (h : r ∧ p) : r' ∧ q := ⟨hr h.1, hpq h.2⟩
theorem rat_den0 (z : Int) (t : List Int) (h : nv t = 0) : ((z : Int) : Rat) / ((nv t : Nat) : Rat) = 0 := by rw [h]; exact low_zero _ _ (.inr rfl)
theorem rat_one0 : (((0 : Int) : Int) : Rat) / ((1 : Nat) : Rat) = 0 := low_zero _ _ (.inl rfl)
theorem dig_one_len : (dig 1).length ≤ 1 := dig_length_le 1 1 (by omega)
theorem NumV.set2 {S : Nat → Prop} {w : World} {v : Value} {l : List Int} (h : NumV S w v l) {b : Nat} (hp : ∀ k, S k → k < w.heap.size → k ≠ b) (x y : Value) : NumV S ((w.setCell ⟨b, 0, none⟩ x).setCell ⟨b, 1, none⟩ y) v l :=
  (h.set (by simpa using hp) x).set (by intro k h1 h2; exact hp k h1 (by simpa [World.setCell] using h2)) y

set_option maxHeartbeats 4000000 in
set_option maxRecDepth 100000 in
theorem rat_parts {S : Nat → Prop} {v : Value} {q : Rat} {n : Nat} (w : World) (hv : RatI S w v q n) (h1 : 1 ≤ n) (hm : n ≤ 35184372088829) :
    Calls Try.prog 53 #[v] w fun e w' => ∃ r s z D, e = .returned (.tuple #[r, s]) ∧ IntI S w' r z n ∧ IntV (New w) w' s (D : Nat) ∧ 0 < D ∧ (dig D).length ≤ n ∧ ((z : Int) : Rat) / ((D : Nat) : Rat) = q ∧ Below w.heap.size w w' := by
  obtain ⟨neg, u, d, a, t, rfl, ha, ht, hq, hla, hlt⟩ := hv
  obtain ⟨A, c, rfl⟩ := ha.slice
  obtain ⟨B, d, rfl⟩ := ht.slice
  have hq0 := As.mk (rat_den0 (iv neg a) t)
  have haw := ha.mono (T := fun k => S k ∧ k < w.heap.size) (fun k h1 h2 => ⟨h1, h2⟩)
  replace hq := As.mk hq
  go_enter Try.func53, Try.ntmps53
  go_wp2_with fail
  obtain ⟨W, hW⟩ : ∃ W, (((w.alloc (Obj.cells #[Value.bool neg, Value.slice A a.length c, Value.slice B t.length d] 40)).alloc (Obj.cells #[Value.bool false, Value.slice none 0 0] 38)).alloc (Obj.cells #[Value.bool false, Value.slice none 0 0] 38)) = W := ⟨_, rfl⟩
  have hs : W.heap.size = w.heap.size + 3 := by rw [← hW]; simp
  have hB : Below w.heap.size w W := by rw [← hW]; exact ((((Below.refl _ _).alloc (by simp <;> omega) _).alloc (by simp <;> omega) _).alloc (by simp <;> omega) _)
  have cc0 : W.cell? ⟨w.heap.size, 0, none⟩ = some (.bool neg) := by subst hW; simp [go_sem]
  have cc1 : W.cell? ⟨w.heap.size, 1, none⟩ = some (.slice A a.length c) := by subst hW; simp [go_sem]
  have cc2 : W.cell? ⟨w.heap.size, 2, none⟩ = some (.slice B t.length d) := by subst hW; simp [go_sem]
  have hR1 : Res W (w.heap.size + 1) 2 := ⟨by omega, fun i hi => by
    subst hW
    rcases (by omega : i = 0 ∨ i = 1) with rfl | rfl
    · exact ⟨⟨.bool false, by simp [go_sem]⟩, by simp [go_sem]⟩
    · exact ⟨⟨.slice none 0 0, by simp [go_sem]⟩, by simp [go_sem]⟩⟩
  have hR2 : Res W (w.heap.size + 2) 2 := ⟨by omega, fun i hi => by
    subst hW
    rcases (by omega : i = 0 ∨ i = 1) with rfl | rfl
    · exact ⟨⟨.bool false, by simp [go_sem]⟩, by simp [go_sem]⟩
    · exact ⟨⟨.slice none 0 0, by simp [go_sem]⟩, by simp [go_sem]⟩⟩
  rw [hW]
  clear hW
  refine (nat_Bits _ (ht.below hB) (by omega)).mono ?_
  rintro e w2 ⟨k, rfl, hk, ⟨m2, rfl⟩⟩
  have hS : W.cell? ⟨w.heap.size, 0, none⟩ = some (.bool neg) ∧ W.cell? ⟨w.heap.size, 1, none⟩ = some (.slice A a.length c) ∧ W.cell? ⟨w.heap.size, 2, none⟩ = some (.slice B t.length d) ∧ Below w.heap.size w W ∧ Res W (w.heap.size + 1) 2 ∧ Res W (w.heap.size + 2) 2 := ⟨cc0, cc1, cc2, hB, hR1, hR2⟩
  replace hS := (keep_and (keep_and (keep_and (keep_B (keep_R (Res.below)))))) hS ((Below.refl _ _).drewsN m2)
  clear cc0 cc1 cc2 hB hR1 hR2
  generalize W.drewN m2 = W2 at *
  obtain ⟨cc0, cc1, cc2, hB, hR1, hR2⟩ := id hS
  rcases Nat.eq_zero_or_pos k with rfl | hkp
  · have ht0 := As.mk (hq0.out (hk.1 rfl))
    clear hk
    go_wp2_with fail
    refine (nat_Of 1 _ (by omega)).mono ?_
    rintro e w3 ⟨o, rfl, ho, hb3⟩
    replace hS := (keep_and (keep_and (keep_and (keep_B (keep_R (Res.below)))))) hS hb3
    go_wp2_with fail
    refine (rat_whole _ ho (by have := dig_one_len; omega)).mono ?_
    rintro e w4 ⟨o2, rfl, ho2, hb4⟩
    have hR9 := hS.2.2.2.2.2
    replace hS := (keep_and (keep_and (keep_and (keep_B (keep_R (Res.below)))))) hS hb4
    rw [nv_dig] at ho2
    obtain ⟨A2, c2, rfl, ho3⟩ := ho2.slice
    obtain ⟨⟨⟨x4, h4⟩, f4⟩, ⟨x5, h5⟩, f5⟩ := And.intro (hS.2.2.2.2.1.2 0 (by omega)) (hS.2.2.2.2.1.2 1 (by omega))
    obtain ⟨⟨⟨x6, h6⟩, f6⟩, ⟨x7, h7⟩, f7⟩ := And.intro (hS.2.2.2.2.2.2 0 (by omega)) (hS.2.2.2.2.2.2 1 (by omega))
    have hB9 := As.mk hS.2.2.2.1
    have hw3 : w.heap.size + 3 ≤ w3.heap.size := hR9.1
    clear hS cc0 cc1 cc2 hB hR1 hR2 hb3 hb4 ho ho2
    go_wp2_with fail
    refine bodyPost_ret (v := .tuple #[.agg #[.bool false, .slice none 0 0], .agg #[.bool (decide (((1 : Nat) : Int) < 0)), .slice A2 (sz ((1 : Nat) : Int)) c2]]) (by simp [results, Try.results53, go_sem, h4, h5, h6, h7]) rfl ?_
    have hn : ∀ k, New w3 k → k < w4.heap.size → k ≠ w.heap.size + 1 ∧ k ≠ w.heap.size + 2 := fun k hk _ => by have : w3.heap.size ≤ k := hk; omega
    refine ⟨_, _, 0, 1, rfl, ⟨false, _, [], rfl, NumV.nil _ _, rfl, Nat.zero_le _⟩, ⟨_, rfl, ?_⟩, by omega, Nat.le_trans dig_one_len h1, by rw [← hq.out, ht0.out]; exact rat_one0, (((hB9.out.setCell (by simp <;> omega) _).setCell (by simp <;> omega) _).setCell (by simp <;> omega) _).setCell (by simp <;> omega) _⟩
    exact ((ho3.set2 (fun k h1 h2 => (hn k h1 h2).1) _ _).set2 (fun k h1 h2 => (hn k h1 (by simpa [World.setCell] using h2)).2) _ _).mono (fun k hk _ => by have : w3.heap.size ≤ k := hk; show w.heap.size ≤ k; omega)
  · have hk0 : ((k : Int) == 0) = false := beq_eq_false_iff_ne.2 (by omega)
    have htp := As.mk (show 0 < nv t from Nat.pos_of_ne_zero (fun h => by have := hk.2 h; omega))
    replace hk := As.mk hk
    go_wp2_with fail
    go_region_held3 (fun w' => w'.cell? ⟨w.heap.size, 0, none⟩ = some (.bool neg) ∧ w'.cell? ⟨w.heap.size, 1, none⟩ = some (.slice A a.length c) ∧ w'.cell? ⟨w.heap.size, 2, none⟩ = some (.slice B t.length d) ∧ Below w.heap.size w w' ∧ Res w' (w.heap.size + 1) 2 ∧ Res w' (w.heap.size + 2) 2)
      ((first
        | exact (keep_and (keep_and (keep_and (keep_B (keep_R (Res.below)))))) ⟨cc0, cc1, cc2, hB, hR1, hR2⟩ (below_drew _)
        | exact (keep_and (keep_and (keep_and (keep_B (keep_R (Res.below)))))) (by assumption) (below_drew _)
        | exact (keep_and (keep_and (keep_and (keep_B (keep_R (Res.below)))))) (by assumption) (by assumption)
        | exact (set_held (by simp <;> omega) (set_held (by simp <;> omega) (set_held (by simp <;> omega) (set_B (by simp <;> omega) (set_R (set_R1)))))) ((set_held (by simp <;> omega) (set_held (by simp <;> omega) (set_held (by simp <;> omega) (set_B (by simp <;> omega) (set_R (set_R1)))))) (by assumption))))
      (first
        | (go_at_call 85; obtain ⟨_, _, _, hB1, hRg4, hRg5⟩ := ‹(_ = some _) ∧ (_ = some _) ∧ (_ = some _) ∧ Below _ _ _ ∧ Res _ _ _ ∧ Res _ _ _›; refine (rat_whole _ (ht.below hB1) (by omega)).mono ?_; rintro e w4 ⟨o2, rfl, ho2, hb4⟩; obtain ⟨A2, c2, rfl, ho3⟩ := ho2.slice; obtain ⟨⟨⟨x4, h4⟩, f4⟩, ⟨x5, h5⟩, f5⟩ := And.intro ((hRg4.below hb4).2 0 (by omega)) ((hRg4.below hb4).2 1 (by omega)); obtain ⟨⟨⟨x6, h6⟩, f6⟩, ⟨x7, h7⟩, f7⟩ := And.intro ((hRg5.below hb4).2 0 (by omega)) ((hRg5.below hb4).2 1 (by omega))))
    have hB9 := As.mk (hB1.after hB1.size hb4)
    have ho4 := ho3
    have hn : ∀ k, New W2.drew k → k < w4.heap.size → k ≠ w.heap.size + 1 ∧ k ≠ w.heap.size + 2 := fun k hk _ => by have : W2.heap.size ≤ k := hk; have := hR2.1; omega
    have hm1 : ∀ k, (S k ∧ k < w.heap.size) → k < w4.heap.size → k ≠ w.heap.size + 1 ∧ k ≠ w.heap.size + 2 := fun k hk _ => by have := hk.2; omega
    have haf := (haw.below hB1).below hb4
    have hW2 : w.heap.size ≤ W2.heap.size := hB.size
    clear cc0 cc1 cc2 hB hR1 hR2 hS
    go_wp2_with fail
    refine bodyPost_ret (v := .tuple #[.agg #[.bool neg, .slice A a.length c], .agg #[.bool (decide (((nv t : Nat) : Int) < 0)), .slice A2 (sz ((nv t : Nat) : Int)) c2]]) (by simp [results, Try.results53, go_sem, h4, h5, h6, h7]) rfl ?_
    refine ⟨_, _, iv neg a, nv t, rfl, ⟨neg, _, a, rfl, ?_, rfl, hla⟩, ⟨_, rfl, ?_⟩, htp.out, Nat.le_trans (dig_len_le ht.1) hlt, hq.out, (((hB9.out.setCell (by simp <;> omega) _).setCell (by simp <;> omega) _).setCell (by simp <;> omega) _).setCell (by simp <;> omega) _⟩
    · exact ((haf.set2 (fun k h1 h2 => (hm1 k h1 h2).1) _ _).set2 (fun k h1 h2 => (hm1 k h1 (by simpa [World.setCell] using h2)).2) _ _).mono (fun k hk _ => hk.1)
    · exact ((ho4.set2 (fun k h1 h2 => (hn k h1 h2).1) _ _).set2 (fun k h1 h2 => (hn k h1 (by simpa [World.setCell] using h2)).2) _ _).mono (fun k hk _ => by have : W2.heap.size ≤ k := hk; show w.heap.size ≤ k; omega)
end Go.Proofs.Ytdbpjnjgjmfomaa
