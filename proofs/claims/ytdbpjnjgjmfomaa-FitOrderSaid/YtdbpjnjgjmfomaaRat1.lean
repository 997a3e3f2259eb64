/- The program's ratios, first part: what a ratio value reads as; zero, whole. -/
import Derived.Test.YtdbpjnjgjmfomaaInt6
namespace Go.Proofs.Ytdbpjnjgjmfomaa
open Go.RowKit

/-- A value of type api.Ratio that reads as q (0 where the denominator is 0), in no more than n limbs a part. -/
def RatI (S : Nat → Prop) (w : World) (v : Value) (q : Rat) (n : Nat) : Prop :=
  ∃ neg u d l t, v = .agg #[.bool neg, u, d] ∧ NumV S w u l ∧ NumV S w d t ∧ ((iv neg l : Int) : Rat) / ((nv t : Nat) : Rat) = q ∧ l.length ≤ n ∧ t.length ≤ n
/-- A value of type api.Ratio that is the normal form of q. -/
def RatV (S : Nat → Prop) (w : World) (v : Value) (q : Rat) : Prop :=
  ∃ u d, v = .agg #[.bool (decide (q.num < 0)), u, d] ∧ NumV S w u (dig q.num.natAbs) ∧ NumV S w d (dig q.den)
/-- How many limbs a normal form's parts have. -/
def rz (q : Rat) : Nat := max (sz q.num) (dig q.den).length

theorem rat_nd (q : Rat) : ((q.num : Int) : Rat) / ((q.den : Nat) : Rat) = q := by
  have := Rat.mkRat_self q
  rw [Rat.mkRat_eq_div] at this
  exact this
theorem RatV.i {S : Nat → Prop} {w : World} {v : Value} {q : Rat} (h : RatV S w v q) : RatI S w v q (rz q) := by
  obtain ⟨u, d, rfl, hu, hd⟩ := h
  refine ⟨_, u, d, _, _, rfl, hu, hd, ?_, Nat.le_max_left _ _, Nat.le_max_right _ _⟩
  rw [iv_dig, nv_dig, rat_nd]
theorem RatI.le {S : Nat → Prop} {w : World} {v : Value} {q : Rat} {m n : Nat} (h : RatI S w v q m) (hmn : m ≤ n) : RatI S w v q n := by
  obtain ⟨neg, u, d, l, t, e, hu, hd, hq, h1, h2⟩ := h
  exact ⟨neg, u, d, l, t, e, hu, hd, hq, by omega, by omega⟩
theorem RatI.step {S : Nat → Prop} {w w1 : World} {v : Value} {q : Rat} {n : Nat} (h : RatI S w v q n) (hm : ∀ k, S k → k < w.heap.size → w1.heap[k]? = w.heap[k]?) : RatI S w1 v q n := by
  obtain ⟨neg, u, d, l, t, e, hu, hd, hq⟩ := h
  exact ⟨neg, u, d, l, t, e, hu.step hm, hd.step hm, hq⟩
theorem RatI.below {S : Nat → Prop} {w w1 : World} {v : Value} {q : Rat} {n : Nat} (h : RatI S w v q n) (hb : Below w.heap.size w w1) : RatI S w1 v q n := h.step (fun k _ hk => hb.block k hk)
theorem RatI.mono {S T : Nat → Prop} {w : World} {v : Value} {q : Rat} {n : Nat} (h : RatI S w v q n) (hm : ∀ k, S k → k < w.heap.size → T k) : RatI T w v q n := by
  obtain ⟨neg, u, d, l, t, e, hu, hd, hq⟩ := h
  exact ⟨neg, u, d, l, t, e, hu.mono hm, hd.mono hm, hq⟩
theorem RatV.step {S : Nat → Prop} {w w1 : World} {v : Value} {q : Rat} (h : RatV S w v q) (hm : ∀ k, S k → k < w.heap.size → w1.heap[k]? = w.heap[k]?) : RatV S w1 v q := by
  obtain ⟨u, d, e, hu, hd⟩ := h
  exact ⟨u, d, e, hu.step hm, hd.step hm⟩
theorem RatV.below {S : Nat → Prop} {w w1 : World} {v : Value} {q : Rat} (h : RatV S w v q) (hb : Below w.heap.size w w1) : RatV S w1 v q := h.step (fun k _ hk => hb.block k hk)
theorem RatV.mono {S T : Nat → Prop} {w : World} {v : Value} {q : Rat} (h : RatV S w v q) (hm : ∀ k, S k → k < w.heap.size → T k) : RatV T w v q := by
  obtain ⟨u, d, e, hu, hd⟩ := h
  exact ⟨u, d, e, hu.mono hm, hd.mono hm⟩
theorem IntV.slice {S : Nat → Prop} {w : World} {v : Value} {z : Int} (h : IntV S w v z) : ∃ A c, v = .agg #[.bool (decide (z < 0)), .slice A (sz z) c] ∧ NumV S w (.slice A (sz z) c) (dig z.natAbs) := by
  obtain ⟨u, rfl, hn⟩ := h
  obtain ⟨A, c, rfl⟩ := hn.slice
  exact ⟨A, c, rfl, hn⟩
theorem RatV.slice {S : Nat → Prop} {w : World} {v : Value} {q : Rat} (h : RatV S w v q) : ∃ A c B d, v = .agg #[.bool (decide (q.num < 0)), .slice A (sz q.num) c, .slice B (dig q.den).length d] := by
  obtain ⟨u, d, rfl, hu, hd⟩ := h
  obtain ⟨A, c, rfl⟩ := hu.slice
  obtain ⟨B, e, rfl⟩ := hd.slice
  exact ⟨A, c, B, e, rfl⟩
theorem NumV.stored {S : Nat → Prop} {w : World} {v : Value} {l : List Int} (h : NumV S w v l) {p : Addr} (hp : ¬ S p.block) (x : Value) : NumV S (w.setCell p x) v l :=
  h.set (fun _k hs _ e => hp (e ▸ hs)) x

set_option maxHeartbeats 1000000 in
theorem rat_whole {S : Nat → Prop} {u : Value} {l : List Int} (w : World) (hu : NumV S w u l) (hm : l.length ≤ 35184372088830) :
    Calls Try.prog 85 #[u] w fun e w' => ∃ r, e = .returned r ∧ IntV (New w) w' r (nv l : Nat) ∧ Below w.heap.size w w' := by
  have hiv : iv false l = (nv l : Nat) := rfl
  rw [← hiv]
  replace hiv := As.mk hiv
  obtain ⟨A, c, rfl⟩ := hu.slice
  go_enter Try.func85, Try.ntmps85
  go_wp2_with fail
  refine (int_Make _ (hu.alloc _) hm).mono ?_
  rintro e w1 ⟨v1, rfl, ⟨u1, rfl, hn1⟩, hb1⟩
  obtain ⟨A1, c1, rfl⟩ := hn1.slice
  obtain ⟨hc, hf⟩ := bcell (n := w.heap.size + 1) hb1 (by simp)
  have hR : Res (w.alloc (Obj.cells #[Value.bool false, Value.slice none 0 0] 38)) w.heap.size 2 := ⟨by simp, fun i hi => by
    rcases (by omega : i = 0 ∨ i = 1) with rfl | rfl
    · exact ⟨⟨.bool false, by simp [go_sem]⟩, by simp [go_sem]⟩
    · exact ⟨⟨.slice none 0 0, by simp [go_sem]⟩, by simp [go_sem]⟩⟩
  have hres := As.mk (fun x y => IntV.stored (w := w) (x := x) (y := y) (Nat.le_refl _) hR hn1 hb1)
  have hbel : As (∀ x y, Below w.heap.size w ((w1.setCell ⟨w.heap.size, 0, none⟩ x).setCell ⟨w.heap.size, 1, none⟩ y)) := ⟨fun x y =>
    ((((Below.refl w.heap.size w).alloc (Nat.le_refl _) _).after (by simp) hb1).setCell (by simp) _).setCell (by simp) _⟩
  clear hR hn1 hb1 hu
  go_wp2_with fail
  refine bodyPost_ret (v := .agg #[.bool (decide (iv false l < 0)), .slice A1 (dig (iv false l).natAbs).length c1]) (by simp [results, Try.results85, go_sem, hc]) rfl ?_
  exact ⟨_, rfl, hres.out _ _, hbel.out _ _⟩

set_option maxHeartbeats 1000000 in
theorem rat_zero (w : World) :
    Calls Try.prog 88 #[] w fun e w' => ∃ r, e = .returned r ∧ RatV (New w) w' r 0 ∧ Below w.heap.size w w' := by
  go_enter Try.func88, Try.ntmps88
  go_wp2_with fail
  refine (nat_Of 1 _ (by omega)).mono ?_
  rintro e w1 ⟨u, rfl, hu, hb1⟩
  obtain ⟨A1, c1, rfl⟩ := hu.slice
  obtain ⟨hc, hf⟩ := bcell (n := w.heap.size + 1) hb1 (by simp)
  have hres : As (∀ x y z, RatV (New w) (((w1.setCell ⟨w.heap.size, 0, none⟩ x).setCell ⟨w.heap.size, 1, none⟩ y).setCell ⟨w.heap.size, 2, none⟩ z) (.agg #[.bool false, .slice none 0 0, .slice A1 (dig 1).length c1]) 0) := ⟨fun x y z =>
    ⟨.slice none 0 0, .slice A1 (dig 1).length c1, rfl, by simpa [dig] using NumV.nil _ _, (((hu.stored (by simp) _).stored (by simp) _).stored (by simp) _).mono (by intro k hk _; simp at hk; show w.heap.size ≤ k; omega)⟩⟩
  have hbel : As (∀ x y z, Below w.heap.size w (((w1.setCell ⟨w.heap.size, 0, none⟩ x).setCell ⟨w.heap.size, 1, none⟩ y).setCell ⟨w.heap.size, 2, none⟩ z)) := ⟨fun x y z =>
    (((((Below.refl w.heap.size w).alloc (Nat.le_refl _) _).after (by simp) hb1).setCell (by simp) _).setCell (by simp) _).setCell (by simp) _⟩
  clear hu hb1
  go_wp2_with fail
  refine bodyPost_ret (v := .agg #[.bool false, .slice none 0 0, .slice A1 (dig 1).length c1]) (by simp [results, Try.results88, go_sem, hc]) rfl ?_
  exact ⟨_, rfl, hres.out _ _ _, hbel.out _ _ _⟩
end Go.Proofs.Ytdbpjnjgjmfomaa
