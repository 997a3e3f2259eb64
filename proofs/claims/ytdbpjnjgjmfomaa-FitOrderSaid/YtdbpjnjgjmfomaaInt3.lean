/- The program's integers, third part: what an integer value reads as; Neg, Sign, Of. -/
import Derived.Test.YtdbpjnjgjmfomaaInt2
namespace Go.Proofs.Ytdbpjnjgjmfomaa
open Go.RowKit

/-- A value of type api.Int that reads as z, in no more than n limbs. -/
def IntI (S : Nat → Prop) (w : World) (v : Value) (z : Int) (n : Nat) : Prop := ∃ neg u l, v = .agg #[.bool neg, u] ∧ NumV S w u l ∧ iv neg l = z ∧ l.length ≤ n
/-- How many limbs the normal form has. -/
def sz (z : Int) : Nat := (dig z.natAbs).length
theorem iv_dig (z : Int) : iv (decide (z < 0)) (dig z.natAbs) = z := by
  unfold iv; rw [nv_dig]; split
  · rename_i h; have := of_decide_eq_true h; omega
  · rename_i h; have : ¬ z < 0 := fun k => h (decide_eq_true k); omega
theorem IntV.i {S : Nat → Prop} {w : World} {v : Value} {z : Int} (h : IntV S w v z) : IntI S w v z (sz z) := by
  obtain ⟨u, rfl, hn⟩ := h
  exact ⟨_, u, _, rfl, hn, iv_dig z, Nat.le_refl _⟩
theorem IntI.le {S : Nat → Prop} {w : World} {v : Value} {z : Int} {m n : Nat} (h : IntI S w v z m) (hmn : m ≤ n) : IntI S w v z n := by
  obtain ⟨neg, u, l, e, hn, hz, hl⟩ := h
  exact ⟨neg, u, l, e, hn, hz, by omega⟩
theorem IntI.step {S : Nat → Prop} {w w1 : World} {v : Value} {z : Int} {n : Nat} (h : IntI S w v z n) (hm : ∀ k, S k → k < w.heap.size → w1.heap[k]? = w.heap[k]?) : IntI S w1 v z n := by
  obtain ⟨neg, u, l, e, hn, hz⟩ := h
  exact ⟨neg, u, l, e, hn.step hm, hz⟩
theorem IntI.below {S : Nat → Prop} {w w1 : World} {v : Value} {z : Int} {n : Nat} (h : IntI S w v z n) (hb : Below w.heap.size w w1) : IntI S w1 v z n := h.step (fun k _ hk => hb.block k hk)
theorem IntI.mono {S T : Nat → Prop} {w : World} {v : Value} {z : Int} {n : Nat} (h : IntI S w v z n) (hm : ∀ k, S k → k < w.heap.size → T k) : IntI T w v z n := by
  obtain ⟨neg, u, l, e, hn, hz⟩ := h
  exact ⟨neg, u, l, e, hn.mono hm, hz⟩
theorem IntI.all {S : Nat → Prop} {w : World} {v : Value} {z : Int} {n : Nat} (h : IntI S w v z n) : IntI All w v z n := h.mono (fun _ _ _ => trivial)
theorem IntV.step {S : Nat → Prop} {w w1 : World} {v : Value} {z : Int} (h : IntV S w v z) (hm : ∀ k, S k → k < w.heap.size → w1.heap[k]? = w.heap[k]?) : IntV S w1 v z := by
  obtain ⟨u, e, hn⟩ := h
  exact ⟨u, e, hn.step hm⟩
theorem IntV.below {S : Nat → Prop} {w w1 : World} {v : Value} {z : Int} (h : IntV S w v z) (hb : Below w.heap.size w w1) : IntV S w1 v z := h.step (fun k _ hk => hb.block k hk)
theorem IntV.mono {S T : Nat → Prop} {w : World} {v : Value} {z : Int} (h : IntV S w v z) (hm : ∀ k, S k → k < w.heap.size → T k) : IntV T w v z := by
  obtain ⟨u, e, hn⟩ := h
  exact ⟨u, e, hn.mono hm⟩
theorem iv_sign (neg : Bool) (l : List Int) : (iv neg l).natAbs = nv l := iv_natAbs neg l
theorem sz_le {neg : Bool} {l : List Int} (h : Lim l) : sz (iv neg l) ≤ l.length := by unfold sz; rw [iv_natAbs]; exact dig_len_le h
theorem IntI.sz {S : Nat → Prop} {w : World} {v : Value} {z : Int} {n : Nat} (h : IntI S w v z n) : sz z ≤ n := by
  obtain ⟨neg, u, l, _, hn, rfl, hl⟩ := h
  exact Nat.le_trans (sz_le hn.1) hl

theorem int_mul {S T : Nat → Prop} {u v : Value} {x y : Int} {m n : Nat} (w : World) (hu : IntI S w u x m) (hv : IntI T w v y n) (hm : m + n ≤ 35184372088830) :
    Calls Try.prog 56 #[u, v] w fun e w' => ∃ r, e = .returned r ∧ IntV (New w) w' r (x * y) ∧ Below w.heap.size w w' := by
  obtain ⟨na, u, a, rfl, ha, rfl, hla⟩ := hu
  obtain ⟨nb, v, b, rfl, hb, rfl, hlb⟩ := hv
  exact int_Mul w ha hb (by omega)

set_option maxHeartbeats 1000000 in
theorem int_Neg {S : Nat → Prop} {v : Value} {x : Int} {n : Nat} (w : World) (hv : IntI S w v x n) (hm : n ≤ 35184372088830) :
    Calls Try.prog 94 #[v] w fun e w' => ∃ r, e = .returned r ∧ IntV (New w) w' r (-x) ∧ Below w.heap.size w w' := by
  obtain ⟨na, u, a, rfl, ha, rfl, hla⟩ := hv
  have hiv : -(iv na a) = iv (!na) a := by unfold iv; cases na <;> simp
  rw [hiv]
  replace hiv := As.mk hiv
  obtain ⟨A, c, rfl⟩ := ha.slice
  go_enter Try.func94, Try.ntmps94
  go_wp2_with fail
  refine (int_Make _ ((ha.alloc _).alloc _) (by omega)).mono ?_
  rintro e w1 ⟨v1, rfl, ⟨u1, rfl, hn1⟩, hb1⟩
  obtain ⟨A1, c1, rfl⟩ := hn1.slice
  obtain ⟨hc, hf⟩ := bcell (n := w.heap.size + 2) hb1 (by simp)
  have hz := hb1.size
  simp only [heap_size_alloc] at hz
  have hR : Res ((w.alloc (Obj.cells #[Value.bool na, Value.slice A a.length c] 38)).alloc (Obj.cells #[Value.bool false, Value.slice none 0 0] 38)) (w.heap.size + 1) 2 := ⟨by simp, fun i hi => by
    rcases (by omega : i = 0 ∨ i = 1) with rfl | rfl
    · exact ⟨⟨.bool false, by simp [go_sem]⟩, by simp [go_sem]⟩
    · exact ⟨⟨.slice none 0 0, by simp [go_sem]⟩, by simp [go_sem]⟩⟩
  have hres := As.mk (fun x y => IntV.stored (w := w) (x := x) (y := y) (by omega) hR hn1 hb1)
  have hbel : As (∀ x y, Below w.heap.size w ((w1.setCell ⟨w.heap.size + 1, 0, none⟩ x).setCell ⟨w.heap.size + 1, 1, none⟩ y)) := ⟨fun x y =>
    (((((Below.refl w.heap.size w).alloc (Nat.le_refl _) _).alloc (by simp) _).after (by simp; omega) hb1).setCell (by simp) _).setCell (by simp) _⟩
  clear hR hn1 hb1 ha
  go_wp2_with fail
  refine bodyPost_ret (v := .agg #[.bool (decide (iv (!na) a < 0)), .slice A1 (dig (iv (!na) a).natAbs).length c1]) (by simp [results, Try.results94, go_sem, hc]) rfl ?_
  exact ⟨_, rfl, hres.out _ _, hbel.out _ _⟩

set_option maxHeartbeats 1000000 in
theorem int_Sign {S : Nat → Prop} {v : Value} {x : Int} {n : Nat} (w : World) (hv : IntI S w v x n) (hm : n ≤ 35184372088830) :
    Calls Try.prog 64 #[v] w fun e w' => e = .returned (.int .i64 x.sign) ∧ Below w.heap.size w w' := by
  obtain ⟨na, u, a, rfl, ha, rfl, hla⟩ := hv
  obtain ⟨A, c, rfl⟩ := ha.slice
  have hs : (iv na a).sign = if nv a = 0 then 0 else if na = true then -1 else 1 := by
    unfold iv
    rcases Nat.eq_zero_or_pos (nv a) with h | h
    · rw [h]; simp
    · rw [if_neg (show ¬ nv a = 0 by omega)]
      cases na
      · simp only [Bool.false_eq_true, if_false]; exact Int.sign_eq_one_of_pos (show 0 < (nv a : Int) by omega)
      · simp only [if_true]; exact Int.sign_eq_neg_one_of_neg (show -(nv a : Int) < 0 by omega)
  generalize (iv na a).sign = s at *
  replace hs := As.mk hs
  go_enter Try.func64, Try.ntmps64
  go_wp2_with fail
  refine (nat_Bits _ (ha.alloc _) (by omega)).mono ?_
  rintro e w1 ⟨k, rfl, hk, ⟨m, rfl⟩⟩
  rcases Nat.eq_zero_or_pos k with rfl | hp
  · have hs2 := As.mk (show s = 0 by rw [hs.out, if_pos (hk.1 rfl)])
    clear hs
    go_wp2_with fail
    go_ret
    exact ⟨ret_int hs2.out.symm, ((Below.refl _ _).alloc (Nat.le_refl _) _).drewsN _⟩
  · have hs2 := As.mk (show s = if na = true then -1 else 1 by rw [hs.out, if_neg (show ¬ nv a = 0 from fun h => by have := hk.2 h; omega)])
    clear hs
    have hk0 : ((k : Int) == 0) = false := beq_eq_false_iff_ne.2 (by omega)
    replace hk := As.mk hk
    cases na
    · go_wp2_with fail
      go_ret
      exact ⟨ret_int (by rw [hs2.out]; rfl), by repeat (first | exact (Below.refl _ _).alloc (Nat.le_refl _) _ | apply Below.drewsN)⟩
    · go_wp2_with fail
      go_ret
      exact ⟨ret_int (by rw [hs2.out]; rfl), by repeat (first | exact (Below.refl _ _).alloc (Nat.le_refl _) _ | apply Below.drewsN)⟩
end Go.Proofs.Ytdbpjnjgjmfomaa
