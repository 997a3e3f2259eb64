/- The program's integers, first part. -/
import Derived.Test.YtdbpjnjgjmfomaaGcd
import Derived.Deep.RegionHeld3
namespace Go.Proofs.Ytdbpjnjgjmfomaa
open Go.RowKit

/-- The integer of a sign and limbs. -/
def iv (neg : Bool) (l : List Int) : Int := if neg then -(nv l : Int) else nv l
/-- A value of type api.Int that is the normal form of z. -/
def IntV (S : Nat → Prop) (w : World) (v : Value) (z : Int) : Prop := ∃ u, v = .agg #[.bool (decide (z < 0)), u] ∧ NumV S w u (dig z.natAbs)

theorem iv_natAbs (neg : Bool) (l : List Int) : (iv neg l).natAbs = nv l := by unfold iv; split <;> simp
theorem iv_neg (neg : Bool) (l : List Int) : decide (iv neg l < 0) = (neg && decide (0 < nv l)) := by
  unfold iv; cases neg <;> simp <;> omega

/-- Behind a contract: the elder cells and marks. -/
theorem bcell {W w1 : World} {n : Nat} (hb : Below W.heap.size W w1) (hn : W.heap.size = n) : (∀ b o, b < n → w1.cell? ⟨b, o, none⟩ = W.cell? ⟨b, o, none⟩) ∧ (∀ b o, b < n → w1.frozen? ⟨b, o, none⟩ = W.frozen? ⟨b, o, none⟩) := by
  subst hn
  exact ⟨fun b o h => hb.cell (p := ⟨b, o, none⟩) h, fun b o h => hb.frozen (p := ⟨b, o, none⟩) h⟩
theorem heap_size_alloc (w : World) (o : Obj) : (w.alloc o).heap.size = w.heap.size + 1 := by simp

set_option maxHeartbeats 1000000 in
theorem int_Make {S : Nat → Prop} {neg : Bool} {u : Value} {l : List Int} (w : World) (hu : NumV S w u l) (hm : l.length ≤ 35184372088830) :
    Calls Try.prog 90 #[.bool neg, u] w fun e w' => ∃ v, e = .returned v ∧ IntV (New w) w' v (iv neg l) ∧ Below w.heap.size w w' := by
  go_enter Try.func90, Try.ntmps90
  go_wp2_with fail
  refine (nat_Norm _ (hu.alloc _) (by omega)).mono ?_
  rintro e w1 ⟨v1, rfl, ho1, hb1⟩
  have hn := Own.new ho1 (Lim_dig _)
  have hlen := dig_nil_iff (nv l)
  obtain ⟨A, c, rfl⟩ := Own.slice ho1
  obtain ⟨hc, hf⟩ := bcell (n := w.heap.size + 1) hb1 (by simp)
  have hz := hb1.size
  simp only [heap_size_alloc] at hz
  have hres : ∀ b : Bool, b = (neg && decide (0 < nv l)) → IntV (New w) ((w1.setCell ⟨w.heap.size, 0, none⟩ (.bool b)).setCell ⟨w.heap.size, 1, none⟩ (.slice A (dig (nv l)).length c)) (.agg #[.bool b, .slice A (dig (nv l)).length c]) (iv neg l) := fun b hb =>
    ⟨_, by rw [iv_neg, ← hb], by
      rw [iv_natAbs]
      exact ((hn.set (by intro k hk _; simp at hk; simp; omega) _).set (by intro k hk _; simp at hk; simp; omega) _).mono (by intro k hk _; simp at hk; show w.heap.size ≤ k; omega)⟩
  replace hres := As.mk hres
  have hbel : ∀ (b : Bool) v, Below w.heap.size w ((w1.setCell ⟨w.heap.size, 0, none⟩ (.bool b)).setCell ⟨w.heap.size, 1, none⟩ v) := fun b v =>
    ((((Below.refl w.heap.size w).alloc (Nat.le_refl _) _).after (by simp) hb1).setCell (by simp) _).setCell (by simp) _
  replace hbel := As.mk hbel
  obtain ⟨N, hN⟩ : ∃ N, (dig (nv l)).length = N := ⟨_, rfl⟩
  replace hlen := As.mk hlen
  rw [hN] at hres hlen ⊢
  clear hn ho1 hb1 hN
  cases neg
  · go_wp2_with fail
    refine bodyPost_ret (v := .agg #[.bool false, .slice A N c]) (by simp [results, Try.results90, go_sem, hc]) rfl ?_
    exact ⟨_, rfl, hres.out false rfl, hbel.out _ _⟩
  · rcases Nat.eq_zero_or_pos N with h0 | h0
    · subst h0
      have he := As.mk (show nv l = 0 from hlen.out.1 rfl)
      go_wp2_with fail
      refine bodyPost_ret (v := .agg #[.bool false, .slice A 0 c]) (by simp [results, Try.results90, go_sem, hc]) rfl ?_
      exact ⟨_, rfl, hres.out false (by rw [he.out]; rfl), hbel.out _ _⟩
    · have he := As.mk (show 0 < nv l by have := hlen.out; omega)
      go_wp2_with fail
      refine bodyPost_ret (v := .agg #[.bool true, .slice A N c]) (by simp [results, Try.results90, go_sem, hc]) rfl ?_
      exact ⟨_, rfl, hres.out true (by rw [decide_eq_true he.out]; rfl), hbel.out _ _⟩
end Go.Proofs.Ytdbpjnjgjmfomaa
