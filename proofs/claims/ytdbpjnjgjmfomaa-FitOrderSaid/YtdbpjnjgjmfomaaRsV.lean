/- Lists of ratios as they come in. -/
import Derived.Test.YtdbpjnjgjmfomaaRatSg
namespace Go.Proofs.Ytdbpjnjgjmfomaa
open Go.RowKit

theorem cell_below {W W' : World} {a : Addr} {v : Value} (h : W.cell? a = some v) (hb : Below W.heap.size W W') : W'.cell? a = some v :=
  (World.cell?_of_block (hb.block _ (World.block_lt_of_cell? W _ h))).trans h
theorem below_own {G : Nat} {w W W' : World} (hG : G ≤ w.heap.size) (h : Below G w W) (hb : Below W.heap.size W W') : Below G w W' := h.after (Nat.le_trans hG h.size) hb
/-- A ratio as it lies in memory: its sign, the limbs of its numerator, of its denominator. -/
abbrev Rt := Bool × List Int × List Int
def rt0 : Rt := (false, [], [])
/-- What it reads as. -/
def qe (e : Rt) : Rat := ((iv e.1 e.2.1 : Int) : Rat) / ((nv e.2.2 : Nat) : Rat)
/-- From A on lie these ratios. -/
def RsV (S : Nat → Prop) (w : World) (A : Option Addr) (es : List Rt) : Prop :=
  es ≠ [] → ∃ ad, A = some ad ∧ S ad.block ∧ ∀ i, i < es.length → ∃ U c B d, w.cell? (ad.add (i * 3)) = some (.bool (es.getD i rt0).1) ∧ w.cell? ⟨(ad.add (i * 3)).block, (ad.add (i * 3)).off + 1, none⟩ = some (.slice U (es.getD i rt0).2.1.length c) ∧ w.cell? ⟨(ad.add (i * 3)).block, (ad.add (i * 3)).off + 2, none⟩ = some (.slice B (es.getD i rt0).2.2.length d) ∧
    NumV S w (.slice U (es.getD i rt0).2.1.length c) (es.getD i rt0).2.1 ∧ NumV S w (.slice B (es.getD i rt0).2.2.length d) (es.getD i rt0).2.2
theorem RsV.step {S : Nat → Prop} {w w1 : World} {A : Option Addr} {es : List Rt} (h : RsV S w A es) (hm : ∀ k, S k → k < w.heap.size → w1.heap[k]? = w.heap[k]?) : RsV S w1 A es := fun hn => by
  obtain ⟨ad, e, hs, hc⟩ := h hn
  refine ⟨ad, e, hs, fun i hi => ?_⟩
  obtain ⟨U, c, B, d, h0, h1, h2, h3, h4⟩ := hc i hi
  have lift : ∀ (a : Addr) v, a.block = ad.block → w.cell? a = some v → w1.cell? a = some v := fun a v ha hv =>
    (World.cell?_of_block (hm _ (by rw [ha]; exact hs) (World.block_lt_of_cell? w _ hv))).trans hv
  exact ⟨U, c, B, d, lift _ _ (add_block _ _) h0, lift _ _ (add_block _ _) h1, lift _ _ (add_block _ _) h2, h3.step hm, h4.step hm⟩
theorem RsV.below {S : Nat → Prop} {w w1 : World} {A : Option Addr} {es : List Rt} (h : RsV S w A es) (hb : Below w.heap.size w w1) : RsV S w1 A es := h.step (fun k _ hk => hb.block k hk)
/-- One of them. -/
theorem RsV.at {S : Nat → Prop} {w : World} {A : Option Addr} {es : List Rt} (h : RsV S w A es) (i : Nat) (hi : i < es.length) : ∃ ad, A = some ad ∧ ∃ N U k c B m d, w.cell? (ad.add (i * 3)) = some (.bool N) ∧ w.cell? ⟨(ad.add (i * 3)).block, (ad.add (i * 3)).off + 1, none⟩ = some (.slice U k c) ∧ w.cell? ⟨(ad.add (i * 3)).block, (ad.add (i * 3)).off + 2, none⟩ = some (.slice B m d) ∧ k = (es.getD i rt0).2.1.length ∧ m = (es.getD i rt0).2.2.length ∧
    RatI S w (.agg #[.bool N, .slice U k c, .slice B m d]) (qe (es.getD i rt0)) (max (es.getD i rt0).2.1.length (es.getD i rt0).2.2.length) := by
  obtain ⟨ad, e, hs, hc⟩ := h (fun e => by rw [e] at hi; simp at hi)
  obtain ⟨U, c, B, d, h0, h1, h2, h3, h4⟩ := hc i hi
  exact ⟨ad, e, _, U, _, c, B, _, d, h0, h1, h2, rfl, rfl, _, _, _, _, _, rfl, h3, h4, rfl, Nat.le_max_left _ _, Nat.le_max_right _ _⟩
theorem RsV.addr {S : Nat → Prop} {w : World} {A : Option Addr} {es : List Rt} (h : RsV S w A es) (h0 : 0 < es.length) : ∃ ad, A = some ad := by
  obtain ⟨ad, e, _⟩ := h (fun e => by rw [e] at h0; simp at h0)
  exact ⟨ad, e⟩
def badE (e : Rt) : Bool := decide (qe e < 0) || decide (1 < qe e)
/-- The first error of a list of probabilities. -/
def ckE (es : List Rt) : Int := if 20 < es.length then 5 else if es.any badE then 3 else 0
/-- Short enough to be reckoned with, where there are at most 20. -/
def Short (es : List Rt) : Prop := es.length ≤ 20 → ∀ i, i < es.length → (es.getD i rt0).2.1.length ≤ 1000 ∧ (es.getD i rt0).2.2.length ≤ 1000
theorem one_fr : ((1 : Int) : Rat) / ((1 : Int) : Rat) = 1 := by grind
theorem rz_on : rz 1 ≤ 2 := by rw [← one_fr]; exact rz_small 1 1 (by decide) (by decide)
theorem cmpR_neg {p q : Rat} (h : p < q) : cmpR p q = -1 := by unfold cmpR; rw [if_pos h]
theorem cmpR_nonneg {p q : Rat} (h : ¬ p < q) : 0 ≤ cmpR p q := by unfold cmpR; rw [if_neg h]; split <;> omega
theorem cmpR_pos {p q : Rat} (h : q < p) : cmpR p q = 1 := by
  unfold cmpR
  rw [if_neg (Rat.not_lt.2 (Rat.le_of_lt h)), if_neg (fun e => by rw [e] at h; exact Rat.lt_irrefl h)]
theorem cmpR_nonpos {p q : Rat} (h : ¬ q < p) : cmpR p q ≤ 0 := by
  unfold cmpR
  split
  · omega
  · next h2 => rw [if_pos (Rat.le_antisymm (Rat.not_lt.1 h) (Rat.not_lt.1 h2))]; omega
end Go.Proofs.Ytdbpjnjgjmfomaa
