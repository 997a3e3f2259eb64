/- Joined texts: Limb, Base, Nat1, Nat2, NatPure, Nat3, Nat4, Nat5, DivPure, Nat6, Nat7, DivPure2, Nat8, DivPure3, Nat9. -/
import Derived.Test.YtdbpjnjgjmfomaaProg
import Derived.Below
import Derived.WalkKit
import Derived.KernelRfl
import Derived.Deep.QuietTactic
import Derived.BigQuiet
import Derived.Deep.LoopGhost
import Derived.Deep.DeepCutAuto
import Derived.Maps.AppendAt
import Derived.Deep.AppendLies
import Derived.Laws.OwnMore
import Derived.Laws.MakeOwn
import Derived.Lib.Hide
import Derived.Test.YtdbpjnjgjmfomaaJFitModel0Len
import Derived.Outline
/- Limbs: the value of a list of limbs of 32 bits, and the canonical limbs of a number. Plain mathematics. -/
namespace Go.Proofs.Ytdbpjnjgjmfomaa
/-- The value of a list of limbs of 32 bits, the least significant one first. -/
def val : List Int → Int
  | [] => 0
  | x :: t => x + 4294967296 * val t
/-- All limbs are in range. -/
def Lim (l : List Int) : Prop := ∀ x, x ∈ l → 0 ≤ x ∧ x < 4294967296
/-- No high zero limb. -/
def Top (l : List Int) : Prop := ∀ x, l.getLast? = some x → x ≠ 0
/-- The limbs of a number, without high zeros. -/
def dig (n : Nat) : List Int := if h : n = 0 then [] else ((n % 4294967296 : Nat) : Int) :: dig (n / 4294967296)
termination_by n
decreasing_by omega

theorem val_nil : val [] = 0 := rfl
theorem val_cons (x : Int) (t : List Int) : val (x :: t) = x + 4294967296 * val t := rfl
theorem Lim.nil : Lim [] := fun x h => by simp at h
theorem Lim.cons {x : Int} {t : List Int} (h : Lim (x :: t)) : (0 ≤ x ∧ x < 4294967296) ∧ Lim t := ⟨h x (by simp), fun y hy => h y (by simp [hy])⟩
theorem Lim.mk {x : Int} {t : List Int} (h0 : 0 ≤ x) (h1 : x < 4294967296) (h : Lim t) : Lim (x :: t) := fun y hy => by
  rcases List.mem_cons.1 hy with rfl | hy
  · exact ⟨h0, h1⟩
  · exact h y hy
theorem Lim.append {a b : List Int} (ha : Lim a) (hb : Lim b) : Lim (a ++ b) := fun y hy => by
  rcases List.mem_append.1 hy with hy | hy
  · exact ha y hy
  · exact hb y hy
theorem Lim.take {a : List Int} (ha : Lim a) (n : Nat) : Lim (a.take n) := fun y hy => ha y (List.mem_of_mem_take hy)
theorem Lim.drop {a : List Int} (ha : Lim a) (n : Nat) : Lim (a.drop n) := fun y hy => ha y (List.mem_of_mem_drop hy)
theorem Lim.set {a : List Int} (ha : Lim a) (n : Nat) {v : Int} (h0 : 0 ≤ v) (h1 : v < 4294967296) : Lim (a.set n v) := fun y hy => by
  rcases List.mem_or_eq_of_mem_set hy with hy | rfl
  · exact ha y hy
  · exact ⟨h0, h1⟩
theorem Lim.zeros (n : Nat) : Lim (List.replicate n 0) := fun y hy => by
  rw [List.mem_replicate] at hy; omega
theorem Lim.get {a : List Int} (ha : Lim a) (i : Nat) : 0 ≤ a.getD i 0 ∧ a.getD i 0 < 4294967296 := by
  rw [List.getD_eq_getElem?_getD]
  by_cases h : i < a.length
  · rw [List.getElem?_eq_getElem h]; exact ha _ (List.getElem_mem h)
  · rw [List.getElem?_eq_none (by omega)]; simp
theorem val_nonneg {l : List Int} (h : Lim l) : 0 ≤ val l := by
  induction l with
  | nil => simp [val]
  | cons x t ih => obtain ⟨⟨h0, _⟩, ht⟩ := h.cons; have := ih ht; simp only [val]; omega
theorem val_lt {l : List Int} (h : Lim l) : val l < 4294967296 ^ l.length := by
  induction l with
  | nil => simp [val]
  | cons x t ih =>
    obtain ⟨⟨_, h1⟩, ht⟩ := h.cons
    have := ih ht
    simp only [val, List.length_cons, Int.pow_succ]
    omega
theorem val_append (a b : List Int) : val (a ++ b) = val a + 4294967296 ^ a.length * val b := by
  induction a with
  | nil => simp [val]
  | cons x t ih => simp only [List.cons_append, val, ih, List.length_cons, Int.pow_succ]; grind
theorem val_snoc (a : List Int) (x : Int) : val (a ++ [x]) = val a + 4294967296 ^ a.length * x := by
  rw [val_append]; simp [val]
theorem val_zeros (n : Nat) : val (List.replicate n 0) = 0 := by
  induction n with
  | zero => rfl
  | succ n ih => simp [List.replicate_succ, val, ih]
theorem val_take_drop (l : List Int) (n : Nat) (h : n ≤ l.length) : val l = val (l.take n) + 4294967296 ^ n * val (l.drop n) := by
  have := val_append (l.take n) (l.drop n)
  rw [List.take_append_drop, List.length_take, Nat.min_eq_left h] at this
  exact this
theorem val_take_succ (l : List Int) (i : Nat) (h : i < l.length) : val (l.take (i + 1)) = val (l.take i) + 4294967296 ^ i * l.getD i 0 := by
  rw [List.take_succ_eq_append_getElem h, val_snoc, List.length_take, Nat.min_eq_left (by omega), List.getD_eq_getElem?_getD, List.getElem?_eq_getElem h]; rfl
theorem val_drop (l : List Int) (i : Nat) (h : i < l.length) : val (l.drop i) = l.getD i 0 + 4294967296 * val (l.drop (i + 1)) := by
  rw [List.drop_eq_getElem_cons h, val_cons, List.getD_eq_getElem?_getD, List.getElem?_eq_getElem h]; rfl
theorem val_set (l : List Int) (i : Nat) (v : Int) (h : i < l.length) : val (l.set i v) = val l + 4294967296 ^ i * (v - l.getD i 0) := by
  induction l generalizing i with
  | nil => simp at h
  | cons x t ih =>
    cases i with
    | zero => simp [val]; omega
    | succ i =>
      simp only [List.set_cons_succ, val, ih i (by simpa using h), Int.pow_succ, List.getD_cons_succ]
      grind
theorem Top.nil : Top [] := fun x h => by simp at h
theorem Top.cons {x : Int} {t : List Int} (h : Top (x :: t)) : Top t := by
  intro y hy
  cases t with
  | nil => simp at hy
  | cons z s => exact h y (by rw [List.getLast?_cons_cons]; exact hy)
theorem val_pos {l : List Int} (h : Lim l) (ht : Top l) (hn : l ≠ []) : 0 < val l := by
  induction l with
  | nil => exact absurd rfl hn
  | cons x t ih =>
    obtain ⟨⟨h0, _⟩, hl⟩ := h.cons
    cases t with
    | nil => have := ht x (by simp); simp [val]; omega
    | cons y s => have := ih hl ht.cons (by simp); rw [val]; omega
theorem val_unique {a b : List Int} (ha : Lim a) (hb : Lim b) (ta : Top a) (tb : Top b) (h : val a = val b) : a = b := by
  induction a generalizing b with
  | nil =>
    by_cases hb0 : b = []
    · exact hb0.symm
    · have := val_pos hb tb hb0; simp [val] at h; omega
  | cons x t ih =>
    have hp := val_pos ha ta (by simp)
    cases b with
    | nil => simp only [val] at h hp; omega
    | cons y s =>
      obtain ⟨hx, hlx⟩ := ha.cons
      obtain ⟨hy, hly⟩ := hb.cons
      simp only [val] at h
      have e1 : x = y := by omega
      have e2 : val t = val s := by omega
      rw [e1, ih hlx hly ta.cons tb.cons e2]
theorem dig_zero : dig 0 = [] := by rw [dig]; simp
theorem dig_pos (n : Nat) (h : n ≠ 0) : dig n = ((n % 4294967296 : Nat) : Int) :: dig (n / 4294967296) := by rw [dig, dif_neg h]
theorem val_dig (n : Nat) : val (dig n) = n := by
  induction n using Nat.strongRecOn with
  | ind n ih =>
    by_cases h : n = 0
    · subst h; rw [dig_zero]; rfl
    · rw [dig_pos n h, val, ih _ (by omega)]; omega
theorem Lim_dig (n : Nat) : Lim (dig n) := by
  induction n using Nat.strongRecOn with
  | ind n ih =>
    by_cases h : n = 0
    · subst h; rw [dig_zero]; exact Lim.nil
    · rw [dig_pos n h]; exact Lim.mk (by omega) (by omega) (ih _ (by omega))
theorem dig_ne_nil (n : Nat) (h : n ≠ 0) : dig n ≠ [] := by rw [dig_pos n h]; simp
theorem Top_dig (n : Nat) : Top (dig n) := by
  induction n using Nat.strongRecOn with
  | ind n ih =>
    by_cases h : n = 0
    · subst h; rw [dig_zero]; exact Top.nil
    · rw [dig_pos n h]
      intro x hx
      by_cases h2 : n / 4294967296 = 0
      · rw [h2, dig_zero] at hx; simp at hx; omega
      · have hi := ih _ (by omega : n / 4294967296 < n)
        rw [dig_pos _ h2, List.getLast?_cons_cons, ← dig_pos _ h2] at hx
        exact hi x hx
theorem eq_dig {l : List Int} (h : Lim l) (t : Top l) : l = dig (val l).toNat :=
  val_unique h (Lim_dig _) t (Top_dig _) (by rw [val_dig]; have := val_nonneg h; omega)
theorem dig_length_le (n k : Nat) (h : n < 4294967296 ^ k) : (dig n).length ≤ k := by
  induction k generalizing n with
  | zero => have : n = 0 := by simpa using h
            subst this; rw [dig_zero]; simp
  | succ k ih =>
    by_cases h0 : n = 0
    · subst h0; rw [dig_zero]; simp
    · rw [dig_pos n h0, List.length_cons]
      have := ih (n / 4294967296) (by rw [Nat.pow_succ] at h; omega)
      omega
theorem Top.snoc {a : List Int} {x : Int} (h : x ≠ 0) : Top (a ++ [x]) := fun y hy => by simp at hy; omega
end Go.Proofs.Ytdbpjnjgjmfomaa

/- Words for what a value reads as, and for rows of the call's own. -/
namespace Go.Proofs.Ytdbpjnjgjmfomaa
open Go.RowKit

/-- The world is the old one, some orders having been drawn. -/
structure Drawn (w w' : World) : Prop where mk :: (out : ∃ n, w' = w.drewN n)
theorem Drawn.refl (w : World) : Drawn w w := ⟨⟨0, rfl⟩⟩
theorem Drawn.step {w w' : World} (h : Drawn w w') (n : Nat) : Drawn w (w'.drewN n) := by
  obtain ⟨m, rfl⟩ := h
  exact ⟨⟨m + n, World.drewN_drewN ..⟩⟩
theorem _root_.Go.RowKit.Below.drewsN {B : Nat} {w W : World} (h : Below B w W) (n : Nat) : Below B w (W.drewN n) := ⟨h.os, h.tape, h.output, h.size, h.block⟩
theorem Drawn.below {w w' : World} (h : Drawn w w') : Below w.heap.size w w' := by
  obtain ⟨n, rfl⟩ := h
  exact (Below.refl _ _).drewsN n
theorem _root_.Go.RowKit.Below.after {B : Nat} {w w1 w2 : World} (h : Below B w w1) (hB : B ≤ w1.heap.size) (k : Below w1.heap.size w1 w2) : Below B w w2 :=
  h.trans (k.mono hB)
/-- A fact that the walk's simp doesn't look into. -/
structure As (p : Prop) : Prop where mk :: (out : p)

theorem ret_int {k : IntKind} {a b : Int} (h : a = b) : Ending.returned (.int k a) = .returned (.int k b) := by rw [h]

theorem val_int {k : IntKind} {a b : Int} (h : a = b) : Value.int k a = .int k b := by rw [h]

def u32s (l : List Int) : List Value := l.map (Value.int .u32)
theorem u32s_length (l : List Int) : (u32s l).length = l.length := by simp [u32s]
theorem u32s_append (a b : List Int) : u32s (a ++ b) = u32s a ++ u32s b := by simp [u32s]
theorem u32s_get (l : List Int) (j : Nat) (h : j < l.length) : (u32s l)[j]? = some (.int .u32 (l.getD j 0)) := by
  simp [u32s, List.getElem?_eq_getElem h, List.getD_eq_getElem?_getD]

/-- The cells from A on hold these values; all of them lie in blocks of S. -/
def Rd (S : Nat → Prop) (w : World) (A : Option Addr) (cs : List Value) : Prop :=
  cs ≠ [] → ∃ ad, A = some ad ∧ S ad.block ∧ ∀ (j : Nat) v, cs[j]? = some v → w.cell? (ad.add j) = some v
theorem Rd.step {S : Nat → Prop} {w w1 : World} {A : Option Addr} {cs : List Value} (h : Rd S w A cs) (hm : ∀ k, S k → k < w.heap.size → w1.heap[k]? = w.heap[k]?) : Rd S w1 A cs := fun hn => by
  obtain ⟨ad, e, hs, hc⟩ := h hn
  refine ⟨ad, e, hs, fun j v hj => ?_⟩
  have := hc j v hj
  have hb : (ad.add j).block = ad.block := by unfold Addr.add; split <;> rfl
  exact (World.cell?_of_block (by rw [hb]; exact hm _ hs (by rw [← hb]; exact World.block_lt_of_cell? w _ this))).trans this
theorem Rd.mono {S T : Nat → Prop} {w : World} {A : Option Addr} {cs : List Value} (h : Rd S w A cs) (hm : ∀ k, S k → k < w.heap.size → T k) : Rd T w A cs := fun hn => by
  obtain ⟨ad, e, hs, hc⟩ := h hn
  refine ⟨ad, e, hm _ hs ?_, hc⟩
  have h0 := hc 0 _ (List.getElem?_eq_getElem (List.length_pos_iff.2 hn))
  have hb : (ad.add 0).block = ad.block := by unfold Addr.add; split <;> rfl
  have := World.block_lt_of_cell? w _ h0
  rwa [hb] at this
theorem Rd.take {S : Nat → Prop} {w : World} {A : Option Addr} {cs : List Value} (h : Rd S w A cs) (n : Nat) : Rd S w A (cs.take n) := fun hn => by
  obtain ⟨ad, e, hs, hc⟩ := h (fun e => hn (by simp [e]))
  refine ⟨ad, e, hs, fun j v hj => hc j v ?_⟩
  rw [List.getElem?_take] at hj
  split at hj
  · exact hj
  · cases hj
theorem Rd.nil (S : Nat → Prop) (w : World) (A : Option Addr) : Rd S w A [] := fun h => absurd rfl h

/-- A value of type api.Nat reads as these limbs. -/
def NumV (S : Nat → Prop) (w : World) (v : Value) (l : List Int) : Prop := Lim l ∧ ∃ A c, v = .slice A l.length c ∧ l.length ≤ c ∧ Rd S w A (u32s l)
abbrev All : Nat → Prop := fun _ => True
theorem NumV.step {S : Nat → Prop} {w w1 : World} {v : Value} {l : List Int} (h : NumV S w v l) (hm : ∀ k, S k → k < w.heap.size → w1.heap[k]? = w.heap[k]?) : NumV S w1 v l := by
  obtain ⟨hl, A, c, rfl, hc, hr⟩ := h
  exact ⟨hl, A, c, rfl, hc, hr.step hm⟩
theorem NumV.mono {S T : Nat → Prop} {w : World} {v : Value} {l : List Int} (h : NumV S w v l) (hm : ∀ k, S k → k < w.heap.size → T k) : NumV T w v l := by
  obtain ⟨hl, A, c, rfl, hc, hr⟩ := h
  exact ⟨hl, A, c, rfl, hc, hr.mono hm⟩
theorem NumV.all {S : Nat → Prop} {w : World} {v : Value} {l : List Int} (h : NumV S w v l) : NumV All w v l := h.mono (fun _ _ _ => trivial)
theorem NumV.below {S : Nat → Prop} {w w1 : World} {v : Value} {l : List Int} (h : NumV S w v l) (hb : Below w.heap.size w w1) : NumV S w1 v l := h.step (fun k _ hk => hb.block k hk)
theorem NumV.drewN {S : Nat → Prop} {w : World} {v : Value} {l : List Int} (h : NumV S w v l) (n : Nat) : NumV S (w.drewN n) v l := h.below ((Below.refl _ _).drewsN n)
theorem NumV.alloc {S : Nat → Prop} {w : World} {v : Value} {l : List Int} (h : NumV S w v l) (o : Obj) : NumV S (w.alloc o) v l := h.below ((Below.refl _ _).alloc (Nat.le_refl _) o)
theorem NumV.lim {S : Nat → Prop} {w : World} {v : Value} {l : List Int} (h : NumV S w v l) : Lim l := h.1
theorem NumV.nil (S : Nat → Prop) (w : World) : NumV S w (.slice none 0 0) [] := ⟨Lim.nil, none, 0, rfl, Nat.le_refl _, Rd.nil _ _ _⟩
theorem NumV.empty (S : Nat → Prop) (w : World) (A : Option Addr) (c : Nat) : NumV S w (.slice A 0 c) [] := ⟨Lim.nil, A, c, rfl, Nat.zero_le _, Rd.nil _ _ _⟩
theorem NumV.len {S : Nat → Prop} {w : World} {A : Option Addr} {n c : Nat} {l : List Int} (h : NumV S w (.slice A n c) l) : n = l.length ∧ l.length ≤ c := by
  obtain ⟨_, A', c', e, hc, _⟩ := h
  injection e with e1 e2 e3
  subst e2 e3
  exact ⟨rfl, hc⟩
theorem NumV.rd {S : Nat → Prop} {w : World} {A : Option Addr} {n c : Nat} {l : List Int} (h : NumV S w (.slice A n c) l) : Rd S w A (u32s l) := by
  obtain ⟨_, A', c', e, hc, hr⟩ := h
  injection e with e1 e2 e3
  subst e1
  exact hr
/-- The limb at an index that is in range. -/
theorem NumV.at {S : Nat → Prop} {w : World} {A : Option Addr} {n c : Nat} {l : List Int} (h : NumV S w (.slice A n c) l) (i : Nat) (hi : i < l.length) : ∃ ad, A = some ad ∧ w.cell? (ad.add i) = some (.int .u32 (l.getD i 0)) := by
  obtain ⟨ad, e, _, hc⟩ := h.rd (fun e => by rw [← List.length_eq_zero_iff, u32s_length] at e; omega)
  exact ⟨ad, e, hc i _ (u32s_get l i hi)⟩
/-- Every limb, the address named once. -/
theorem NumV.cells {S : Nat → Prop} {w : World} {A : Option Addr} {n c : Nat} {l : List Int} (h : NumV S w (.slice A n c) l) (hl : 0 < l.length) : ∃ ad, A = some ad ∧ S ad.block ∧ ∀ i, i < l.length → w.cell? (ad.add i) = some (.int .u32 (l.getD i 0)) := by
  obtain ⟨ad, e, hs, hc⟩ := h.rd (fun e => by rw [← List.length_eq_zero_iff, u32s_length] at e; omega)
  exact ⟨ad, e, hs, fun i hi => hc i _ (u32s_get l i hi)⟩
theorem NumV.take {S : Nat → Prop} {w : World} {A : Option Addr} {n c : Nat} {l : List Int} (h : NumV S w (.slice A n c) l) (m c' : Nat) (hm : m ≤ l.length) (hc' : m ≤ c') : NumV S w (.slice A m c') (l.take m) := by
  refine ⟨h.1.take m, A, c', ?_, ?_, ?_⟩
  · rw [List.length_take, Nat.min_eq_left hm]
  · rw [List.length_take, Nat.min_eq_left hm]; exact hc'
  · have := h.rd.take m
    rwa [show (u32s l).take m = u32s (l.take m) from by simp [u32s, List.map_take]] at this

/-- A row of limbs of the call's own. -/
abbrev Own (w : World) (B : Nat) (v : Value) (l : List Int) : Prop := w.ownsRow B 100 1 v l.length (u32s l)
theorem Own.num {w : World} {B : Nat} {v : Value} {l : List Int} (h : Own w B v l) (hl : Lim l) : NumV (fun k => B ≤ k ∧ k < w.heap.size ∧ v.ownBlock = some k) w v l := by
  rcases h.2 with ⟨rfl, h0⟩ | ⟨g, cap, cur, rfl, hB, hh, hn, hm, hs, ht⟩
  · rw [List.length_eq_zero_iff] at h0; subst h0
    exact NumV.nil _ _
  · refine ⟨hl, some ⟨g, 0, none⟩, cap, rfl, hn, fun _ => ⟨⟨g, 0, none⟩, rfl, ⟨hB, (Array.getElem?_eq_some_iff.1 hh).1, rfl⟩, fun j v hj => h.cells (g := g) rfl j v hj⟩⟩
theorem Own.kept {w w1 : World} {B : Nat} {v : Value} {l : List Int} (h : Own w B v l) (hm : ∀ k, v.ownBlock = some k → w1.heap[k]? = w.heap[k]?) : Own w1 B v l := by
  refine ⟨h.1, ?_⟩
  rcases h.2 with h2 | ⟨g, cap, cur, rfl, hg, hh, r⟩
  · exact .inl h2
  · exact .inr ⟨g, cap, cur, rfl, hg, (hm g rfl).trans hh, r⟩
theorem Own.below {w w1 : World} {B : Nat} {v : Value} {l : List Int} (h : Own w B v l) (hb : Below w.heap.size w w1) : Own w1 B v l :=
  h.kept (fun k hk => hb.block k (World.ownsRow.lt h k hk).2)
theorem Own.drewN {w : World} {B : Nat} {v : Value} {l : List Int} (h : Own w B v l) (n : Nat) : Own (w.drewN n) B v l := h.below ((Below.refl _ _).drewsN n)
theorem Own.lower {w : World} {B B' : Nat} {v : Value} {l : List Int} (h : Own w B v l) (hb : B' ≤ B) : Own w B' v l := by
  refine ⟨h.1, ?_⟩
  rcases h.2 with h2 | ⟨g, cap, cur, rfl, hg, r⟩
  · exact .inl h2
  · exact .inr ⟨g, cap, cur, rfl, Nat.le_trans hb hg, r⟩
theorem Own.lit (w : World) (B : Nat) (l : List Int) (hb : B ≤ w.heap.size) (hm : l.length ≤ 9223372036854775807) : Own (w.alloc (.cells (u32s l).toArray 100)) B (.slice (some ⟨w.heap.size, 0, none⟩) l.length l.length) l := by
  have h := World.ownsRow_lit (base := B) (e := 100) (size := 1) w (u32s l).toArray l.length hb (by simpa [maxLen] using hm) (by simp [u32s])
  simpa using h
theorem Own.made (w : World) (B n : Nat) (hb : B ≤ w.heap.size) (hm : n ≤ 9223372036854775807) : Own (w.alloc (.cells (madeCells #[.int .u32 0] n) 100)) B (.slice (some ⟨w.heap.size, 0, none⟩) n n) (List.replicate n 0) := by
  have h := World.ownsRow_lit (base := B) (e := 100) (size := 1) w (madeCells #[.int .u32 0] n) n hb (by simpa [maxLen] using hm) (by simp [size_madeCells])
  rw [toList_madeCells_one] at h
  have e : List.replicate n (Value.int .u32 0) = u32s (List.replicate n 0) := by simp [u32s]
  rw [e] at h
  simpa [Own] using h
theorem Own.room (w : World) (B n : Nat) (hb : B ≤ w.heap.size) (hm : n ≤ 9223372036854775807) : Own (w.alloc (.cells (madeCells #[.int .u32 0] n) 100)) B (.slice (some ⟨w.heap.size, 0, none⟩) 0 n) [] := by
  have h := World.ownsRow_made (base := B) (e := 100) (size := 1) w (madeCells #[.int .u32 0] n) n hb (by simpa [maxLen] using hm) (by simp [size_madeCells])
  simpa [Own, u32s] using h
theorem make_nums {P : Program} (t : TypeId) (ht : P.underlying t = some (.slice 100)) (hinfo : (P.info? 100).map (fun i => (i.zero, i.size, i.bytes)) = some (some (.int .u32 0), 1, 4)) (l c : Nat) (hlc : l ≤ c) (hb : c ≤ 70368744177664) (W : World) :
    (Instr.makeSlice t (.int .i64 (l : Int)) (.int .i64 (c : Int))).run P W = .ok (.slice (some ⟨W.heap.size, 0, none⟩) l c) (W.alloc (.cells (madeCells #[.int .u32 0] c) 100)) := by
  obtain ⟨i0, hi, hzz⟩ := Option.map_eq_some_iff.1 hinfo
  simp only [Prod.mk.injEq] at hzz
  obtain ⟨hz0, hz1, hz2⟩ := hzz
  have := run_make (P := P) W t 100 i0 (.int .u32 0) ht hi hz0 .i64 .i64 (l : Int) (c : Int) (by omega) (by omega) (by rw [hz2]; omega) (by omega)
  rw [this, hz1]
  simp [Value.cells]
/-- A row of one limb and more lies in a block of its own. -/
theorem Own.form {w : World} {B : Nat} {v : Value} {l : List Int} (h : Own w B v l) (h0 : 0 < l.length) : ∃ g cap, v = .slice (some ⟨g, 0, none⟩) l.length cap ∧ B ≤ g ∧ g < w.heap.size := by
  rcases h.2 with ⟨rfl, h1⟩ | ⟨g, cap, cur, rfl, hB, hh, _⟩
  · omega
  · exact ⟨g, cap, rfl, hB, (Array.getElem?_eq_some_iff.1 hh).1⟩
theorem Own.slice {w : World} {B : Nat} {v : Value} {l : List Int} (h : Own w B v l) : ∃ A c, v = .slice A l.length c := by
  rcases h.2 with ⟨rfl, h1⟩ | ⟨g, cap, cur, rfl, _⟩
  · exact ⟨none, 0, by rw [h1]⟩
  · exact ⟨_, cap, rfl⟩
theorem Own.cell {w : World} {B g cap n : Nat} {l : List Int} (h : Own w B (.slice (some ⟨g, 0, none⟩) n cap) l) (i : Nat) (hi : i < l.length) : w.cell? ⟨g, i, none⟩ = some (.int .u32 (l.getD i 0)) ∧ w.frozen? ⟨g, i, none⟩ = false := by
  rcases h.2 with ⟨h', _⟩ | ⟨g', cap', cur, h', hB, hh, hn, hm, hs, ht⟩
  · cases h'
  · injection h' with h1 h2 h3
    injection h1 with h1
    injection h1 with h1
    subst h1 h2 h3
    have h' : Own w B (.slice (some ⟨g, 0, none⟩) l.length cap) l := ⟨h.1, .inr ⟨g, cap, cur, rfl, hB, hh, hn, hm, hs, ht⟩⟩
    refine ⟨?_, World.ownsRow.frozenAt h' i⟩
    rw [World.ownsRow.cellAt h' i (by omega), u32s_get l i hi]
theorem Own.store {w : World} {B g cap n : Nat} {l : List Int} (h : Own w B (.slice (some ⟨g, 0, none⟩) n cap) l) (i : Nat) (x : Int) : Own (w.setCell ⟨g, i, none⟩ (.int .u32 x)) B (.slice (some ⟨g, 0, none⟩) n cap) (l.set i x) := by
  obtain ⟨A, c, e⟩ := Own.slice h
  injection e with e1 e2 e3
  subst e2
  have := (World.ownsRow.stored h i (.int .u32 x)).1
  rw [show (u32s l).set i (.int .u32 x) = u32s (l.set i x) from by simp [u32s, List.map_set]] at this
  simpa [Own] using this
/-- A store into a block leaves alone what doesn't lie in it. -/
theorem NumV.set {S : Nat → Prop} {w : World} {v : Value} {l : List Int} (h : NumV S w v l) {p : Addr} (hp : ∀ k, S k → k < w.heap.size → k ≠ p.block) (u : Value) : NumV S (w.setCell p u) v l :=
  h.step (fun k hs hk => Below.heap_setCell w p u k (hp k hs hk))

section
variable {P : Program} {ops : Array Oper} {rest : List Oper} {o : Oper} {a : Act} {Q : Exit → Act → World → Prop}
/-- append(v, x...): v a row of the call's own, x any value that reads as limbs. -/
theorem append_nums {w0 W : World} (B : Nat) (hgd : o.guard = none) (s x : Operand) (t : TypeId) (S : Nat → Prop) (xs ys : List Int) (A : Option Addr) (m c : Nat)
    (ho : o.op = .call { callee := .builtin .append, args := #[s, x], argTypes := #[t, t] })
    (ht : P.underlying t = some (.slice 100)) (hinfo : (P.info? 100).map (fun i => (i.zero, i.size, i.bytes)) = some (some (.int .u32 0), 1, 4))
    (v : Value) (hs : a.eval s = v) (hx : a.eval x = .slice A m c)
    (HO : Own W B v xs) (HR : NumV S W (.slice A m c) ys) (HB : Below B w0 W) (hbase : B ≤ W.heap.size) (hl : xs.length + ys.length ≤ 35184372088832)
    (h : ∀ v1 w1, Own w1 B v1 (xs ++ ys) → Below B w0 w1 → W.grownBy w1 v.ownBlock → (v1.ownBlock = v.ownBlock ∨ v1.ownBlock = some W.heap.size) → wpList P ops Q rest (a.put o.dst v1) w1) :
    wpList P ops Q (o :: rest) a W := by
  obtain ⟨i0, hi, hzz⟩ := Option.map_eq_some_iff.1 hinfo
  simp only [Prod.mk.injEq] at hzz
  obtain ⟨hz0, hz1, hz2⟩ := hzz
  obtain ⟨rfl, hmc⟩ := HR.len
  have hrun : ∃ v1 w1, (Builtin.append_ #[t, t] o.type #[v, .slice A ys.length c]).run P W = .ok v1 w1 ∧ Own w1 B v1 (xs ++ ys) ∧ W.grownBy w1 v.ownBlock ∧ (v1.ownBlock = v.ownBlock ∨ v1.ownBlock = some W.heap.size) := by
    cases A with
    | none =>
      have hy : ys = [] := by
        by_cases hy : ys = []
        · exact hy
        · obtain ⟨ad, e, _⟩ := HR.rd (fun e => hy (by simpa [u32s] using e))
          cases e
      subst hy
      refine ⟨v, W, ?_, by simpa using HO, ⟨rfl, rfl, rfl, Nat.le_refl _, fun _ _ _ => rfl⟩, .inl rfl⟩
      rcases HO.2 with ⟨rfl, hn⟩ | ⟨g, cap, cur, rfl, _, _, hnc, _⟩
      · simp [Builtin.append_, run_underlying ht, sizeOf, typeInfo, hi, Builtin.lenOf, Builtin.firstCells]
      · simp [Builtin.append_, run_underlying ht, sizeOf, typeInfo, hi, Builtin.lenOf, Builtin.firstCells, hnc, storeCells]
    | some ad =>
      have hc : ∀ (j : Nat) u, (u32s ys)[j]? = some u → W.cell? (ad.add j) = some u := by
        intro j u hu
        obtain ⟨ad', e, _, hc⟩ := HR.rd (fun e => by rw [e] at hu; simp at hu)
        injection e with e
        subst e
        exact hc j u hu
      obtain ⟨v1, w1, hr, h2, h3, _, h5⟩ := run_append_own_at (P := P) W B t o.type 100 i0 (.int .u32 0) 1 4 ht hi hz0 hz1 hz2 rfl (by omega) v xs.length (u32s xs) HO ad ys.length c (u32s ys) (by simp [u32s]) hc
        (by intro u hu; simp only [u32s, List.mem_map] at hu; obtain ⟨q, _, rfl⟩ := hu; rfl) (by simp only [maxLen]; omega) (by omega) hbase
      exact ⟨v1, w1, hr, by simpa [Own, u32s] using h2, h3, h5⟩
  obtain ⟨v1, w1, hr, hown, hg, hat⟩ := hrun
  refine wpList_plain hgd fun K hK => ?_
  unfold Oper.wp execOp
  simp only [ho, resolve, invoke, builtin, Sem.run_bind, Sem.run_pure, Result.andThen_ok, List.map_toArray, List.map_cons, List.map_nil, hs, hx, hr]
  exact hK _ _ (h v1 w1 hown (HB.grown hg hbase (fun k hk => (World.ownsRow.lt HO k hk).1)) hg hat)
/-- append(v, y) of one limb, behind 'at_builtin': the world is the old one and the box of y. -/
theorem append_num {w0 W : World} (B : Nat) (hgd : o.guard = none) (s x : Operand) (t : TypeId) (xs : List Int) (y : Int)
    (ho : o.op = .call { callee := .builtin .append, args := #[s, x], argTypes := #[t, t] })
    (ht : P.underlying t = some (.slice 100)) (hinfo : (P.info? 100).map (fun i => (i.zero, i.size, i.bytes)) = some (some (.int .u32 0), 1, 4))
    (v : Value) (hs : a.eval s = v) (hx : a.eval x = .slice (some ⟨W.heap.size, 0, none⟩) 1 1)
    (HO : Own W B v xs) (HB : Below B w0 W) (hbase : B ≤ W.heap.size) (hl : xs.length + 1 ≤ 35184372088832)
    (h : ∀ v1 w1, Own w1 B v1 (xs ++ [y]) → Below B w0 w1 → W.grownBy w1 v.ownBlock → (v1.ownBlock = v.ownBlock ∨ ∃ b, v1.ownBlock = some b ∧ W.heap.size ≤ b) → wpList P ops Q rest (a.put o.dst v1) w1) :
    wpList P ops Q (o :: rest) a (W.alloc (.cells #[.int .u32 y] 100)) := by
  obtain ⟨i0, hi, hzz⟩ := Option.map_eq_some_iff.1 hinfo
  simp only [Prod.mk.injEq] at hzz
  obtain ⟨hz0, hz1, hz2⟩ := hzz
  refine wpList_append_own_at (W.alloc (.cells #[.int .u32 y] 100)) hgd s x t ho B 100 i0 (.int .u32 0) 1 4 ht hi hz0 hz1 hz2 rfl (by omega) v xs.length (u32s xs) hs (HO.alloc _) ⟨W.heap.size, 0, none⟩ 1 1 [.int .u32 y] hx rfl
    (World.news_of_block (cs := #[.int .u32 y]) (t := 100) (fr := (0, 0)) (heap_alloc_new W _)) (by simp [Value.oneCell']) (by simp only [maxLen]; omega) (by omega) (by simp; omega) ?_
  intro v1 w1 hown hg _ hat
  refine h v1 w1 (by simpa [Own, u32s] using hown) ((HB.alloc hbase _).grown hg (by simp; omega) (fun k hk => (World.ownsRow.lt HO k hk).1)) (World.grownBy.trans (World.grownBy_alloc W _ _) hg) ?_
  rcases hat with hat | hat
  · exact .inl hat
  · exact .inr ⟨_, hat, by simp⟩
end
end Go.Proofs.Ytdbpjnjgjmfomaa

/- The program's natural numbers, first part: trim, Of, Norm, Bits, Cmp. -/
namespace Go.Proofs.Ytdbpjnjgjmfomaa
open Go.RowKit

/-- How many limbs are left without high zeros. -/
def trimLen : List Int → Nat
  | [] => 0
  | x :: t => if trimLen t = 0 then (if x = 0 then 0 else 1) else trimLen t + 1
theorem trimLen_le (l : List Int) : trimLen l ≤ l.length := by
  induction l with
  | nil => simp [trimLen]
  | cons x t ih => simp only [trimLen, List.length_cons]; split <;> (try split) <;> omega
theorem trimLen_snoc (l : List Int) (x : Int) : trimLen (l ++ [x]) = if x = 0 then trimLen l else l.length + 1 := by
  induction l with
  | nil => simp [trimLen]
  | cons y t ih =>
    simp only [List.cons_append, trimLen, ih, List.length_cons]
    by_cases h : x = 0
    · simp [h]
    · simp [h]
theorem trimLen_take (l : List Int) (n : Nat) (h : n < l.length) : trimLen (l.take (n + 1)) = if l.getD n 0 = 0 then trimLen (l.take n) else n + 1 := by
  rw [List.take_succ_eq_append_getElem h, trimLen_snoc, List.length_take, Nat.min_eq_left (by omega)]
  simp [List.getD_eq_getElem?_getD, List.getElem?_eq_getElem h]
theorem trim_top (l : List Int) : Top (l.take (trimLen l)) := by
  induction l with
  | nil => simp [trimLen, Top]
  | cons x t ih =>
    simp only [trimLen]
    by_cases h : trimLen t = 0
    · by_cases hx : x = 0
      · simp [h, hx, Top]
      · simp [h, hx, Top]
    · rw [if_neg h, List.take_succ_cons]
      intro y hy
      have hn : t.take (trimLen t) ≠ [] := by
        intro e
        have := congrArg List.length e
        rw [List.length_take, Nat.min_eq_left (trimLen_le t)] at this
        exact h (by simpa using this)
      obtain ⟨z, s, hz⟩ := List.exists_cons_of_ne_nil hn
      rw [hz, List.getLast?_cons_cons, ← hz] at hy
      exact ih y hy
theorem trim_val (l : List Int) : val (l.take (trimLen l)) = val l := by
  induction l with
  | nil => simp [trimLen]
  | cons x t ih =>
    simp only [trimLen]
    by_cases h : trimLen t = 0
    · rw [h] at ih
      by_cases hx : x = 0
      · simp [h, hx, val] at ih ⊢; omega
      · simp [h, hx, val] at ih ⊢; omega
    · rw [if_neg h, List.take_succ_cons, val, val, ih]
/-- The number that limbs denote. -/
def nv (l : List Int) : Nat := (val l).toNat
theorem nv_val {l : List Int} (h : Lim l) : (nv l : Int) = val l := by have := val_nonneg h; unfold nv; omega
theorem nv_dig (n : Nat) : nv (dig n) = n := by unfold nv; rw [val_dig]; omega
theorem nv_nil : nv [] = 0 := rfl
theorem trim_dig {l : List Int} (h : Lim l) : l.take (trimLen l) = dig (nv l) := by
  rw [eq_dig (h.take _) (trim_top l), trim_val]; rfl
theorem trim_len {l : List Int} (h : Lim l) : trimLen l = (dig (nv l)).length := by
  rw [← trim_dig h, List.length_take, Nat.min_eq_left (trimLen_le l)]
theorem dig_len_le {l : List Int} (h : Lim l) : (dig (nv l)).length ≤ l.length := by rw [← trim_len h]; exact trimLen_le l
theorem NumV.trim {S : Nat → Prop} {w : World} {A : Option Addr} {n c : Nat} {l : List Int} (h : NumV S w (.slice A n c) l) : NumV S w (.slice A (dig (nv l)).length (dig (nv l)).length) (dig (nv l)) := by
  have := h.take (trimLen l) (dig (nv l)).length (trimLen_le l) (by rw [trim_len h.1]; exact Nat.le_refl _)
  rwa [trim_dig h.1, trim_len h.1] at this

set_option maxHeartbeats 400000 in
theorem nat_trim0 {S : Nat → Prop} {A : Option Addr} {c : Nat} {l : List Int} (w : World) (ha : NumV S w (.slice A l.length c) l) (hm : l.length ≤ 70368744177664) :
    Calls Try.prog 93 #[.slice A l.length c] w fun e w' => e = .returned (.slice A (dig (nv l)).length (dig (nv l)).length) ∧ w' = w := by
  have hc := ha.len.2
  rw [← trim_len ha.1]
  go_enter Try.func93, Try.ntmps93
  go_wp2
  go_loop [3] (fun v => ∃ n : Nat, n ≤ l.length ∧ v = .int .i64 n ∧ As (trimLen (l.take n) = trimLen l)) (fun v => (intOf v).toNat)
  case atStart => exact ⟨l.length, Nat.le_refl _, rfl, ⟨by rw [List.take_length]⟩⟩
  case round =>
    obtain ⟨n, hn, rfl, HT⟩ := hrel
    cases n with
    | zero =>
      have e : As (trimLen l = 0) := ⟨by have := HT.out; simpa [trimLen] using this.symm⟩
      go_wp2
      go_ret
      exact ⟨by rw [e.out]; rfl, rfl⟩
    | succ n =>
      obtain ⟨ad, rfl, hcell⟩ := ha.at n (by omega)
      have HS := trimLen_take l n (by omega)
      by_cases hz : l.getD n 0 = 0
      · have HS : As (trimLen (l.take n) = trimLen l) := ⟨by rw [if_pos hz] at HS; rw [← HS]; exact HT.out⟩
        rw [hz] at hcell
        go_wp2
        go_round
        case rel => exact ⟨n, by omega, rfl, HS⟩
        case measure => simp [intOf]
      · have HS : As (n + 1 = trimLen l) := ⟨by rw [if_neg hz] at HS; rw [← HS]; exact HT.out⟩
        obtain ⟨x, hx⟩ : ∃ x, x = l.getD n 0 := ⟨_, rfl⟩
        rw [← hx] at hcell hz
        have hz' : (x == 0) = false := by simpa using hz
        clear hx
        go_wp2
        go_ret
        exact ⟨by rw [← HS.out]; rfl, rfl⟩
theorem nat_trim {S : Nat → Prop} {A : Option Addr} {c : Nat} {l : List Int} (w : World) (ha : NumV S w (.slice A l.length c) l) (hm : l.length ≤ 70368744177664) :
    Calls Try.prog 93 #[.slice A l.length c] w fun e w' => e = .returned (.slice A (dig (nv l)).length (dig (nv l)).length) ∧ Drawn w w' :=
  (nat_trim0 w ha hm).mono fun _ _ ⟨he, hw⟩ => ⟨he, by rw [hw]; exact Drawn.refl _⟩

theorem and_low (n : Int) (h0 : 0 ≤ n) (h1 : n < 18446744073709551616) : Go.bits .and .u64 n 4294967295 = n % 4294967296 := by
  rw [u64_and n 4294967295 h0 h1 (by omega) (by omega), show (4294967295 : Int).toNat = 4294967295 from rfl, nat_mask32]
  omega
theorem and_mod (n : Int) (h0 : 0 ≤ n) (h1 : n < 18446744073709551616) : Go.bits .and .u64 n 4294967295 % 4294967296 = n % 4294967296 := by rw [and_low n h0 h1]; omega
theorem or_join (x y : Int) (h0 : 0 ≤ x) (h1 : x < 18446744073709551616) (hx : x % 4294967296 = 0) (g0 : 0 ≤ y) (g1 : y < 4294967296) : Go.bits .or .u64 x y = x + y := by
  rw [u64_or x y h0 h1 g0 (by omega), nat_join 32 x.toNat y.toNat (by show x.toNat % 4294967296 = 0; omega) (by show y.toNat < 4294967296; omega)]
  omega

theorem of_limbs (n : Nat) (h : n < 18446744073709551616) : (dig (nv [(n : Int) % 4294967296, (n : Int) / 4294967296])) = dig n := by
  unfold nv
  simp only [val]
  congr 1
  omega
set_option maxHeartbeats 400000 in
theorem nat_Of (n : Nat) (w : World) (h : n < 18446744073709551616) :
    Calls Try.prog 86 #[.int .u64 n] w fun e w' => ∃ v, e = .returned v ∧ NumV (fun k => w.heap.size ≤ k) w' v (dig n) ∧ Below w.heap.size w w' := by
  go_enter Try.func86, Try.ntmps86
  go_wp2_with fail
  rw [and_low n (by omega) (by omega), show (n : Int) % 4294967296 % 4294967296 = (n : Int) % 4294967296 from by omega]
  have hl : Lim [(n : Int) % 4294967296, (n : Int) / 4294967296] := Lim.mk (by omega) (by omega) (Lim.mk (by omega) (by omega) Lim.nil)
  have H := (Own.lit w w.heap.size _ (Nat.le_refl _) (by simp)).num hl
  refine (nat_trim _ (l := [(n : Int) % 4294967296, (n : Int) / 4294967296]) H (by simp)).mono ?_
  rintro e w' ⟨rfl, ⟨m, rfl⟩⟩
  go_wp2_with fail
  go_ret
  refine ⟨_, rfl, ?_, ((Below.refl _ _).alloc (Nat.le_refl _) _).drewsN _⟩
  have := (H.trim.drewN m).mono (T := fun k => w.heap.size ≤ k) (fun k hk _ => hk.1)
  rwa [of_limbs n h] at this ⊢

set_option maxHeartbeats 400000 in
theorem nat_Norm {S : Nat → Prop} {v : Value} {l : List Int} (w : World) (ha : NumV S w v l) (hm : l.length ≤ 35184372088832) :
    Calls Try.prog 112 #[v] w fun e w' => ∃ v, e = .returned v ∧ Own w' w.heap.size v (dig (nv l)) ∧ Below w.heap.size w w' := by
  obtain ⟨hl, A, c, rfl, hc, hr⟩ := id ha
  go_enter Try.func112, Try.ntmps112
  go_wp2_with fail
  refine (nat_trim _ (ha.alloc _) (by omega)).mono ?_
  rintro e w' ⟨rfl, ⟨m, rfl⟩⟩
  have H := ((ha.alloc (Obj.cells #[] 100)).drewN m).trim
  have HL : (dig (nv l)).length ≤ 35184372088832 := Nat.le_trans (dig_len_le hl) hm
  go_wp2_with (at_builtin; refine append_nums (w0 := w) w.heap.size rfl _ _ 36 S [] (dig (nv l)) A _ _ rfl Try.underlying36 (by kernel_rfl) _ rfl rfl ((Own.lit w w.heap.size [] (Nat.le_refl _) (by simp)).drewN m) H (((Below.refl _ _).alloc (Nat.le_refl _) _).drewsN _) (by simp) (by simpa using HL) ?_; intro v1 w1 hown hb _ _)
  go_ret
  exact ⟨_, rfl, by simpa using hown, hb⟩

theorem dig_last_pos {n k : Nat} (h : (dig n).length = k + 1) : 0 < (dig n).getD k 0 ∧ (dig n).getD k 0 < 4294967296 := by
  have h1 := Lim.get (Lim_dig n) k
  have h2 := Top_dig n ((dig n).getD k 0) (by
    rw [List.getLast?_eq_getElem?, h, List.getD_eq_getElem?_getD, Nat.add_sub_cancel, List.getElem?_eq_getElem (by omega)]; rfl)
  omega
set_option maxHeartbeats 400000 in
theorem nat_Bits {S : Nat → Prop} {v : Value} {l : List Int} (w : World) (ha : NumV S w v l) (hm : l.length ≤ 35184372088832) :
    Calls Try.prog 84 #[v] w fun e w' => ∃ n : Nat, e = .returned (.int .i64 n) ∧ (n = 0 ↔ nv l = 0) ∧ Drawn w w' := by
  obtain ⟨hl, A, c, rfl, hc, hr⟩ := id ha
  go_enter Try.func84, Try.ntmps84
  go_wp2_with fail
  refine (nat_trim _ ha (by omega)).mono ?_
  rintro e w' ⟨rfl, ⟨m, rfl⟩⟩
  have H := (ha.drewN m).trim
  have HL : (dig (nv l)).length ≤ 35184372088832 := Nat.le_trans (dig_len_le hl) hm
  obtain ⟨N, hN⟩ : ∃ N, (dig (nv l)).length = N := ⟨_, rfl⟩
  rw [hN] at HL ⊢
  cases N with
  | zero =>
    have h0 : nv l = 0 := by
      have := congrArg nv (List.length_eq_zero_iff.1 hN)
      rwa [nv_dig] at this
    have h0 := As.mk h0
    clear hN H
    go_wp2_with fail
    go_ret
    exact ⟨0, rfl, by simp [h0.out], Drawn.refl _ |>.step _⟩
  | succ k =>
    have hp := dig_last_pos hN
    obtain ⟨ad, hA, hcell⟩ := H.at k (by omega)
    obtain ⟨x, hx⟩ : ∃ x, x = (dig (nv l)).getD k 0 := ⟨_, rfl⟩
    rw [← hx] at hcell hp
    have h0 : As (nv l ≠ 0) := ⟨fun e => by rw [e, dig_zero] at hN; simp at hN⟩
    subst hA
    clear hN H hx
    have hb := bitLen_bounds x.toNat (by omega) (by omega)
    have h1 := hb.1
    have h2 := hb.2.1
    clear hb
    go_wp2_with (go_at_call 111; refine (bits_Len32 x _ (by omega) (by omega)).mono ?_; rintro e w' ⟨rfl, rfl⟩)
    go_ret
    exact ⟨32 * k + Lib.bitLen x.toNat, ret_int (by omega), by have := h0.out; omega, Drawn.refl _ |>.step _⟩
end Go.Proofs.Ytdbpjnjgjmfomaa

/- The program's natural numbers, second part: Cmp, Add, Sub. -/
namespace Go.Proofs.Ytdbpjnjgjmfomaa
open Go.RowKit

/-- The order of two numbers, as Go's Cmp says it. -/
def cmpI (a b : Nat) : Int := if a < b then -1 else if a = b then 0 else 1
theorem powc (k : Nat) : ((4294967296 ^ k : Nat) : Int) = (4294967296 : Int) ^ k := by rw [Int.natCast_pow]; rfl
theorem bpos (k : Nat) : (0 : Int) < 4294967296 ^ k := Int.pow_pos (by omega)
theorem dig_ge {n k : Nat} (h : (dig n).length = k + 1) : 4294967296 ^ k ≤ n := by
  have h1 := val_take_drop (dig n) k (by omega)
  rw [val_dig] at h1
  have h2 := val_nonneg ((Lim_dig n).take k)
  have h3 := dig_last_pos h
  have h4 := val_drop (dig n) k (by omega)
  rw [List.drop_of_length_le (i := k + 1) (by omega), val_nil] at h4
  have h5 : (4294967296 : Int) ^ k ≤ 4294967296 ^ k * (dig n).getD k 0 := by
    have := Int.mul_le_mul_of_nonneg_left (show (1 : Int) ≤ (dig n).getD k 0 by omega) (Int.le_of_lt (bpos k))
    rwa [Int.mul_one] at this
  rw [h4] at h1
  have h6 := powc k
  have : (n : Int) ≥ 4294967296 ^ k := by
    have e : (4294967296 : Int) ^ k * ((dig n).getD k 0 + 4294967296 * 0) = 4294967296 ^ k * (dig n).getD k 0 := by rw [Int.mul_zero, Int.add_zero]
    omega
  omega
theorem dig_lt (n : Nat) : n < 4294967296 ^ (dig n).length := by
  have h := val_lt (Lim_dig n)
  rw [val_dig] at h
  have h6 := powc (dig n).length
  omega
theorem dig_len_lt {m n : Nat} (h : (dig m).length < (dig n).length) : m < n := by
  obtain ⟨k, hk⟩ : ∃ k, (dig n).length = k + 1 := ⟨(dig n).length - 1, by omega⟩
  have h1 := dig_ge hk
  have h2 := dig_lt m
  have h3 : 4294967296 ^ (dig m).length ≤ 4294967296 ^ k := Nat.pow_le_pow_right (by omega) (by omega)
  omega
/-- The highest limb that differs decides. -/
theorem cmp_at {x y : List Int} (hx : Lim x) (hy : Lim y) (hl : x.length = y.length) (k : Nat) (hk : k < x.length) (hd : x.drop (k + 1) = y.drop (k + 1)) (h : x.getD k 0 < y.getD k 0) : val x < val y := by
  have h1 := val_take_drop x k (by omega)
  have h2 := val_take_drop y k (by omega)
  rw [val_drop x k hk] at h1
  rw [val_drop y k (by omega), ← hd] at h2
  have h3 := val_lt (hx.take k)
  rw [List.length_take, Nat.min_eq_left (by omega)] at h3
  have h4 := val_nonneg (hy.take k)
  generalize val (x.drop (k + 1)) = D at h1 h2
  generalize x.getD k 0 = a at *
  generalize y.getD k 0 = b at *
  have h5 : (4294967296 : Int) ^ k * (a + 4294967296 * D) + 4294967296 ^ k ≤ 4294967296 ^ k * (b + 4294967296 * D) := by
    have := Int.mul_le_mul_of_nonneg_left (show a + 4294967296 * D + 1 ≤ b + 4294967296 * D by omega) (Int.le_of_lt (bpos k))
    rwa [Int.mul_add, Int.mul_one] at this
  omega
theorem cmpI_lt {x y : List Int} (hx : Lim x) (hy : Lim y) (h : val x < val y) : cmpI (nv x) (nv y) = -1 := by
  have := nv_val hx; have := nv_val hy
  unfold cmpI; rw [if_pos (by omega)]
theorem cmpI_gt {x y : List Int} (hx : Lim x) (hy : Lim y) (h : val y < val x) : cmpI (nv x) (nv y) = 1 := by
  have := nv_val hx; have := nv_val hy
  unfold cmpI; rw [if_neg (by omega), if_neg (by omega)]
theorem cmpI_eq (n : Nat) : cmpI n n = 0 := by unfold cmpI; rw [if_neg (by omega), if_pos rfl]

set_option maxHeartbeats 1000000 in
theorem nat_Cmp {S T : Nat → Prop} {v u : Value} {a b : List Int} (w : World) (ha : NumV S w v a) (hb : NumV T w u b) (hm : a.length ≤ 35184372088832) (hm' : b.length ≤ 35184372088832) :
    Calls Try.prog 95 #[v, u] w fun e w' => e = .returned (.int .i64 (cmpI (nv a) (nv b))) ∧ Drawn w w' := by
  obtain ⟨hla, A, c, rfl, hc, hr⟩ := id ha
  obtain ⟨hlb, B, c', rfl, hc', hr'⟩ := id hb
  go_enter Try.func95, Try.ntmps95
  go_wp2_with fail
  refine (nat_trim _ ha (by omega)).mono ?_
  rintro e w' ⟨rfl, ⟨m, rfl⟩⟩
  go_wp2_with fail
  refine (nat_trim _ (hb.drewN m) (by omega)).mono ?_
  rintro e w' ⟨rfl, ⟨m2, rfl⟩⟩
  rw [World.drewN_drewN]
  generalize m + m2 = m
  have HA := ha.trim
  have HB := hb.trim
  have HL : (dig (nv a)).length ≤ 35184372088832 := Nat.le_trans (dig_len_le hla) hm
  have HL' : (dig (nv b)).length ≤ 35184372088832 := Nat.le_trans (dig_len_le hlb) hm'
  obtain ⟨M, hM⟩ : ∃ M, (dig (nv a)).length = M := ⟨_, rfl⟩
  obtain ⟨N, hN⟩ : ∃ N, (dig (nv b)).length = N := ⟨_, rfl⟩
  rcases Nat.lt_trichotomy M N with h | h | h
  · have hc : As (cmpI (nv a) (nv b) = -1) := ⟨by have := dig_len_lt (m := nv a) (n := nv b) (by omega); unfold cmpI; rw [if_pos this]⟩
    rw [hM, hN]
    rw [hM] at HL
    rw [hN] at HL'
    clear hM hN HA HB
    go_wp2_with fail
    go_ret
    exact ⟨by rw [hc.out]; rfl, Drawn.refl _ |>.step _⟩
  · subst h
    rw [hM, hN]
    rw [hM] at HL
    clear HL'
    go_wp2_with fail
    go_loopw [7] (fun v wr => ∃ k : Nat, k ≤ M ∧ v = .int .i64 ((k : Int) - 1) ∧ As ((dig (nv a)).drop k = (dig (nv b)).drop k) ∧ Drawn w wr) (fun v _ => (intOf v + 1).toNat)
    case atStart => exact ⟨M, Nat.le_refl _, rfl, ⟨by rw [List.drop_of_length_le (by omega), List.drop_of_length_le (by omega)]⟩, Drawn.refl _ |>.step _⟩
    case round =>
      obtain ⟨k, hk, rfl, HD, ⟨q, rfl⟩⟩ := hrel
      cases k with
      | zero =>
        have hc : As (cmpI (nv a) (nv b) = 0) := ⟨by
          have := congrArg nv (HD.out)
          rw [List.drop_zero, List.drop_zero, nv_dig, nv_dig] at this
          rw [this, cmpI_eq]⟩
        clear hM hN HA HB
        go_wp2_with fail
        go_ret
        exact ⟨by rw [hc.out]; rfl, Drawn.refl _ |>.step _⟩
      | succ k =>
        obtain ⟨ad, hA, hca⟩ := HA.at k (by omega)
        obtain ⟨bd, hB, hcb⟩ := HB.at k (by omega)
        subst hA hB
        have hx := Lim.get (Lim_dig (nv a)) k
        have hy := Lim.get (Lim_dig (nv b)) k
        have HC : As ((dig (nv a)).getD k 0 < (dig (nv b)).getD k 0 → cmpI (nv a) (nv b) = -1) := ⟨fun h => by
          have := cmpI_lt (Lim_dig _) (Lim_dig _) (cmp_at (Lim_dig (nv a)) (Lim_dig (nv b)) (by omega) k (by omega) HD.out h)
          rwa [nv_dig, nv_dig] at this⟩
        have HC' : As ((dig (nv b)).getD k 0 < (dig (nv a)).getD k 0 → cmpI (nv a) (nv b) = 1) := ⟨fun h => by
          have := cmpI_gt (Lim_dig _) (Lim_dig _) (cmp_at (Lim_dig (nv b)) (Lim_dig (nv a)) (by omega) k (by omega) HD.out.symm h)
          rwa [nv_dig, nv_dig] at this⟩
        have HE : As ((dig (nv b)).getD k 0 = (dig (nv a)).getD k 0 → (dig (nv a)).drop k = (dig (nv b)).drop k) := ⟨fun h => by
          rw [List.drop_eq_getElem_cons (by omega), List.drop_eq_getElem_cons (l := dig (nv b)) (by omega), HD.out]
          rw [List.getD_eq_getElem?_getD, List.getD_eq_getElem?_getD, List.getElem?_eq_getElem (by omega), List.getElem?_eq_getElem (by omega)] at h
          have h : (dig (nv b))[k] = (dig (nv a))[k] := h
          rw [h]⟩
        generalize (dig (nv a)).getD k 0 = x at *
        generalize (dig (nv b)).getD k 0 = y at *
        clear hM hN HA HB HD
        rw [show (((k + 1 : Nat) : Int) - 1) = (k : Int) from by omega]
        have hca' : w.cell? (ad.add ((k : Int).toNat)) = some (.int .u32 x) := hca
        have hcb' : w.cell? (bd.add ((k : Int).toNat)) = some (.int .u32 y) := hcb
        have p1 := eq_true (show 0 ≤ (k : Int) by omega)
        have p2 := eq_true (show (k : Int) < (M : Int) by omega)
        rcases Int.lt_trichotomy x y with h | h | h
        · have hc := As.mk (HC.out h)
          go_wp2_with fail
          go_quiet (fail)
          go_wp2_with fail
          go_ret
          exact ⟨by rw [hc.out]; rfl, ((Drawn.refl _).step _).step _⟩
        · have hc := As.mk (HE.out h.symm)
          subst h
          go_wp2_with fail
          go_quiet (fail)
          go_wp2_with fail
          go_quiet (fail)
          go_wp2_with fail
          go_roundw
          case rel => exact ⟨k, by omega, rfl, hc, by repeat (first | exact Drawn.refl _ | apply Drawn.step)⟩
          case measure => simp [intOf]
        · have hc := As.mk (HC'.out h)
          go_wp2_with fail
          go_quiet (fail)
          go_wp2_with fail
          go_quiet (fail)
          go_wp2_with fail
          go_ret
          exact ⟨by rw [hc.out]; rfl, (((Drawn.refl _).step _).step _).step _⟩
  · have hc : As (cmpI (nv a) (nv b) = 1) := ⟨by have := dig_len_lt (m := nv b) (n := nv a) (by omega); unfold cmpI; rw [if_neg (by omega), if_neg (by omega)]⟩
    rw [hM, hN]
    rw [hM] at HL
    rw [hN] at HL'
    clear hM hN HA HB
    go_wp2_with fail
    go_ret
    exact ⟨by rw [hc.out]; rfl, Drawn.refl _ |>.step _⟩
end Go.Proofs.Ytdbpjnjgjmfomaa

/- Sums, differences and products of lists of limbs: plain mathematics. -/
namespace Go.Proofs.Ytdbpjnjgjmfomaa

theorem top_of_ge {l : List Int} {k : Nat} (h : Lim l) (hk : l.length = k + 1) (hv : (4294967296 : Int) ^ k ≤ val l) : Top l := by
  intro x hx e
  subst e
  have h1 := val_take_drop l k (by omega)
  have h2 := val_lt (h.take k)
  rw [List.length_take, Nat.min_eq_left (by omega)] at h2
  have h3 : l.drop k = [0] := by
    rw [List.getLast?_eq_getElem?, hk, Nat.add_sub_cancel, List.getElem?_eq_getElem (by omega)] at hx
    injection hx with hx
    rw [List.drop_eq_getElem_cons (by omega), hx, List.drop_of_length_le (by omega)]
  rw [h3] at h1
  simp only [val, Int.mul_zero, Int.add_zero] at h1
  omega
theorem eq_dig_of {l : List Int} {n : Nat} (h : Lim l) (hv : val l = n) (hk : l = [] ∨ ∃ k, l.length = k + 1 ∧ 4294967296 ^ k ≤ n) : l = dig n := by
  have ht : Top l := by
    rcases hk with rfl | ⟨k, hk, hn⟩
    · exact Top.nil
    · exact top_of_ge h hk (by have := powc k; omega)
  rw [eq_dig h ht, hv]; rfl
theorem dig_len_mono {m n : Nat} (h : m ≤ n) : (dig m).length ≤ (dig n).length := by
  rcases Nat.lt_or_ge (dig n).length (dig m).length with h1 | h1
  · have := dig_len_lt h1; omega
  · exact h1
theorem getD_ge (y : List Int) (k : Nat) (h : y.length ≤ k) : y.getD k 0 = 0 := by
  rw [List.getD_eq_getElem?_getD, List.getElem?_eq_none h]; rfl
theorem val_take_succ' (l : List Int) (i : Nat) : val (l.take (i + 1)) = val (l.take i) + 4294967296 ^ i * l.getD i 0 := by
  rcases Nat.lt_or_ge i l.length with h | h
  · exact val_take_succ l i h
  · rw [List.take_of_length_le (by omega), List.take_of_length_le h, getD_ge l i h]; omega

/-- A sum of limbs, k rounds on. -/
def AddInv (x y : List Int) (k : Nat) (c : Int) (out : List Int) : Prop :=
  out.length = k ∧ Lim out ∧ 0 ≤ c ∧ c ≤ 1 ∧ val out + 4294967296 ^ k * c = val (x.take k) + val (y.take k)
theorem AddInv.zero (x y : List Int) : AddInv x y 0 0 [] := ⟨rfl, Lim.nil, by omega, by omega, by simp [val]⟩
theorem AddInv.step {x y : List Int} {k : Nat} {c : Int} {out : List Int} (h : AddInv x y k c out) {t : Int} (ht : t = c + x.getD k 0 + y.getD k 0) (hx : Lim x) (hy : Lim y) :
    AddInv x y (k + 1) (t / 4294967296) (out ++ [t % 4294967296]) := by
  obtain ⟨h1, h2, h3, h4, h5⟩ := h
  have hx := hx.get k
  have hy := hy.get k
  refine ⟨by simp [h1], h2.append (Lim.mk (by omega) (by omega) Lim.nil), by omega, by omega, ?_⟩
  rw [val_snoc, h1, val_take_succ', val_take_succ', Int.pow_succ]
  have e : t % 4294967296 = t - 4294967296 * (t / 4294967296) := by omega
  rw [e, ht]
  grind
theorem AddInv.done {p q : Nat} {c : Int} {out : List Int} (h : AddInv (dig p) (dig q) (dig p).length c out) (hl : (dig q).length ≤ (dig p).length) :
    (c = 0 → out = dig (p + q)) ∧ (c ≠ 0 → out ++ [c % 4294967296] = dig (p + q)) := by
  obtain ⟨h1, h2, h3, h4, h5⟩ := h
  rw [List.take_of_length_le (Nat.le_refl _), List.take_of_length_le hl, val_dig, val_dig] at h5
  constructor
  · rintro rfl
    refine eq_dig_of h2 (by omega) ?_
    rcases hk : out with _ | ⟨z, s⟩
    · exact .inl rfl
    · refine .inr ⟨s.length, rfl, ?_⟩
      have h6 : (dig p).length = s.length + 1 := by rw [← h1, hk]; rfl
      have := dig_ge h6
      omega
  · intro hc
    have e : c = 1 := by omega
    subst e
    refine eq_dig_of (h2.append (Lim.mk (by omega) (by omega) Lim.nil)) ?_ (.inr ⟨(dig p).length, by simp [h1], ?_⟩)
    · rw [val_snoc, h1]
      have : (1 : Int) % 4294967296 = 1 := by omega
      rw [this]; omega
    · have h6 := powc (dig p).length
      have h7 := val_nonneg h2
      rw [Int.mul_one] at h5
      omega

theorem take_set_succ (l : List Int) (k : Nat) (v : Int) (h : k < l.length) : val ((l.set k v).take (k + 1)) = val (l.take k) + 4294967296 ^ k * v := by
  rw [val_take_succ _ k (by simpa using h), List.take_set_of_le (Nat.le_refl k)]
  congr 2
  rw [List.getD_eq_getElem?_getD, List.getElem?_set_self h]; rfl
/-- A difference of limbs, k rounds on. -/
def SubInv (x y : List Int) (k : Nat) (b : Int) (out : List Int) : Prop :=
  out.length = x.length ∧ Lim out ∧ 0 ≤ b ∧ b ≤ 1 ∧ val (out.take k) + val (y.take k) = val (x.take k) + 4294967296 ^ k * b
theorem SubInv.zero (x y : List Int) : SubInv x y 0 0 (List.replicate x.length 0) := ⟨by simp, Lim.zeros _, by omega, by omega, by simp [val]⟩
theorem SubInv.step {x y : List Int} {k : Nat} {b : Int} {out : List Int} (h : SubInv x y k b out) (hk : k < x.length) : ∀ d b' : Int, d + (b + y.getD k 0) = x.getD k 0 + 4294967296 * b' → 0 ≤ d → d < 4294967296 → 0 ≤ b' → b' ≤ 1 → SubInv x y (k + 1) b' (out.set k d) := by
  intro d b' hd h0 h1 g0 g1
  obtain ⟨h1, h2, h3, h4, h5⟩ := h
  refine ⟨by simp [h1], h2.set k h0 (by omega), g0, g1, ?_⟩
  rw [take_set_succ out k d (by omega), val_take_succ', val_take_succ', Int.pow_succ]
  have e : x.getD k 0 = d + (b + y.getD k 0) - 4294967296 * b' := by omega
  rw [e]
  grind
theorem SubInv.done {p q : Nat} {b : Int} {out : List Int} (h : SubInv (dig p) (dig q) (dig p).length b out) (hq : q ≤ p) : dig (nv out) = dig (p - q) := by
  obtain ⟨h1, h2, h3, h4, h5⟩ := h
  rw [List.take_of_length_le (Nat.le_of_eq h1), List.take_of_length_le (dig_len_mono hq), List.take_of_length_le (Nat.le_refl _), val_dig, val_dig] at h5
  have h6 := val_lt h2
  rw [h1] at h6
  have h7 := val_nonneg h2
  have : b = 0 := by
    by_cases hb : b < 1
    · omega
    · have : b = 1 := by omega
      subst this
      omega
  subst this
  congr 1
  unfold nv
  omega

/-- A product of limbs: i rounds of the outer loop and k of the inner one on. -/
def MulInv (x y : List Int) (i k : Nat) (c : Int) (out : List Int) : Prop :=
  out.length = x.length + y.length ∧ Lim out ∧ 0 ≤ c ∧ c < 4294967296 ∧ out.getD (i + y.length) 0 = 0 ∧
  val out + 4294967296 ^ (i + k) * c = val (x.take i) * val y + 4294967296 ^ i * (x.getD i 0 * val (y.take k))
def MulOut (x y : List Int) (i : Nat) (out : List Int) : Prop :=
  out.length = x.length + y.length ∧ Lim out ∧ val out = val (x.take i) * val y
theorem getD_set (l : List Int) (i j : Nat) (v : Int) (h : i ≠ j) : (l.set i v).getD j 0 = l.getD j 0 := by
  rw [List.getD_eq_getElem?_getD, List.getElem?_set_ne h, ← List.getD_eq_getElem?_getD]
theorem getD_of_lt {l : List Int} {j : Nat} (h : Lim l) (hv : val l < 4294967296 ^ j) : l.getD j 0 = 0 := by
  rcases Nat.lt_or_ge j l.length with hj | hj
  · have h1 := val_take_drop l j (by omega)
    have h2 := val_drop l j hj
    have h3 := val_nonneg (h.drop (j + 1))
    have h4 := val_nonneg (h.take j)
    have h5 := h.get j
    rw [h2] at h1
    by_cases h6 : l.getD j 0 < 1
    · omega
    · have h7 := Int.mul_le_mul_of_nonneg_left (show (1 : Int) ≤ l.getD j 0 + 4294967296 * val (l.drop (j + 1)) by omega) (Int.le_of_lt (bpos j))
      omega
  · exact getD_ge _ _ hj
theorem MulOut.zero (x y : List Int) : MulOut x y 0 (List.replicate (x.length + y.length) 0) := ⟨by simp, Lim.zeros _, by rw [val_zeros]; simp [val]⟩
theorem MulOut.start {x y : List Int} {i : Nat} {out : List Int} (h : MulOut x y i out) (hi : i ≤ x.length) (hx : Lim x) (hy : Lim y) : MulInv x y i 0 0 out := by
  obtain ⟨h1, h2, h3⟩ := h
  refine ⟨h1, h2, by omega, by omega, getD_of_lt h2 ?_, by simp [h3, val]⟩
  rw [h3, Int.pow_add]
  have h4 := val_lt (hx.take i)
  rw [List.length_take, Nat.min_eq_left hi] at h4
  have h5 := val_lt hy
  have h6 := val_nonneg (hx.take i)
  have h7 := val_nonneg hy
  exact Int.lt_of_le_of_lt (Int.mul_le_mul_of_nonneg_left (Int.le_of_lt h5) h6) (Int.mul_lt_mul_of_pos_right h4 (bpos _))
theorem MulInv.step {x y : List Int} {i k : Nat} {c : Int} {out : List Int} (h : MulInv x y i k c out) (hi : i < x.length) (hk : k < y.length) {t : Int} (ht : t = c + (x.getD i 0 * y.getD k 0 + out.getD (i + k) 0)) (h0 : 0 ≤ t) (h1 : t < 18446744073709551616) :
    MulInv x y i (k + 1) (t / 4294967296) (out.set (i + k) (t % 4294967296)) := by
  obtain ⟨h1, h2, h3, h4, h5, h6⟩ := h
  refine ⟨by simp [h1], h2.set _ (by omega) (by omega), by omega, by omega, ?_, ?_⟩
  · rw [getD_set _ _ _ _ (by omega)]; exact h5
  · rw [val_set _ _ _ (by omega), val_take_succ']
    have e : t % 4294967296 = t - 4294967296 * (t / 4294967296) := by omega
    have e2 : i + (k + 1) = (i + k) + 1 := by omega
    rw [e, e2, Int.pow_succ, ht]
    rw [Int.pow_add] at h6 ⊢
    grind
theorem MulInv.bound {x y : List Int} {i k : Nat} {c : Int} {out : List Int} (h : MulInv x y i k c out) (hx : Lim x) (hy : Lim y) :
    0 ≤ x.getD i 0 * y.getD k 0 ∧ x.getD i 0 * y.getD k 0 ≤ 18446744065119617025 ∧ 0 ≤ c ∧ c < 4294967296 ∧ 0 ≤ out.getD (i + k) 0 ∧ out.getD (i + k) 0 < 4294967296 := by
  have h1 := hx.get i
  have h2 := hy.get k
  have h3 := h.2.1.get (i + k)
  refine ⟨Int.mul_nonneg h1.1 h2.1, ?_, h.2.2.1, h.2.2.2.1, h3.1, h3.2⟩
  have := Int.mul_le_mul (show x.getD i 0 ≤ 4294967295 by omega) (show y.getD k 0 ≤ 4294967295 by omega) h2.1 (by omega)
  omega
theorem MulInv.stop {x y : List Int} {i : Nat} {c : Int} {out : List Int} (h : MulInv x y i y.length c out) (hi : i < x.length) : MulOut x y (i + 1) (out.set (i + y.length) c) := by
  obtain ⟨h1, h2, h3, h4, h5, h6⟩ := h
  refine ⟨by simp [h1], h2.set _ h3 h4, ?_⟩
  rw [val_set _ _ _ (by omega), h5, val_take_succ _ _ hi]
  rw [List.take_of_length_le (Nat.le_refl _)] at h6
  grind
theorem MulOut.done {p q : Nat} {out : List Int} (h : MulOut (dig p) (dig q) (dig p).length out) : dig (nv out) = dig (p * q) := by
  obtain ⟨h1, h2, h3⟩ := h
  rw [List.take_of_length_le (Nat.le_refl _), val_dig, val_dig] at h3
  congr 1
  unfold nv
  rw [h3]
  have : ((p * q : Nat) : Int) = (p : Int) * q := by push_cast; rfl
  omega
end Go.Proofs.Ytdbpjnjgjmfomaa

/- The program's natural numbers, third part: Add. -/
namespace Go.Proofs.Ytdbpjnjgjmfomaa
open Go.RowKit

set_option maxHeartbeats 2000000 in
set_option maxRecDepth 100000 in
theorem nat_Add {S T : Nat → Prop} {v u : Value} {a b : List Int} (w : World) (ha : NumV S w v a) (hb : NumV T w u b) (hm : a.length ≤ 35184372088831) (hm' : b.length ≤ 35184372088831) :
    Calls Try.prog 91 #[v, u] w fun e w' => ∃ r, e = .returned r ∧ Own w' w.heap.size r (dig (nv a + nv b)) ∧ Below w.heap.size w w' := by
  obtain ⟨hla, A, c, rfl, hc, hr⟩ := id ha
  obtain ⟨hlb, B, c', rfl, hc', hr'⟩ := id hb
  have HL : (dig (nv a)).length ≤ 35184372088831 := Nat.le_trans (dig_len_le hla) hm
  have HL' : (dig (nv b)).length ≤ 35184372088831 := Nat.le_trans (dig_len_le hlb) hm'
  have HA := ha.trim
  have HB := hb.trim
  go_enter Try.func91, Try.ntmps91
  go_wp2_with fail
  refine (nat_trim _ ha (by omega)).mono ?_
  rintro e w' ⟨rfl, ⟨m, rfl⟩⟩
  go_wp2_with fail
  refine (nat_trim _ (hb.drewN m) (by omega)).mono ?_
  rintro e w' ⟨rfl, ⟨m2, rfl⟩⟩
  rw [World.drewN_drewN]
  generalize m + m2 = m
  clear ha hb hr hr' hc hc'
  go_upto_if 19 with (fail)
  go_cut [5, 6] (fun v5 v6 wc => ∃ p q A B, v5 = .slice A (dig p).length (dig p).length ∧ v6 = .slice B (dig q).length (dig q).length ∧ NumV All w v5 (dig p) ∧ NumV All w v6 (dig q) ∧ As ((dig q).length ≤ (dig p).length ∧ p + q = nv a + nv b ∧ (dig p).length ≤ 35184372088831) ∧ Drawn w wc)
  case first =>
    rcases Nat.lt_or_ge (dig (nv a)).length (dig (nv b)).length with h | h
    · go_wp2_with fail
      go_meet
      case rel => exact ⟨_, _, _, _, rfl, rfl, HB.all, HA.all, ⟨by omega, by omega, HL'⟩, (Drawn.refl _).step _⟩
    · go_wp2_with fail
      go_meet
      case rel => exact ⟨_, _, _, _, rfl, rfl, HA.all, HB.all, ⟨by omega, by omega, HL⟩, (Drawn.refl _).step _⟩
  case rest =>
    obtain ⟨p, q, A', B', rfl, rfl, HP, HQ, HE, ⟨n, rfl⟩⟩ := hcut
    have HS := As.mk HE.out.2.1
    have h1 := HE.out.1
    have h2 := HE.out.2.2
    clear HA HB HL HL' HE hm hm'
    obtain ⟨P, hP⟩ : ∃ P, (dig p).length = P := ⟨_, rfl⟩
    obtain ⟨Q, hQ⟩ : ∃ Q, (dig q).length = Q := ⟨_, rfl⟩
    rw [hP, hQ] at h1
    rw [hP] at h2
    have HI : As (∀ c out, AddInv (dig p) (dig q) P c out → (c = 0 → out = dig (nv a + nv b)) ∧ (c ≠ 0 → out ++ [c % 4294967296] = dig (nv a + nv b))) := ⟨fun c out h => by
      subst hP hQ
      rw [← HS.out]
      exact h.done (by omega)⟩
    rw [hP] at HP ⊢
    rw [hQ] at HQ ⊢
    have hP := As.mk hP
    have hQ := As.mk hQ
    have hmk : ∀ W, (Instr.makeSlice 36 (.int .i64 0) (.int .i64 ((P : Int) + 1))).run Try.prog W = .ok (.slice (some ⟨W.heap.size, 0, none⟩) 0 (P + 1)) (W.alloc (.cells (madeCells #[.int .u32 0] (P + 1)) 100)) :=
      fun W => make_nums 36 Try.underlying36 (by kernel_rfl) 0 (P + 1) (by omega) (by omega) W
    go_wp2_with fail
    clear hmk
    have HO := Own.room (w.drewN n) w.heap.size (P + 1) (by simp) (by omega)
    go_loopw [7, 8, 28] (fun v7 v8 v28 wr => ∃ (k : Nat) (x : Int) (out : List Int), k ≤ P ∧ v28 = .int .i64 k ∧ v8 = .int .u64 x ∧ As (AddInv (dig p) (dig q) k x out) ∧ Own wr w.heap.size v7 out ∧ Below w.heap.size w wr) (fun _ _ v28 _ => P - (intOf v28).toNat)
    case atStart => exact ⟨0, 0, [], by omega, rfl, rfl, ⟨AddInv.zero _ _⟩, HO, ((Below.refl _ _).drewsN _).alloc (by simp) _⟩
    case round =>
      obtain ⟨k, x, out, hk, rfl, rfl, HJ, hown, hbel⟩ := hrel
      have hx0 := HJ.out.2.2.1
      have hx1 := HJ.out.2.2.2.1
      by_cases hlt : k < P
      · have hP' := hP.out
        have hQ' := hQ.out
        obtain ⟨ad, hA, hca⟩ := (HP.below hbel).at k (by omega)
        subst hA
        have hX := Lim.get (Lim_dig p) k
        have hlen := HJ.out.1
        by_cases hq : k < Q
        · obtain ⟨bd, hB, hcb⟩ := (HQ.below hbel).at k (by omega)
          subst hB
          have hY := Lim.get (Lim_dig q) k
          have HN := As.mk (fun t ht => HJ.out.step (t := t) ht (Lim_dig p) (Lim_dig q))
          generalize (dig p).getD k 0 = X at *
          generalize (dig q).getD k 0 = Y at *
          have hlen := As.mk hlen
          clear hP' hQ' HJ
          go_wp2_with (at_builtin; refine append_num (w0 := w) w.heap.size rfl _ _ 36 out _ rfl Try.underlying36 (by kernel_rfl) _ rfl rfl hown hbel (by have := hbel.size; omega) (by have := hlen.out; omega) ?_; intro v1 w1 hown1 hb1 _ _)
          rw [and_mod _ (by omega) (by omega)] at hown1
          go_roundw
          case rel => exact ⟨k + 1, _, _, hlt, by go_num, rfl, ⟨HN.out _ rfl⟩, hown1, hb1⟩
          case measure => simp [intOf]; omega
        · have hY : (dig q).getD k 0 = 0 := getD_ge _ _ (by omega)
          have HN := As.mk (fun t ht => HJ.out.step (t := t) ht (Lim_dig p) (Lim_dig q))
          rw [hY] at HN
          generalize (dig p).getD k 0 = X at *
          have hlen := As.mk hlen
          clear hP' hQ' HJ hY
          go_wp2_with (at_builtin; refine append_num (w0 := w) w.heap.size rfl _ _ 36 out _ rfl Try.underlying36 (by kernel_rfl) _ rfl rfl hown hbel (by have := hbel.size; omega) (by have := hlen.out; omega) ?_; intro v1 w1 hown1 hb1 _ _)
          rw [and_mod _ (by omega) (by omega)] at hown1
          go_roundw
          case rel => exact ⟨k + 1, _, _, hlt, by go_num, rfl, ⟨HN.out _ (by omega)⟩, hown1, hb1⟩
          case measure => simp [intOf]; omega
      · obtain rfl : k = P := by omega
        have hF := HI.out x out HJ.out
        have hlen := As.mk HJ.out.1
        clear HJ HI
        by_cases hx : x = 0
        · have hG := As.mk (hF.1 hx)
          clear hF
          subst hx
          go_wp2_with fail
          go_ret
          exact ⟨_, rfl, by rw [← hG.out]; exact hown, hbel⟩
        · have hF := hF.2 hx
          rw [show x % 4294967296 = x from by omega] at hF
          have hF := As.mk hF
          go_wp2_with (at_builtin; refine append_num (w0 := w) w.heap.size rfl _ _ 36 out _ rfl Try.underlying36 (by kernel_rfl) _ rfl rfl hown hbel (by have := hbel.size; omega) (by have := hlen.out; omega) ?_; intro v1 w1 hown1 hb1 _ _)
          go_ret
          exact ⟨_, rfl, by rw [← hF.out]; exact hown1, hb1⟩
end Go.Proofs.Ytdbpjnjgjmfomaa

/- The program's natural numbers, fourth part: Sub, Mul. -/
namespace Go.Proofs.Ytdbpjnjgjmfomaa
open Go.RowKit

theorem cmpI_nonneg {a b : Nat} (h : b ≤ a) : 0 ≤ cmpI a b := by unfold cmpI; rw [if_neg (by omega)]; split <;> omega
theorem cmpI_le (a b : Nat) : cmpI a b ≤ 1 ∧ -1 ≤ cmpI a b := by unfold cmpI; split <;> (try split) <;> omega
theorem cmpI_neg {a b : Nat} (h : a < b) : cmpI a b = -1 := by unfold cmpI; rw [if_pos h]

set_option maxHeartbeats 2000000 in
set_option maxRecDepth 100000 in
theorem nat_Sub_no {S T : Nat → Prop} {v u : Value} {a b : List Int} (w : World) (ha : NumV S w v a) (hb : NumV T w u b) (hm : a.length ≤ 35184372088831) (hm' : b.length ≤ 35184372088831) (hlt : nv a < nv b) :
    Calls Try.prog 92 #[v, u] w fun e w' => e = .returned (.tuple #[.slice none 0 0, .bool false]) ∧ Drawn w w' := by
  obtain ⟨hla, A, c, rfl, hc, hr⟩ := id ha
  obtain ⟨hlb, B, c', rfl, hc', hr'⟩ := id hb
  have HL : (dig (nv a)).length ≤ 35184372088831 := Nat.le_trans (dig_len_le hla) hm
  have HL' : (dig (nv b)).length ≤ 35184372088831 := Nat.le_trans (dig_len_le hlb) hm'
  have HA := ha.trim
  have HB := hb.trim
  have hC := As.mk (cmpI_neg hlt)
  clear hlt
  go_enter Try.func92, Try.ntmps92
  go_wp2_with fail
  refine (nat_trim _ ha (by omega)).mono ?_
  rintro e w' ⟨rfl, ⟨m, rfl⟩⟩
  go_wp2_with fail
  refine (nat_trim _ (hb.drewN m) (by omega)).mono ?_
  rintro e w' ⟨rfl, ⟨m2, rfl⟩⟩
  go_wp2_with fail
  refine (nat_Cmp _ (HA.drewN _) (HB.drewN _) (by omega) (by omega)).mono ?_
  rintro e w' ⟨rfl, ⟨m3, rfl⟩⟩
  rw [nv_dig, nv_dig, hC.out]
  go_wp2_with fail
  go_ret2
  exact ⟨rfl, by repeat (first | exact Drawn.refl _ | apply Drawn.step)⟩

set_option maxHeartbeats 2000000 in
set_option maxRecDepth 100000 in
theorem nat_Sub {S T : Nat → Prop} {v u : Value} {a b : List Int} (w : World) (ha : NumV S w v a) (hb : NumV T w u b) (hm : a.length ≤ 35184372088831) (hm' : b.length ≤ 35184372088831) (hle : nv b ≤ nv a) :
    Calls Try.prog 92 #[v, u] w fun e w' => ∃ r, e = .returned (.tuple #[r, .bool true]) ∧ NumV (fun k => w.heap.size ≤ k) w' r (dig (nv a - nv b)) ∧ Below w.heap.size w w' := by
  obtain ⟨hla, A, c, rfl, hc, hr⟩ := id ha
  obtain ⟨hlb, B, c', rfl, hc', hr'⟩ := id hb
  have HL : (dig (nv a)).length ≤ 35184372088831 := Nat.le_trans (dig_len_le hla) hm
  have HL' : (dig (nv b)).length ≤ 35184372088831 := Nat.le_trans (dig_len_le hlb) hm'
  have HA := ha.trim
  have HB := hb.trim
  have h1 := dig_len_mono hle
  have hC := cmpI_nonneg hle
  have hC' := (cmpI_le (nv a) (nv b)).1
  have hF : As (∀ b' out, SubInv (dig (nv a)) (dig (nv b)) (dig (nv a)).length b' out → dig (nv out) = dig (nv a - nv b)) := ⟨fun _ _ h => h.done hle⟩
  have hN := As.mk (And.intro (nv_dig (nv a)) (nv_dig (nv b)))
  clear hle
  go_enter Try.func92, Try.ntmps92
  go_wp2_with fail
  refine (nat_trim _ ha (by omega)).mono ?_
  rintro e w' ⟨rfl, ⟨m, rfl⟩⟩
  go_wp2_with fail
  refine (nat_trim _ (hb.drewN m) (by omega)).mono ?_
  rintro e w' ⟨rfl, ⟨m2, rfl⟩⟩
  go_wp2_with fail
  refine (nat_Cmp _ (HA.drewN _) (HB.drewN _) (by omega) (by omega)).mono ?_
  rintro e w' ⟨rfl, ⟨m3, rfl⟩⟩
  rw [hN.out.1, hN.out.2]
  obtain ⟨C, hCC⟩ : ∃ C, C = cmpI (nv a) (nv b) := ⟨_, rfl⟩
  rw [← hCC] at hC hC' ⊢
  have hlx := As.mk (Lim_dig (nv a))
  have hly := As.mk (Lim_dig (nv b))
  generalize hx : dig (nv a) = x at *
  generalize hy : dig (nv b) = y at *
  clear hCC ha hb hr hr' hN hx hy
  obtain ⟨P, hP⟩ : ∃ P, x.length = P := ⟨_, rfl⟩
  obtain ⟨Q, hQ⟩ : ∃ Q, y.length = Q := ⟨_, rfl⟩
  rw [hP, hQ] at h1
  rw [hP] at HL HA hF ⊢
  rw [hQ] at HL' HB ⊢
  have hP := As.mk hP
  have hQ := As.mk hQ
  rw [World.drewN_drewN]
  generalize m + m2 + m3 = m
  have hmk : ∀ W, (Instr.makeSlice 36 (.int .i64 (P : Int)) (.int .i64 (P : Int))).run Try.prog W = .ok (.slice (some ⟨W.heap.size, 0, none⟩) P P) (W.alloc (.cells (madeCells #[.int .u32 0] P) 100)) :=
    fun W => make_nums 36 Try.underlying36 (by kernel_rfl) P P (by omega) (by omega) W
  go_wp2_with fail
  clear hmk
  have HO := Own.made (w.drewN m) w.heap.size P (by simp) (by omega)
  rw [show (w.drewN m).heap.size = w.heap.size from rfl] at HO
  go_loopw [9, 27] (fun v9 v27 wr => ∃ (k : Nat) (x9 : Int) (out : List Int), k ≤ P ∧ v27 = .int .i64 k ∧ v9 = .int .u64 x9 ∧ As (SubInv x y k x9 out) ∧ Own wr w.heap.size (.slice (some ⟨w.heap.size, 0, none⟩) P P) out ∧ Below w.heap.size w wr) (fun _ v27 _ => P - (intOf v27).toNat)
  case atStart => exact ⟨0, 0, List.replicate P 0, by omega, rfl, rfl, ⟨by rw [← hP.out]; exact SubInv.zero _ _⟩, HO, ((Below.refl _ _).drewsN _).alloc (by simp) _⟩
  case round =>
    obtain ⟨k, z, out, hk, rfl, rfl, HJ, hown, hbel⟩ := hrel
    have hx0 := HJ.out.2.2.1
    have hx1 := HJ.out.2.2.2.1
    have hlen := As.mk HJ.out.1
    by_cases hlt : k < P
    · obtain ⟨ad, hA, hca⟩ := (HA.below hbel).at k (by have := hP.out; omega)
      subst hA
      have hX := hlx.out.get k
      obtain ⟨hcg, hfg⟩ := hown.cell k (by have := hP.out; have := hlen.out; omega)
      have HN := As.mk (HJ.out.step (by have := hP.out; omega))
      have hst := As.mk (fun x => Own.store hown k x)
      by_cases hq : k < Q
      · obtain ⟨bd, hB, hcb⟩ := (HB.below hbel).at k (by have := hQ.out; omega)
        subst hB
        have hY := hly.out.get k
        generalize x.getD k 0 = X at *
        generalize y.getD k 0 = Y at *
        generalize out.getD k 0 = O at *
        clear HJ
        by_cases hb : X < z + Y
        · go_wp2_with fail
          go_roundw
          case rel => exact ⟨k + 1, _, _, hlt, by go_num, rfl, ⟨HN.out (X + 4294967296 - (z + Y)) 1 (by omega) (by omega) (by omega) (by omega) (by omega)⟩, hst.out _, hbel.setCell (Nat.le_refl _) _⟩
          case measure => simp [intOf]; omega
        · go_wp2_with fail
          go_roundw
          case rel => exact ⟨k + 1, _, _, hlt, by go_num, rfl, ⟨HN.out (X - (z + Y)) 0 (by omega) (by omega) (by omega) (by omega) (by omega)⟩, hst.out _, hbel.setCell (Nat.le_refl _) _⟩
          case measure => simp [intOf]; omega
      · have hY : y.getD k 0 = 0 := getD_ge _ _ (by have := hQ.out; omega)
        rw [hY] at HN
        generalize x.getD k 0 = X at *
        generalize out.getD k 0 = O at *
        clear HJ hY
        by_cases hb : X < z
        · go_wp2_with fail
          go_roundw
          case rel => exact ⟨k + 1, _, _, hlt, by go_num, rfl, ⟨HN.out (X + 4294967296 - z) 1 (by omega) (by omega) (by omega) (by omega) (by omega)⟩, hst.out _, hbel.setCell (Nat.le_refl _) _⟩
          case measure => simp [intOf]; omega
        · go_wp2_with fail
          go_roundw
          case rel => exact ⟨k + 1, _, _, hlt, by go_num, rfl, ⟨HN.out (X - z) 0 (by omega) (by omega) (by omega) (by omega) (by omega)⟩, hst.out _, hbel.setCell (Nat.le_refl _) _⟩
          case measure => simp [intOf]; omega
    · obtain rfl : k = P := by omega
      have hG := As.mk (hF.out z out HJ.out)
      have hlim := As.mk HJ.out.2.1
      have hnum := hown.num hlim.out
      have hlen2 : out.length = k := by have := hP.out; have := hlen.out; omega
      rw [← hlen2] at hnum hk
      clear hF HJ
      go_wp2_with fail
      rw [← hlen2]
      refine (nat_trim _ hnum (by omega)).mono ?_
      rintro e w' ⟨rfl, ⟨m4, rfl⟩⟩
      have hres := (hnum.trim.drewN m4).mono (T := fun k => w.heap.size ≤ k) (fun k hk _ => hk.1)
      rw [hG.out] at hres ⊢
      clear hlen2
      go_wp2_with fail
      go_ret2
      exact ⟨_, rfl, hres, hbel.drewsN _⟩
end Go.Proofs.Ytdbpjnjgjmfomaa

/- The program's natural numbers, fifth part: Mul. -/
namespace Go.Proofs.Ytdbpjnjgjmfomaa
open Go.RowKit

theorem dig_nil_iff (n : Nat) : (dig n).length = 0 ↔ n = 0 := by
  constructor
  · intro h
    have := congrArg nv (List.length_eq_zero_iff.1 h)
    rwa [nv_dig] at this
  · rintro rfl
    rw [dig_zero]; rfl

set_option maxHeartbeats 4000000 in
set_option maxRecDepth 100000 in
theorem nat_Mul {S T : Nat → Prop} {v u : Value} {a b : List Int} (w : World) (ha : NumV S w v a) (hb : NumV T w u b) (hm : a.length + b.length ≤ 35184372088831) :
    Calls Try.prog 57 #[v, u] w fun e w' => ∃ r, e = .returned r ∧ NumV (fun k => w.heap.size ≤ k) w' r (dig (nv a * nv b)) ∧ Below w.heap.size w w' := by
  obtain ⟨hla, A, c, rfl, hc, hr⟩ := id ha
  obtain ⟨hlb, B, c', rfl, hc', hr'⟩ := id hb
  have HL := dig_len_le hla
  have HL' := dig_len_le hlb
  have HA := ha.trim
  have HB := hb.trim
  have hF : As (∀ out, MulOut (dig (nv a)) (dig (nv b)) (dig (nv a)).length out → dig (nv out) = dig (nv a * nv b)) := ⟨fun _ h => h.done⟩
  have hZ : As ((dig (nv a)).length = 0 ∨ (dig (nv b)).length = 0 → dig (nv a * nv b) = []) := ⟨fun h => by
    rw [dig_nil_iff, dig_nil_iff] at h
    rcases h with h | h <;> rw [h] <;> simp [dig_zero]⟩
  have hlx := As.mk (Lim_dig (nv a))
  have hly := As.mk (Lim_dig (nv b))
  go_enter Try.func57, Try.ntmps57
  go_wp2_with fail
  refine (nat_trim _ ha (by omega)).mono ?_
  rintro e w' ⟨rfl, ⟨m, rfl⟩⟩
  go_wp2_with fail
  refine (nat_trim _ (hb.drewN m) (by omega)).mono ?_
  rintro e w' ⟨rfl, ⟨m2, rfl⟩⟩
  rw [World.drewN_drewN]
  generalize m + m2 = m
  have HLL : (dig (nv a)).length + (dig (nv b)).length ≤ 35184372088831 := by omega
  generalize hx : dig (nv a) = x at *
  generalize hy : dig (nv b) = y at *
  clear ha hb hr hr' hx hy HL HL'
  obtain ⟨P, hP⟩ : ∃ P, x.length = P := ⟨_, rfl⟩
  obtain ⟨Q, hQ⟩ : ∃ Q, y.length = Q := ⟨_, rfl⟩
  rw [hP, hQ] at HLL hZ
  rw [hP] at HA hF ⊢
  rw [hQ] at HB ⊢
  replace hP := As.mk hP
  replace hQ := As.mk hQ
  rcases Nat.eq_zero_or_pos P with hp | hp
  · subst hp
    have hZ0 := As.mk (hZ.out (.inl rfl))
    clear hZ
    go_wp2_with fail
    go_ret
    exact ⟨_, rfl, by rw [hZ0.out]; exact NumV.nil _ _, (Below.refl _ _).drewsN _⟩
  rcases Nat.eq_zero_or_pos Q with hq | hq
  · subst hq
    have hZ0 := As.mk (hZ.out (.inr rfl))
    clear hZ
    go_wp2_with fail
    go_ret
    exact ⟨_, rfl, by rw [hZ0.out]; exact NumV.nil _ _, (Below.refl _ _).drewsN _⟩
  clear hZ
  have hmk : ∀ W, (Instr.makeSlice 36 (.int .i64 ((P : Int) + Q)) (.int .i64 ((P : Int) + Q))).run Try.prog W = .ok (.slice (some ⟨W.heap.size, 0, none⟩) (P + Q) (P + Q)) (W.alloc (.cells (madeCells #[.int .u32 0] (P + Q)) 100)) :=
    fun W => make_nums 36 Try.underlying36 (by kernel_rfl) (P + Q) (P + Q) (by omega) (by omega) W
  have hpb : ((P : Int) == 0) = false := beq_eq_false_iff_ne.2 (by omega)
  have hqb : ((Q : Int) == 0) = false := beq_eq_false_iff_ne.2 (by omega)
  go_wp2_with fail
  clear hmk
  have HO := Own.made (w.drewN m) w.heap.size (P + Q) (by simp) (by omega)
  rw [show (w.drewN m).heap.size = w.heap.size from rfl] at HO
  go_loopw [33] (fun v33 wr => ∃ (i : Nat) (out : List Int), i ≤ P ∧ v33 = .int .i64 i ∧ As (MulOut x y i out) ∧ Own wr w.heap.size (.slice (some ⟨w.heap.size, 0, none⟩) (P + Q) (P + Q)) out ∧ Below w.heap.size w wr) (fun v33 _ => P - (intOf v33).toNat)
  case atStart => exact ⟨0, _, by omega, rfl, ⟨by rw [← hP.out, ← hQ.out]; exact MulOut.zero _ _⟩, HO, ((Below.refl _ _).drewsN _).alloc (by simp) _⟩
  case round =>
    obtain ⟨i, out, hi, rfl, HJ, hown, hbel⟩ := hrel
    obtain ⟨wo, rfl⟩ : ∃ wo : World, wo = wr := ⟨_, rfl⟩
    by_cases hlt : i < P
    · obtain ⟨ad, hA, hca⟩ := (HA.below hbel).at i (by have := hP.out; omega)
      subst hA
      have hX := hlx.out.get i
      have HS := As.mk (HJ.out.start (by have := hP.out; omega) hlx.out hly.out)
      have hie := As.mk (show i < x.length by have := hP.out; omega)
      clear HJ HO
      obtain ⟨X, hXe⟩ : ∃ X, X = x.getD i 0 := ⟨_, rfl⟩
      rw [← hXe] at hca hX
      replace hXe := As.mk hXe
      go_wp2_with fail
      go_loopw [10, 40] (fun v10 v40 wr => ∃ (k : Nat) (z : Int) (out : List Int), k ≤ Q ∧ v40 = .int .i64 k ∧ v10 = .int .u64 z ∧ As (MulInv x y i k z out) ∧ Own wr w.heap.size (.slice (some ⟨w.heap.size, 0, none⟩) (P + Q) (P + Q)) out ∧ Below w.heap.size w wr) (fun _ v40 _ => Q - (intOf v40).toNat)
      case atStart => exact ⟨0, 0, out, by omega, rfl, rfl, HS, hown, hbel⟩
      case round =>
        clear HS hown hbel hca
        obtain ⟨k, z, out, hk, rfl, rfl, HJ, hown, hbel⟩ := hrel
        by_cases hlk : k < Q
        · obtain ⟨bd, hB, hcb⟩ := (HB.below hbel).at k (by have := hQ.out; omega)
          subst hB
          have hY := hly.out.get k
          obtain ⟨b1, b2, b3, b4, b5, b6⟩ := HJ.out.bound hlx.out hly.out
          obtain ⟨hcg, hfg⟩ := hown.cell (i + k) (by have := hP.out; have := hQ.out; have := HJ.out.1; omega)
          have HN := As.mk (fun t => HJ.out.step (t := t) hie.out (by have := hQ.out; omega))
          have hst := As.mk (fun x => Own.store hown (i + k) x)
          rw [← hXe.out] at b1 b2 HN
          generalize y.getD k 0 = Y at *
          generalize out.getD (i + k) 0 = O at *
          obtain ⟨Z, hZ⟩ : ∃ Z, X * Y = Z := ⟨_, rfl⟩
          rw [hZ] at b1 b2 HN
          have hw : IntKind.u64.wrap (X * Y) = Z := by rw [hZ, IntKind.wrap_u64]; omega
          replace hZ := As.mk hZ
          clear HJ
          go_wp2_with fail
          rw [and_mod _ (by omega) (by omega)]
          go_roundw
          case rel => exact ⟨k + 1, _, _, hlk, by go_num, rfl, ⟨HN.out _ rfl (by omega) (by omega)⟩, hst.out _, hbel.setCell (Nat.le_refl _) _⟩
          case measure => simp [intOf]; omega
        · obtain rfl : k = Q := by omega
          obtain ⟨hcg, hfg⟩ := hown.cell (i + k) (by have := hP.out; have := hQ.out; have := HJ.out.1; omega)
          have hst := As.mk (fun x => Own.store hown (i + k) x)
          have hz0 := HJ.out.2.2.1
          have hz1 := HJ.out.2.2.2.1
          have HN := As.mk (by have h := HJ.out; rw [← hQ.out] at h; exact h.stop hie.out)
          rw [hQ.out] at HN
          generalize out.getD (i + k) 0 = O at *
          clear HJ
          go_wp2_with fail
          go_roundw
          case rel => exact ⟨i + 1, _, hlt, by go_num, HN, hst.out _, hbel.setCell (Nat.le_refl _) _⟩
          case measure => simp [intOf]; omega
    · obtain rfl : i = P := by omega
      have hG := As.mk (hF.out out HJ.out)
      have hlim := As.mk HJ.out.2.1
      have hnum := hown.num hlim.out
      have hlen2 : out.length = i + Q := by have := hP.out; have := hQ.out; have := HJ.out.1; omega
      rw [← hlen2] at hnum HLL
      clear hF HJ hown HO
      go_wp2_with fail
      rw [← hlen2]
      refine (nat_trim _ hnum (by omega)).mono ?_
      rintro e w' ⟨rfl, ⟨m4, rfl⟩⟩
      have hres := (hnum.trim.drewN m4).mono (T := fun k => w.heap.size ≤ k) (fun k hk _ => hk.1)
      rw [hG.out] at hres ⊢
      clear hlen2
      go_wp2_with fail
      go_ret
      exact ⟨_, rfl, hres, hbel.drewsN _⟩
end Go.Proofs.Ytdbpjnjgjmfomaa

/- Division of lists of limbs: plain mathematics. -/
namespace Go.Proofs.Ytdbpjnjgjmfomaa

theorem set_drop_self (l : List Int) (k : Nat) (v : Int) (h : k < l.length) : (l.set k v).drop k = v :: l.drop (k + 1) := by
  rw [List.drop_eq_getElem_cons (by simpa using h), List.getElem_set_self, List.drop_set_of_lt (by omega)]
/-- Division by a limb, the limbs from k on done. -/
def DivInv (a : List Int) (d : Int) (k : Nat) (r : Int) (out : List Int) : Prop :=
  out.length = a.length ∧ Lim out ∧ 0 ≤ r ∧ r < d ∧ val (out.drop k) * d + r = val (a.drop k)
theorem DivInv.start (a : List Int) (d : Int) (hd : 0 < d) : DivInv a d a.length 0 (List.replicate a.length 0) :=
  ⟨by simp, Lim.zeros _, by omega, hd, by rw [List.drop_of_length_le (by simp), List.drop_of_length_le (by simp)]; simp [val]⟩
theorem DivInv.step {a : List Int} {d : Int} {k : Nat} {r : Int} {out : List Int} (h : DivInv a d (k + 1) r out) (hk : k < a.length) (ha : Lim a) {t : Int} (ht : t = r * 4294967296 + a.getD k 0) :
    DivInv a d k (t % d) (out.set k (t / d)) ∧ 0 ≤ t / d ∧ t / d < 4294967296 ∧ 0 ≤ t % d ∧ t % d < d := by
  obtain ⟨h1, h2, h3, h4, h5⟩ := h
  have hx := ha.get k
  have g0 : 0 ≤ t / d := Int.ediv_nonneg (by omega) (by omega)
  have g1 : t / d < 4294967296 := Int.ediv_lt_of_lt_mul (by omega) (by omega)
  have g2 : 0 ≤ t % d := Int.emod_nonneg _ (by omega)
  have g3 : t % d < d := Int.emod_lt_of_pos _ (by omega)
  refine ⟨⟨by simp [h1], h2.set k g0 g1, g2, g3, ?_⟩, g0, g1, g2, g3⟩
  rw [set_drop_self out k _ (by omega), val_cons, val_drop a k hk, ← h5]
  have e := Int.mul_ediv_add_emod t d
  have e2 : t % d = t - d * (t / d) := by omega
  rw [e2, ht]
  grind
theorem DivInv.done {a out : List Int} {d r : Int} (h : DivInv a d 0 r out) (ha : Lim a) : dig (nv out) = dig (nv a / d.toNat) ∧ r = (nv a % d.toNat : Nat) := by
  obtain ⟨h1, h2, h3, h4, h5⟩ := h
  rw [List.drop_zero, List.drop_zero] at h5
  have ea := nv_val ha
  have eo := nv_val h2
  rw [← ea, ← eo] at h5
  obtain ⟨D, rfl⟩ : ∃ D : Nat, d = D := ⟨d.toNat, by omega⟩
  obtain ⟨R, rfl⟩ : ∃ R : Nat, r = R := ⟨r.toNat, by omega⟩
  rw [Int.toNat_natCast]
  have h6 : nv out * D + R = nv a := by exact_mod_cast h5
  have h7 : nv a / D = nv out := by
    rw [← h6, Nat.add_comm, Nat.add_mul_div_right _ _ (by omega), Nat.div_eq_of_lt (by omega)]; omega
  have h8 : nv a % D = R := by
    rw [← h6, Nat.add_comm, Nat.add_mul_mod_self_right, Nat.mod_eq_of_lt (by omega)]
  rw [h7, h8]
  exact ⟨rfl, rfl⟩

/-- A shift upwards by less than a limb, k limbs done. -/
def UpInv (a : List Int) (p : Int) (k : Nat) (c : Int) (out : List Int) : Prop :=
  out.length = a.length + 1 ∧ Lim out ∧ 0 ≤ c ∧ c < p ∧ val (out.take k) + 4294967296 ^ k * c = p * val (a.take k)
theorem UpInv.start (a : List Int) (p : Int) (hp : 0 < p) : UpInv a p 0 0 (List.replicate (a.length + 1) 0) := ⟨by simp, Lim.zeros _, by omega, hp, by simp [val]⟩
theorem UpInv.step {a : List Int} {p : Int} {k : Nat} {c : Int} {out : List Int} (h : UpInv a p k c out) (hk : k < a.length) (ha : Lim a) {t : Int} (ht : t = c + a.getD k 0 * p) :
    UpInv a p (k + 1) (t / 4294967296) (out.set k (t % 4294967296)) := by
  obtain ⟨h1, h2, h3, h4, h5⟩ := h
  have hx := ha.get k
  have h6 : a.getD k 0 * p ≤ 4294967295 * p := Int.mul_le_mul_of_nonneg_right (by omega) (by omega)
  have h7 : 0 ≤ a.getD k 0 * p := Int.mul_nonneg hx.1 (by omega)
  refine ⟨by simp [h1], h2.set k (by omega) (by omega), by omega, by omega, ?_⟩
  rw [take_set_succ out k _ (by omega), val_take_succ a k hk, Int.pow_succ]
  have e : t % 4294967296 = t - 4294967296 * (t / 4294967296) := by omega
  rw [e, ht]
  grind
theorem UpInv.done {a : List Int} {p c : Int} {out : List Int} (h : UpInv a p a.length c out) (hc : c < 4294967296) : (out.set a.length c).length = a.length + 1 ∧ Lim (out.set a.length c) ∧ val (out.set a.length c) = p * val a := by
  obtain ⟨h1, h2, h3, h4, h5⟩ := h
  refine ⟨by simp [h1], h2.set _ h3 hc, ?_⟩
  have := take_set_succ out a.length c (by omega)
  rw [List.take_of_length_le (by simp [h1])] at this
  rw [List.take_of_length_le (Nat.le_refl _)] at h5
  rw [this, h5]

/-- A shift downwards by less than a limb (p = 2^n, B = p * c), k limbs done. -/
def DownInv (a : List Int) (p : Int) (k : Nat) (out : List Int) : Prop :=
  out.length = a.length ∧ Lim out ∧ p * val (out.take k) + a.getD 0 0 % p = val (a.take k) + 4294967296 ^ k * (a.getD k 0 % p)
theorem DownInv.start (a : List Int) (p : Int) : DownInv a p 0 (List.replicate a.length 0) := ⟨by simp, Lim.zeros _, by simp [val]⟩
theorem down_limb {p c x y : Int} (hp : 0 < p) (hc : p * c = 4294967296) (hx : 0 ≤ x) (hx1 : x < 4294967296) (_hy : 0 ≤ y) : p * ((x + y * 4294967296) / p % 4294967296) = x - x % p + 4294967296 * (y % p) := by
  have c0 : 0 < c := by
    rcases Int.lt_trichotomy c 0 with h | h | h
    · have := Int.mul_neg_of_pos_of_neg hp h; omega
    · subst h; omega
    · exact h
  have e1 : (x + y * 4294967296) / p = x / p + y * c := by
    rw [← hc, show x + y * (p * c) = x + p * (y * c) from by grind, Int.add_mul_ediv_left _ _ (by omega)]
  have e2 : y * c = (y % p) * c + 4294967296 * (y / p) := by
    have := Int.mul_ediv_add_emod y p
    have e : y = p * (y / p) + y % p := by omega
    rw [← hc]
    generalize y / p = s at *
    generalize y % p = r at *
    rw [e]; grind
  have r0 : 0 ≤ y % p := Int.emod_nonneg _ (by omega)
  have r1 : y % p < p := Int.emod_lt_of_pos _ hp
  have x0 : 0 ≤ x / p := Int.ediv_nonneg hx (by omega)
  have x1 : x / p < c := Int.ediv_lt_of_lt_mul hp (by rw [Int.mul_comm]; omega)
  have s1 : (y % p) * c ≤ (p - 1) * c := Int.mul_le_mul_of_nonneg_right (by omega) (by omega)
  have s0 : 0 ≤ (y % p) * c := Int.mul_nonneg r0 (by omega)
  have e3 : (x / p + y * c) % 4294967296 = x / p + (y % p) * c := by
    rw [e2, ← Int.add_assoc, Int.add_mul_emod_self_left, Int.emod_eq_of_lt (by omega) (by rw [Int.sub_mul, hc] at s1; omega)]
  rw [e1, e3]
  have := Int.mul_ediv_add_emod x p
  grind
theorem DownInv.step {a : List Int} {p c : Int} {k : Nat} {out : List Int} (h : DownInv a p k out) (hk : k < a.length) (ha : Lim a) (hp : 0 < p) (hc : p * c = 4294967296) {t : Int} (ht : t = (a.getD k 0 + a.getD (k + 1) 0 * 4294967296) / p % 4294967296) :
    DownInv a p (k + 1) (out.set k t) := by
  obtain ⟨h1, h2, h3⟩ := h
  have hx := ha.get k
  have hy := ha.get (k + 1)
  have hl := down_limb hp hc hx.1 hx.2 hy.1
  rw [← ht] at hl
  refine ⟨by simp [h1], h2.set k (by omega) (by omega), ?_⟩
  rw [take_set_succ out k t (by omega), val_take_succ a k hk, Int.pow_succ]
  grind
theorem DownInv.done {a : List Int} {p : Int} {out : List Int} (h : DownInv a p a.length out) (ha : Lim a) (hp : 0 < p) : dig (nv out) = dig (nv a / p.toNat) := by
  obtain ⟨h1, h2, h3⟩ := h
  rw [List.take_of_length_le (Nat.le_of_eq h1), List.take_of_length_le (Nat.le_refl _), getD_ge a a.length (Nat.le_refl _)] at h3
  have ea := nv_val ha
  have eo := nv_val h2
  have g0 : 0 ≤ a.getD 0 0 % p := Int.emod_nonneg _ (by omega)
  have g1 : a.getD 0 0 % p < p := Int.emod_lt_of_pos _ hp
  simp only [Int.zero_emod, Int.mul_zero, Int.add_zero] at h3
  generalize a.getD 0 0 % p = r at *
  obtain ⟨P, rfl⟩ : ∃ P : Nat, p = P := ⟨p.toNat, by omega⟩
  obtain ⟨R, rfl⟩ : ∃ R : Nat, r = R := ⟨r.toNat, by omega⟩
  rw [← ea, ← eo] at h3
  have h6 : P * nv out + R = nv a := by exact_mod_cast h3
  congr 1
  rw [Int.toNat_natCast, ← h6, Nat.add_comm, Nat.add_mul_div_left _ _ (by omega), Nat.div_eq_of_lt (by omega)]; omega

/-- What the guess of a quotient digit is: the greatest digit that the highest limbs let in. -/
def GuessP (u2 u1 u0 v1 v0 d : Int) : Prop :=
  0 ≤ d ∧ d ≤ 4294967295 ∧ d * (v1 * 4294967296 + v0) ≤ (u2 * 4294967296 + u1) * 4294967296 + u0 ∧
  ∀ q : Int, q ≤ 4294967295 → q * (v1 * 4294967296 + v0) ≤ (u2 * 4294967296 + u1) * 4294967296 + u0 → q ≤ d
/-- The same, on the way. -/
def GuessInv (u2 u1 u0 v1 v0 d r : Int) : Prop :=
  0 ≤ d ∧ d ≤ 4294967297 ∧ 0 ≤ r ∧ d * v1 + r = u2 * 4294967296 + u1 ∧
  ∀ q : Int, q ≤ 4294967295 → q * (v1 * 4294967296 + v0) ≤ (u2 * 4294967296 + u1) * 4294967296 + u0 → q ≤ d
section
variable {u2 u1 u0 v1 v0 d r : Int}
theorem GuessInv.start (h2 : 0 ≤ u2) (h2' : u2 ≤ v1) (h1 : 0 ≤ u1) (h1' : u1 < 4294967296) (h0 : 0 ≤ u0) (h0' : u0 < 4294967296) (g1 : 2147483648 ≤ v1) (g1' : v1 < 4294967296) (g0 : 0 ≤ v0) :
    GuessInv u2 u1 u0 v1 v0 ((u2 * 4294967296 + u1) / v1) ((u2 * 4294967296 + u1) % v1) := by
  have e := Int.mul_ediv_add_emod (u2 * 4294967296 + u1) v1
  have r0 := Int.emod_nonneg (u2 * 4294967296 + u1) (show v1 ≠ 0 by omega)
  have r1 := Int.emod_lt_of_pos (u2 * 4294967296 + u1) (show 0 < v1 by omega)
  have d0 := Int.ediv_nonneg (show 0 ≤ u2 * 4294967296 + u1 by omega) (show 0 ≤ v1 by omega)
  generalize (u2 * 4294967296 + u1) / v1 = d at *
  generalize (u2 * 4294967296 + u1) % v1 = r at *
  refine ⟨d0, ?_, r0, by rw [Int.mul_comm]; exact e, ?_⟩
  · by_cases h : d ≤ 4294967297
    · exact h
    · have := Int.mul_le_mul_of_nonneg_left (show (4294967298 : Int) ≤ d by omega) (show 0 ≤ v1 by omega)
      omega
  · intro q hq hle
    by_cases h : q ≤ d
    · exact h
    · exfalso
      have h3 := Int.mul_le_mul_of_nonneg_right (show d + 1 ≤ q by omega) (show 0 ≤ v1 * 4294967296 + v0 by omega)
      have h4 : (d + 1) * (v1 * 4294967296 + v0) = (v1 * d + v1) * 4294967296 + (d + 1) * v0 := by grind
      have h5 : 0 ≤ (d + 1) * v0 := Int.mul_nonneg (by omega) g0
      omega
theorem GuessInv.stop (h : GuessInv u2 u1 u0 v1 v0 d r) (hd : d ≤ 4294967295) (hc : d * v0 ≤ r * 4294967296 + u0) : GuessP u2 u1 u0 v1 v0 d := by
  obtain ⟨h1, h2, h3, h4, h5⟩ := h
  refine ⟨h1, hd, ?_, h5⟩
  rw [← h4]
  have : d * (v1 * 4294967296 + v0) = d * v1 * 4294967296 + d * v0 := by grind
  omega
theorem GuessInv.less (h : GuessInv u2 u1 u0 v1 v0 d r) (g1 : 2147483648 ≤ v1) (_g0 : 0 ≤ v0) (h0 : 0 ≤ u0) (hc : 4294967295 < d ∨ r * 4294967296 + u0 < d * v0) : GuessInv u2 u1 u0 v1 v0 (d - 1) (r + v1) := by
  obtain ⟨h1, h2, h3, h4, h5⟩ := h
  have hd : 1 ≤ d := by
    by_cases hd : 1 ≤ d
    · exact hd
    · have : d = 0 := by omega
      subst this
      omega
  refine ⟨by omega, by omega, by omega, by rw [← h4]; grind, ?_⟩
  intro q hq hle
  have := h5 q hq hle
  rcases hc with hc | hc
  · omega
  · by_cases e : q = d
    · exfalso
      subst e
      rw [← h4] at hle
      have : q * (v1 * 4294967296 + v0) = q * v1 * 4294967296 + q * v0 := by grind
      omega
    · omega
theorem GuessInv.brk (h : GuessInv u2 u1 u0 v1 v0 d r) (h2 : u2 ≤ v1) (h1 : u1 < 4294967296) (h0 : 0 ≤ u0) (g1 : 2147483648 ≤ v1) (g1' : v1 < 4294967296) (g0 : 0 ≤ v0) (g0' : v0 < 4294967296) (hr : 4294967295 < r) (hr' : r ≤ 4294967295 + v1) : GuessP u2 u1 u0 v1 v0 d := by
  obtain ⟨i1, i2, i3, i4, i5⟩ := h
  have hd : d ≤ 4294967295 := by
    by_cases hd : d ≤ 4294967295
    · exact hd
    · exfalso
      have := Int.mul_le_mul_of_nonneg_right (show (4294967296 : Int) ≤ d by omega) (show 0 ≤ v1 by omega)
      omega
  refine ⟨i1, hd, ?_, i5⟩
  rw [← i4]
  have e : d * (v1 * 4294967296 + v0) = d * v1 * 4294967296 + d * v0 := by grind
  have l : d * v0 ≤ 4294967295 * 4294967295 := by
    have := Int.mul_le_mul hd (show v0 ≤ 4294967295 by omega) g0 (by omega)
    exact this
  omega
end
end Go.Proofs.Ytdbpjnjgjmfomaa

/- The program's natural numbers, sixth part: divSmall, guess. -/
namespace Go.Proofs.Ytdbpjnjgjmfomaa
open Go.RowKit

set_option maxHeartbeats 4000000 in
set_option maxRecDepth 100000 in
theorem nat_divSmall {S : Nat → Prop} {v : Value} {a : List Int} {d : Int} (w : World) (ha : NumV S w v a) (hm : a.length ≤ 35184372088831) (h0 : 0 < d) (h1 : d < 4294967296) :
    Calls Try.prog 113 #[v, .int .u32 d] w fun e w' => ∃ q r, e = .returned (.tuple #[q, .int .u32 r]) ∧ NumV (fun k => w.heap.size ≤ k) w' q (dig (nv a / d.toNat)) ∧ r = (nv a % d.toNat : Nat) ∧ Below w.heap.size w w' := by
  obtain ⟨hla, A, c, rfl, hc, hr⟩ := id ha
  have hF : As (∀ r out, DivInv a d 0 r out → dig (nv out) = dig (nv a / d.toNat) ∧ r = (nv a % d.toNat : Nat)) := ⟨fun _ _ h => h.done hla⟩
  have hT : As (∀ r out k, DivInv a d (k + 1) r out → k < a.length → ∀ t, t = r * 4294967296 + a.getD k 0 → _) := ⟨fun _ _ _ h hk t ht => h.step hk hla ht⟩
  have hlx := As.mk hla
  have hS := As.mk (DivInv.start a d h0)
  obtain ⟨P, hP⟩ : ∃ P, a.length = P := ⟨_, rfl⟩
  rw [hP] at ha hm hc hS ⊢
  replace hP := As.mk hP
  clear hr hla
  have hd0 : (d == 0) = false := beq_eq_false_iff_ne.2 (by omega)
  go_enter Try.func113, Try.ntmps113
  have hmk : ∀ W, (Instr.makeSlice 36 (.int .i64 (P : Int)) (.int .i64 (P : Int))).run Try.prog W = .ok (.slice (some ⟨W.heap.size, 0, none⟩) P P) (W.alloc (.cells (madeCells #[.int .u32 0] P) 100)) :=
    fun W => make_nums 36 Try.underlying36 (by kernel_rfl) P P (by omega) (by omega) W
  go_wp2_with fail
  clear hmk
  have HO := Own.made w w.heap.size P (Nat.le_refl _) (by omega)
  go_loopw [7, 8] (fun v7 v8 wr => ∃ (k : Nat) (r : Int) (out : List Int), k ≤ P ∧ v8 = .int .i64 ((k : Int) - 1) ∧ v7 = .int .u64 r ∧ As (DivInv a d k r out) ∧ Own wr w.heap.size (.slice (some ⟨w.heap.size, 0, none⟩) P P) out ∧ Below w.heap.size w wr) (fun _ v8 _ => (intOf v8 + 1).toNat)
  case atStart => exact ⟨P, 0, _, Nat.le_refl _, rfl, rfl, ⟨by rw [← hP.out]; rw [← hP.out] at hS; exact hS.out⟩, HO, (Below.refl _ _).alloc (Nat.le_refl _) _⟩
  case round =>
    obtain ⟨k, r, out, hk, rfl, rfl, HJ, hown, hbel⟩ := hrel
    have r0 := HJ.out.2.2.1
    have r1 := HJ.out.2.2.2.1
    cases k with
    | zero =>
      have hG := As.mk (hF.out _ _ HJ.out)
      have hnum := hown.num HJ.out.2.1
      have hlen2 : out.length = P := by have := hP.out; have := HJ.out.1; omega
      rw [← hlen2] at hnum hm
      clear hF HJ hown HO hT hS
      go_wp2_with fail
      rw [← hlen2]
      refine (nat_trim _ hnum (by omega)).mono ?_
      rintro e w' ⟨rfl, ⟨m4, rfl⟩⟩
      have hres := (hnum.trim.drewN m4).mono (T := fun k => w.heap.size ≤ k) (fun k hk _ => hk.1)
      rw [hG.out.1] at hres ⊢
      clear hlen2
      go_wp2_with fail
      go_ret2
      exact ⟨_, _, rfl, hres, hG.out.2, hbel.drewsN _⟩
    | succ k =>
      rw [show (((k + 1 : Nat) : Int) - 1) = (k : Int) from by omega]
      obtain ⟨ad, hA, hca⟩ := (ha.below hbel).at k (by have := hP.out; omega)
      subst hA
      have hX := hlx.out.get k
      obtain ⟨hcg, hfg⟩ := hown.cell k (by have := hP.out; have := HJ.out.1; omega)
      have HN := hT.out _ _ _ HJ.out (by have := hP.out; omega)
      have hst := As.mk (fun x => Own.store hown k x)
      generalize a.getD k 0 = X at *
      generalize out.getD k 0 = O at *
      obtain ⟨t, ht⟩ : ∃ t, r * 4294967296 + X = t := ⟨_, rfl⟩
      obtain ⟨HN, t0, t1, t2, t3⟩ := HN t ht.symm
      have hj : Go.bits .or .u64 (r * 4294967296) X = t := by rw [or_join _ _ (by omega) (by omega) (by omega) hX.1 hX.2, ht]
      have t4 : 0 ≤ t := by omega
      replace HN := As.mk HN
      replace ht := As.mk ht
      clear HJ hT hF hS
      go_wp2_with fail
      rw [show IntKind.u64.wrap (t.tdiv d) % 4294967296 = t / d from by rw [Int.tdiv_eq_ediv_of_nonneg t4, IntKind.wrap_u64]; omega]
      go_roundw
      case rel => exact ⟨k, _, _, by omega, rfl, rfl, HN, hst.out _, hbel.setCell (Nat.le_refl _) _⟩
      case measure => simp [intOf]

theorem guess_min {u2 u1 u0 v1 v0 d : Int} (h : GuessP u2 u1 u0 v1 v0 d) : 0 ≤ d ∧ d ≤ 4294967295 := ⟨h.1, h.2.1⟩
set_option maxHeartbeats 4000000 in
set_option maxRecDepth 100000 in
theorem nat_guess {u2 u1 u0 v1 v0 : Int} (w : World) (h2 : 0 ≤ u2) (h2' : u2 ≤ v1) (h1 : 0 ≤ u1) (h1' : u1 < 4294967296) (h0 : 0 ≤ u0) (h0' : u0 < 4294967296) (g1 : 2147483648 ≤ v1) (g1' : v1 < 4294967296) (g0 : 0 ≤ v0) (g0' : v0 < 4294967296) :
    Calls Try.prog 116 #[.int .u32 u2, .int .u32 u1, .int .u32 u0, .int .u32 v1, .int .u32 v0] w fun e w' => ∃ d, e = .returned (.int .u64 d) ∧ GuessP u2 u1 u0 v1 v0 d ∧ Drawn w w' := by
  have hS := GuessInv.start h2 h2' h1 h1' h0 h0' g1 g1' g0
  have hv1 : (v1 == 0) = false := beq_eq_false_iff_ne.2 (by omega)
  obtain ⟨H, hH⟩ : ∃ H, u2 * 4294967296 + u1 = H := ⟨_, rfl⟩
  have hj : Go.bits .or .u64 (u2 * 4294967296) u1 = H := by rw [or_join _ _ (by omega) (by omega) (by omega) h1 h1', hH]
  have H0 : 0 ≤ H := by omega
  rw [hH] at hS
  replace hS := As.mk hS
  replace hH := As.mk hH
  go_enter Try.func116, Try.ntmps116
  go_wp2_with fail
  have hq0 : 0 ≤ H % v1 := Int.emod_nonneg _ (by omega)
  have hq1 : H % v1 < v1 := Int.emod_lt_of_pos _ (by omega)
  go_loopw [12, 13] (fun v12 v13 wr => ∃ d r, v12 = .int .u64 d ∧ v13 = .int .u64 r ∧ As (GuessInv u2 u1 u0 v1 v0 d r) ∧ r ≤ 4294967295 ∧ Drawn w wr) (fun v12 _ _ => (intOf v12).toNat)
  case atStart => exact ⟨H / v1, H % v1, val_int (by rw [Int.tdiv_eq_ediv_of_nonneg H0, IntKind.wrap_u64]; have := hS.out.1; have := hS.out.2.1; omega), val_int (by first | rfl | rw [Int.tmod_eq_emod_of_nonneg H0]), hS, by omega, Drawn.refl _⟩
  case round =>
    clear hS hq0 hq1
    obtain ⟨d, r, rfl, rfl, HJ, hr, ⟨m, rfl⟩⟩ := hrel
    have d0 := HJ.out.1
    have d1 := HJ.out.2.1
    have r0 := HJ.out.2.2.1
    obtain ⟨Y, hY⟩ : ∃ Y, r * 4294967296 + u0 = Y := ⟨_, rfl⟩
    have hk : Go.bits .or .u64 (r * 4294967296) u0 = Y := by rw [or_join _ _ (by omega) (by omega) (by omega) h0 h0', hY]
    obtain ⟨Z, hZ⟩ : ∃ Z, d * v0 = Z := ⟨_, rfl⟩
    by_cases hd : 4294967295 < d
    · have HL := HJ.out.less g1 g0 h0 (.inl hd)
      replace hY := As.mk hY
      replace hZ := As.mk hZ
      by_cases hb : 4294967295 < r + v1
      · have HP := As.mk (HL.brk h2' h1' h0 g1 g1' g0 g0' hb (by omega))
        clear HL HJ
        go_wp2_with fail
        go_ret
        exact ⟨_, rfl, HP.out, (Drawn.refl _).step _⟩
      · replace HL := As.mk HL
        clear HJ
        go_wp2_with fail
        go_roundw
        case rel => exact ⟨_, _, rfl, rfl, HL, by omega, (Drawn.refl _).step _⟩
        case measure => simp [intOf]; omega
    · have z0 : 0 ≤ Z := by rw [← hZ]; exact Int.mul_nonneg d0 g0
      have z1 : Z ≤ 18446744065119617025 := by
        have := Int.mul_le_mul (show d ≤ 4294967295 by omega) (show v0 ≤ 4294967295 by omega) g0 (by omega)
        rw [hZ] at this; omega
      have hw : IntKind.u64.wrap (d * v0) = Z := by rw [hZ, IntKind.wrap_u64]; omega
      by_cases hc : Y < Z
      · have HL := HJ.out.less g1 g0 h0 (.inr (by rw [hY, hZ]; exact hc))
        replace hY := As.mk hY
        replace hZ := As.mk hZ
        by_cases hb : 4294967295 < r + v1
        · have HP := As.mk (HL.brk h2' h1' h0 g1 g1' g0 g0' hb (by omega))
          have hd1 : 1 ≤ d := by have := HL.1; omega
          clear HL HJ
          go_wp2_with fail
          go_ret
          exact ⟨_, rfl, HP.out, (Drawn.refl _).step _⟩
        · have hd1 : 1 ≤ d := by have := HL.1; omega
          replace HL := As.mk HL
          clear HJ
          go_wp2_with fail
          go_roundw
          case rel => exact ⟨_, _, rfl, rfl, HL, by omega, (Drawn.refl _).step _⟩
          case measure => simp [intOf]; omega
      · have HP := As.mk (HJ.out.stop (by omega) (by rw [hY, hZ]; omega))
        replace hY := As.mk hY
        replace hZ := As.mk hZ
        clear HJ
        go_wp2_with fail
        go_ret
        exact ⟨_, rfl, HP.out, (Drawn.refl _).step _⟩
end Go.Proofs.Ytdbpjnjgjmfomaa

/- The program's natural numbers, seventh part: shiftUp, shiftDown. -/
namespace Go.Proofs.Ytdbpjnjgjmfomaa
open Go.RowKit

theorem two_pow_bounds (n : Nat) (h : n < 32) : (1 : Int) ≤ 2 ^ n ∧ (2 : Int) ^ n ≤ 2147483648 := by
  have h1 : 1 ≤ 2 ^ n := Nat.one_le_two_pow
  have h2 : 2 ^ n ≤ 2 ^ 31 := Nat.pow_le_pow_right (by omega) (by omega)
  have e : ((2 ^ n : Nat) : Int) = (2 : Int) ^ n := by rw [Int.natCast_pow]; rfl
  have e2 : (2 : Nat) ^ 31 = 2147483648 := by decide
  omega
theorem or_shift (n : Nat) (h : n < 32) (c X : Int) (c0 : 0 ≤ c) (c1 : c < 2 ^ n) (x0 : 0 ≤ X) (x1 : X < 4294967296) : Go.bits .or .u64 c (X * 2 ^ n) = c + X * 2 ^ n := by
  obtain ⟨p0, p1⟩ := two_pow_bounds n h
  have h6 : X * 2 ^ n ≤ 4294967295 * 2 ^ n := Int.mul_le_mul_of_nonneg_right (by omega) (by omega)
  have h7 : 0 ≤ X * 2 ^ n := Int.mul_nonneg x0 (by omega)
  obtain ⟨C, rfl⟩ : ∃ C : Nat, c = C := ⟨c.toNat, by omega⟩
  obtain ⟨x, rfl⟩ : ∃ x : Nat, X = x := ⟨X.toNat, by omega⟩
  have e : ((2 ^ n : Nat) : Int) = (2 : Int) ^ n := by rw [Int.natCast_pow]; rfl
  rw [u64_or _ _ (by omega) (by omega) (by omega) (by omega), ← e]
  have e2 : ((x : Int) * ((2 ^ n : Nat) : Int)).toNat = x * 2 ^ n := by
    rw [← Int.natCast_mul]; exact Int.toNat_natCast _
  rw [e2, Int.toNat_natCast, Nat.or_comm, nat_join n (x * 2 ^ n) C (Nat.mul_mod_left _ _) (by omega)]
  rw [Int.natCast_add, Int.natCast_mul, e]
  omega

set_option maxHeartbeats 4000000 in
set_option maxRecDepth 100000 in
theorem nat_shiftUp {S : Nat → Prop} {v : Value} {a : List Int} {n : Nat} (w : World) (ha : NumV S w v a) (hm : a.length ≤ 35184372088831) (hn : n < 32) :
    Calls Try.prog 115 #[v, .int .u64 n] w fun e w' => ∃ g out, e = .returned (.slice (some ⟨g, 0, none⟩) (a.length + 1) (a.length + 1)) ∧ g = w.heap.size ∧ Own w' w.heap.size (.slice (some ⟨g, 0, none⟩) (a.length + 1) (a.length + 1)) out ∧ out.length = a.length + 1 ∧ Lim out ∧ val out = 2 ^ n * val a ∧ Below w.heap.size w w' := by
  obtain ⟨hla, A, c, rfl, hc, hr⟩ := id ha
  obtain ⟨p0, p1⟩ := two_pow_bounds n hn
  have hF : As (∀ c out, UpInv a (2 ^ n) a.length c out → c < 4294967296 → _) := ⟨fun _ _ h hc => h.done hc⟩
  have hT : As (∀ c out k, UpInv a (2 ^ n) k c out → k < a.length → ∀ t, t = c + a.getD k 0 * 2 ^ n → _) := ⟨fun _ _ _ h hk t ht => h.step hk hla ht⟩
  have hor := As.mk (or_shift n hn)
  have hlx := As.mk hla
  have hS := As.mk (UpInv.start a (2 ^ n) (by omega))
  obtain ⟨P, hP⟩ : ∃ P, a.length = P := ⟨_, rfl⟩
  rw [hP] at ha hm hc hS hF ⊢
  replace hP := As.mk hP
  clear hr hla
  go_enter Try.func115, Try.ntmps115
  have hmk : ∀ W, (Instr.makeSlice 36 (.int .i64 ((P : Int) + 1)) (.int .i64 ((P : Int) + 1))).run Try.prog W = .ok (.slice (some ⟨W.heap.size, 0, none⟩) (P + 1) (P + 1)) (W.alloc (.cells (madeCells #[.int .u32 0] (P + 1)) 100)) :=
    fun W => make_nums 36 Try.underlying36 (by kernel_rfl) (P + 1) (P + 1) (by omega) (by omega) W
  go_wp2_with fail
  clear hmk
  have HO := Own.made w w.heap.size (P + 1) (Nat.le_refl _) (by omega)
  go_loopw [6, 15] (fun v6 v15 wr => ∃ (k : Nat) (r : Int) (out : List Int), k ≤ P ∧ v15 = .int .i64 k ∧ v6 = .int .u64 r ∧ As (UpInv a (2 ^ n) k r out) ∧ Own wr w.heap.size (.slice (some ⟨w.heap.size, 0, none⟩) (P + 1) (P + 1)) out ∧ Below w.heap.size w wr) (fun _ v15 _ => P - (intOf v15).toNat)
  case atStart => exact ⟨0, 0, _, Nat.zero_le _, rfl, rfl, hS, HO, (Below.refl _ _).alloc (Nat.le_refl _) _⟩
  case round =>
    obtain ⟨k, r, out, hk, rfl, rfl, HJ, hown, hbel⟩ := hrel
    have r0 := HJ.out.2.2.1
    have r1 := HJ.out.2.2.2.1
    by_cases hlt : k < P
    · obtain ⟨ad, hA, hca⟩ := (ha.below hbel).at k (by have := hP.out; omega)
      subst hA
      have hX := hlx.out.get k
      obtain ⟨hcg, hfg⟩ := hown.cell k (by have := hP.out; have := HJ.out.1; omega)
      have HN := hT.out _ _ _ HJ.out (by have := hP.out; omega)
      have hst := As.mk (fun x => Own.store hown k x)
      have hj := hor.out r (a.getD k 0) r0 r1 hX.1 hX.2
      have q1 : a.getD k 0 * 2 ^ n ≤ 4294967295 * 2 ^ n := Int.mul_le_mul_of_nonneg_right (by omega) (by omega)
      have q0 : 0 ≤ a.getD k 0 * 2 ^ n := Int.mul_nonneg hX.1 (by omega)
      generalize a.getD k 0 = X at *
      generalize out.getD k 0 = O at *
      obtain ⟨t, ht⟩ : ∃ t, r + X * 2 ^ n = t := ⟨_, rfl⟩
      have HN := As.mk (HN t ht.symm)
      rw [ht] at hj
      have t0 : 0 ≤ t := by omega
      have t1 : t < 18446744073709551616 := by omega
      replace ht := As.mk ht
      clear HJ hT hF hS hor
      go_wp2_with fail
      rw [and_mod _ (by omega) (by omega)]
      go_roundw
      case rel => exact ⟨k + 1, _, _, hlt, by go_num, rfl, HN, hst.out _, hbel.setCell (Nat.le_refl _) _⟩
      case measure => simp [intOf]; omega
    · obtain rfl : k = P := by omega
      have hG := hF.out _ _ HJ.out (by omega)
      have hst := As.mk (fun x => Own.store hown k x)
      obtain ⟨hcg, hfg⟩ := hown.cell k (by have := hP.out; have := HJ.out.1; omega)
      generalize out.getD k 0 = O at *
      replace hG := As.mk hG
      clear hF hT hS HJ
      go_wp2_with fail
      go_ret
      exact ⟨_, _, rfl, rfl, hst.out _, hG.out.1, hG.out.2.1, hG.out.2.2, hbel.setCell (Nat.le_refl _) _⟩

theorem add_succ (ad : Addr) (k : Nat) : ad.add (k + 1) = ⟨ad.block, ad.off + (k + 1), none⟩ := by simp [Addr.add]
theorem half_limb (n : Nat) (h : n < 32) : ∃ c : Int, (2 : Int) ^ n * c = 4294967296 := by
  refine ⟨2 ^ (32 - n), ?_⟩
  rw [← Int.pow_add, show n + (32 - n) = 32 from by omega]
  rfl
set_option maxHeartbeats 4000000 in
set_option maxRecDepth 100000 in
theorem nat_shiftDown {S : Nat → Prop} {v : Value} {a : List Int} {n : Nat} (w : World) (ha : NumV S w v a) (hm : a.length ≤ 35184372088831) (hn : n < 32) :
    Calls Try.prog 119 #[v, .int .u64 n] w fun e w' => ∃ r, e = .returned r ∧ NumV (fun k => w.heap.size ≤ k) w' r (dig (nv a / 2 ^ n)) ∧ Below w.heap.size w w' := by
  obtain ⟨hla, A, c, rfl, hc, hr⟩ := id ha
  obtain ⟨p0, p1⟩ := two_pow_bounds n hn
  obtain ⟨C, hC⟩ := half_limb n hn
  have hF : As (∀ out, DownInv a (2 ^ n) a.length out → dig (nv out) = dig (nv a / 2 ^ n)) := ⟨fun _ h => by
    have := h.done hla (by omega)
    rwa [show ((2 : Int) ^ n).toNat = 2 ^ n from by rw [← Int.toNat_natCast (2 ^ n), Int.natCast_pow]; rfl] at this⟩
  have hT : As (∀ out k, DownInv a (2 ^ n) k out → k < a.length → ∀ t, t = (a.getD k 0 + a.getD (k + 1) 0 * 4294967296) / 2 ^ n % 4294967296 → _) := ⟨fun _ _ h hk t ht => h.step hk hla (by omega) hC ht⟩
  have hlx := As.mk hla
  have hS := As.mk (DownInv.start a (2 ^ n))
  obtain ⟨P, hP⟩ : ∃ P, a.length = P := ⟨_, rfl⟩
  rw [hP] at ha hm hc hS hF ⊢
  replace hP := As.mk hP
  clear hr hla hC
  go_enter Try.func119, Try.ntmps119
  have hmk : ∀ W, (Instr.makeSlice 36 (.int .i64 (P : Int)) (.int .i64 (P : Int))).run Try.prog W = .ok (.slice (some ⟨W.heap.size, 0, none⟩) P P) (W.alloc (.cells (madeCells #[.int .u32 0] P) 100)) :=
    fun W => make_nums 36 Try.underlying36 (by kernel_rfl) P P (by omega) (by omega) W
  go_wp2_with fail
  clear hmk
  have HO := Own.made w w.heap.size P (Nat.le_refl _) (by omega)
  go_loopw [13] (fun v13 wr => ∃ (k : Nat) (out : List Int), k ≤ P ∧ v13 = .int .i64 k ∧ As (DownInv a (2 ^ n) k out) ∧ Own wr w.heap.size (.slice (some ⟨w.heap.size, 0, none⟩) P P) out ∧ Below w.heap.size w wr) (fun v13 _ => P - (intOf v13).toNat)
  case atStart => exact ⟨0, _, Nat.zero_le _, rfl, hS, HO, (Below.refl _ _).alloc (Nat.le_refl _) _⟩
  case round =>
    obtain ⟨k, out, hk, rfl, HJ, hown, hbel⟩ := hrel
    by_cases hlt : k < P
    · obtain ⟨ad, hA, hca⟩ := (ha.below hbel).at k (by have := hP.out; omega)
      subst hA
      have hX := hlx.out.get k
      have hY := hlx.out.get (k + 1)
      obtain ⟨hcg, hfg⟩ := hown.cell k (by have := hP.out; have := HJ.out.1; omega)
      have HN := hT.out _ _ HJ.out (by have := hP.out; omega)
      have hst := As.mk (fun x => Own.store hown k x)
      generalize out.getD k 0 = O at *
      by_cases hl2 : k + 1 < P
      · obtain ⟨ad', hA, hcb⟩ := (ha.below hbel).at (k + 1) (by have := hP.out; omega)
        injection hA with hA
        subst hA
        rw [add_succ] at hcb
        generalize a.getD k 0 = X at *
        generalize a.getD (k + 1) 0 = Y at *
        obtain ⟨t, ht⟩ : ∃ t, X + Y * 4294967296 = t := ⟨_, rfl⟩
        have hj : Go.bits .or .u64 X (Y * 4294967296) = t := by
          have := or_join (Y * 4294967296) X (by omega) (by omega) (by omega) hX.1 hX.2
          rw [u64_or _ _ (by omega) (by omega) (by omega) (by omega)] at this ⊢
          rw [Nat.or_comm, this]; omega
        rw [ht] at HN
        have t0 : 0 ≤ t := by omega
        have t1 : t < 18446744073709551616 := by omega
        replace HN := As.mk HN
        replace ht := As.mk ht
        have d0 : 0 ≤ t / 2 ^ n := Int.ediv_nonneg t0 (by omega)
        have d1 : t / 2 ^ n ≤ t := Int.ediv_le_self _ t0
        clear HJ hT hF hS
        go_wp2_with fail
        rw [and_mod _ (by omega) (by omega)]
        go_roundw
        case rel => exact ⟨k + 1, _, hlt, by go_num, ⟨HN.out _ rfl⟩, hst.out _, hbel.setCell (Nat.le_refl _) _⟩
        case measure => simp [intOf]; omega
      · rw [getD_ge a (k + 1) (by have := hP.out; omega)] at HN
        generalize a.getD k 0 = X at *
        rw [show X + 0 * 4294967296 = X from by omega] at HN
        replace HN := As.mk HN
        have d0 : 0 ≤ X / 2 ^ n := Int.ediv_nonneg hX.1 (by omega)
        have d1 : X / 2 ^ n ≤ X := Int.ediv_le_self _ hX.1
        clear HJ hT hF hS hY
        go_wp2_with fail
        rw [and_mod _ (by omega) (by omega)]
        go_roundw
        case rel => exact ⟨k + 1, _, hlt, by go_num, ⟨HN.out _ rfl⟩, hst.out _, hbel.setCell (Nat.le_refl _) _⟩
        case measure => simp [intOf]; omega
    · obtain rfl : k = P := by omega
      have hG := As.mk (hF.out out HJ.out)
      have hnum := hown.num HJ.out.2.1
      have hlen2 : out.length = k := by have := hP.out; have := HJ.out.1; omega
      rw [← hlen2] at hnum hm
      clear hF HJ hown HO hT hS
      go_wp2_with fail
      rw [← hlen2]
      refine (nat_trim _ hnum (by omega)).mono ?_
      rintro e w' ⟨rfl, ⟨m4, rfl⟩⟩
      have hres := (hnum.trim.drewN m4).mono (T := fun k => w.heap.size ≤ k) (fun k hk _ => hk.1)
      rw [hG.out] at hres ⊢
      clear hlen2
      go_wp2_with fail
      go_ret
      exact ⟨_, rfl, hres, hbel.drewsN _⟩
end Go.Proofs.Ytdbpjnjgjmfomaa

/- Knuth's division, its inner steps: plain mathematics. -/
namespace Go.Proofs.Ytdbpjnjgjmfomaa

/-- The k limbs from j on. -/
def seg (U : List Int) (j k : Nat) : Int := val ((U.drop j).take k)
theorem seg_zero (U : List Int) (j : Nat) : seg U j 0 = 0 := by simp [seg, val]
theorem seg_succ (U : List Int) (j k : Nat) : seg U j (k + 1) = seg U j k + 4294967296 ^ k * U.getD (j + k) 0 := by
  unfold seg
  rw [val_take_succ']
  congr 2
  rw [List.getD_eq_getElem?_getD, List.getElem?_drop, ← List.getD_eq_getElem?_getD]
theorem seg_set_hi (U : List Int) (j k : Nat) (v : Int) : seg (U.set (j + k) v) j k = seg U j k := by
  unfold seg
  rw [List.drop_set, if_neg (by omega), Nat.add_sub_cancel_left, List.take_set_of_le (Nat.le_refl _)]
theorem getD_set_self (U : List Int) (i : Nat) (v : Int) (h : i < U.length) : (U.set i v).getD i 0 = v := by
  rw [List.getD_eq_getElem?_getD, List.getElem?_set_self h]; rfl
theorem seg_set (U : List Int) (j k : Nat) (v : Int) (h : j + k < U.length) : seg (U.set (j + k) v) j (k + 1) = seg U j k + 4294967296 ^ k * v := by
  rw [seg_succ, seg_set_hi, getD_set_self _ _ _ h]
/-- What a step inside leaves alone. -/
def Same (U0 U : List Int) (j k : Nat) : Prop := U.length = U0.length ∧ Lim U ∧ U.take j = U0.take j ∧ ∀ i, j + k ≤ i → U.getD i 0 = U0.getD i 0
theorem Same.refl {U : List Int} (h : Lim U) (j k : Nat) : Same U U j k := ⟨rfl, h, rfl, fun _ _ => rfl⟩
theorem Same.set {U0 U : List Int} {j k : Nat} (h : Same U0 U j k) {v : Int} (h0 : 0 ≤ v) (h1 : v < 4294967296) : Same U0 (U.set (j + k) v) j (k + 1) := by
  obtain ⟨a, b, c, d⟩ := h
  refine ⟨by simp [a], b.set _ h0 h1, by rw [List.take_set_of_le (by omega)]; exact c, fun i hi => ?_⟩
  rw [getD_set _ _ _ _ (by omega)]
  exact d i (by omega)

/-- d * V is taken off from j on, k limbs done. -/
def TakeInv (U0 V : List Int) (d : Int) (j k : Nat) (b c : Int) (U : List Int) : Prop :=
  Same U0 U j k ∧ 0 ≤ b ∧ b ≤ 1 ∧ 0 ≤ c ∧ c < 4294967296 ∧ seg U j k + d * val (V.take k) = seg U0 j k + 4294967296 ^ k * (b + c)
theorem TakeInv.start {U V : List Int} {d : Int} {j : Nat} (h : Lim U) : TakeInv U V d j 0 0 0 U := ⟨Same.refl h j 0, by omega, by omega, by omega, by omega, by simp [seg_zero, val]⟩
theorem TakeInv.bound {U0 U V : List Int} {d b c : Int} {j k : Nat} (h : TakeInv U0 V d j k b c U) (hV : Lim V) (d0 : 0 ≤ d) (d1 : d ≤ 4294967295) :
    0 ≤ d * V.getD k 0 ∧ d * V.getD k 0 ≤ 18446744065119617025 ∧ 0 ≤ U.getD (j + k) 0 ∧ U.getD (j + k) 0 < 4294967296 := by
  have h1 := hV.get k
  have h2 := h.1.2.1.get (j + k)
  have := Int.mul_le_mul d1 (show V.getD k 0 ≤ 4294967295 by omega) h1.1 (by omega)
  exact ⟨Int.mul_nonneg d0 h1.1, by omega, h2.1, h2.2⟩
theorem TakeInv.step {U0 U V : List Int} {d b c : Int} {j k : Nat} (h : TakeInv U0 V d j k b c U) (hk : j + k < U0.length) {s t : Int} (hs : s = c + d * V.getD k 0) (s0 : 0 ≤ s) (s1 : s < 18446744073709551616) (ht : t = U.getD (j + k) 0 - b - s % 4294967296)
    (u0 : 0 ≤ U.getD (j + k) 0) (u1 : U.getD (j + k) 0 < 4294967296) :
    TakeInv U0 V d j (k + 1) (if t < 0 then 1 else 0) (s / 4294967296) (U.set (j + k) (t % 4294967296)) := by
  obtain ⟨h1, h2, h3, h4, h5, h6⟩ := h
  have e0 := h1.2.2.2 (j + k) (Nat.le_refl _)
  refine ⟨h1.set (by omega) (by omega), by split <;> omega, by split <;> omega, by omega, by omega, ?_⟩
  rw [seg_set _ _ _ _ (by rw [h1.1]; exact hk), val_take_succ', seg_succ, Int.pow_succ, ← e0]
  have e1 : t % 4294967296 = t + 4294967296 * (if t < 0 then 1 else 0) := by split <;> omega
  have e2 : s % 4294967296 = s - 4294967296 * (s / 4294967296) := by omega
  generalize (if t < 0 then (1 : Int) else 0) = b' at *
  rw [e1, ht, e2, hs]
  grind
theorem TakeInv.done {U0 U V : List Int} {d b c : Int} {j : Nat} (h : TakeInv U0 V d j V.length b c U) (hk : j + V.length < U0.length) {t : Int} (ht : t = U.getD (j + V.length) 0 - b - c) (u0 : 0 ≤ U.getD (j + V.length) 0) (u1 : U.getD (j + V.length) 0 < 4294967296) :
    Same U0 (U.set (j + V.length) (t % 4294967296)) j (V.length + 1) ∧ seg (U.set (j + V.length) (t % 4294967296)) j (V.length + 1) + d * val V = seg U0 j (V.length + 1) + 4294967296 ^ (V.length + 1) * (if t < 0 then 1 else 0) := by
  obtain ⟨h1, h2, h3, h4, h5, h6⟩ := h
  have e0 := h1.2.2.2 (j + V.length) (Nat.le_refl _)
  refine ⟨h1.set (by omega) (by omega), ?_⟩
  rw [List.take_of_length_le (Nat.le_refl _)] at h6
  rw [seg_set _ _ _ _ (by rw [h1.1]; exact hk), seg_succ, Int.pow_succ, ← e0]
  have e1 : t % 4294967296 = t + 4294967296 * (if t < 0 then 1 else 0) := by split <;> omega
  generalize (if t < 0 then (1 : Int) else 0) = b' at *
  rw [e1, ht]
  grind

/-- V is added from j on, k limbs done. -/
def BackInv (U0 V : List Int) (j k : Nat) (c : Int) (U : List Int) : Prop :=
  Same U0 U j k ∧ 0 ≤ c ∧ c ≤ 1 ∧ seg U j k + 4294967296 ^ k * c = seg U0 j k + val (V.take k)
theorem BackInv.start {U V : List Int} {j : Nat} (h : Lim U) : BackInv U V j 0 0 U := ⟨Same.refl h j 0, by omega, by omega, by simp [seg_zero, val]⟩
theorem BackInv.step {U0 U V : List Int} {c : Int} {j k : Nat} (h : BackInv U0 V j k c U) (hk : j + k < U0.length) (hV : Lim V) {t : Int} (ht : t = c + (U.getD (j + k) 0 + V.getD k 0)) :
    BackInv U0 V j (k + 1) (t / 4294967296) (U.set (j + k) (t % 4294967296)) := by
  obtain ⟨h1, h2, h3, h4⟩ := h
  have e0 := h1.2.2.2 (j + k) (Nat.le_refl _)
  have u := h1.2.1.get (j + k)
  have v := hV.get k
  refine ⟨h1.set (by omega) (by omega), by omega, by omega, ?_⟩
  rw [seg_set _ _ _ _ (by rw [h1.1]; exact hk), val_take_succ', seg_succ, Int.pow_succ, ← e0]
  have e2 : t % 4294967296 = t - 4294967296 * (t / 4294967296) := by omega
  rw [e2, ht]
  grind
theorem BackInv.done {U0 U V : List Int} {c : Int} {j : Nat} (h : BackInv U0 V j V.length c U) (hk : j + V.length < U0.length) {t : Int} (ht : t = U.getD (j + V.length) 0 + c) :
    Same U0 (U.set (j + V.length) (t % 4294967296)) j (V.length + 1) ∧ ∃ e : Int, 0 ≤ e ∧ seg (U.set (j + V.length) (t % 4294967296)) j (V.length + 1) + 4294967296 ^ (V.length + 1) * e = seg U0 j (V.length + 1) + val V := by
  obtain ⟨h1, h2, h3, h4⟩ := h
  have e0 := h1.2.2.2 (j + V.length) (Nat.le_refl _)
  have u := h1.2.1.get (j + V.length)
  refine ⟨h1.set (by omega) (by omega), t / 4294967296, by omega, ?_⟩
  rw [List.take_of_length_le (Nat.le_refl _)] at h4
  rw [seg_set _ _ _ _ (by rw [h1.1]; exact hk), seg_succ, Int.pow_succ, ← e0]
  have e2 : t % 4294967296 = t - 4294967296 * (t / 4294967296) := by omega
  rw [e2, ht]
  grind
end Go.Proofs.Ytdbpjnjgjmfomaa

/- The program's natural numbers, eighth part: subtract, addBack. -/
namespace Go.Proofs.Ytdbpjnjgjmfomaa
open Go.RowKit

theorem NumV.grown {S : Nat → Prop} {w w1 : World} {v : Value} {l : List Int} {g : Nat} (h : NumV S w v l) (hg : w.grownBy w1 (some g)) (hS : ∀ k, S k → k ≠ g) : NumV S w1 v l :=
  h.step (fun k hs hk => hg.block k hk (by intro e; injection e with e; exact hS k hs e))
theorem grown_refl (w : World) (r : Option Nat) : w.grownBy w r := ⟨rfl, rfl, rfl, Nat.le_refl _, fun _ _ _ => rfl⟩
theorem grown_set {w w1 : World} {g : Nat} (h : w.grownBy w1 (some g)) (i : Nat) (u : Value) : w.grownBy (w1.setCell ⟨g, i, none⟩ u) (some g) :=
  h.trans ⟨rfl, rfl, rfl, by simp [World.setCell], fun k hk hne => Below.heap_setCell _ _ _ _ (by intro e; exact hne (by rw [e]))⟩
theorem grown_drewN {w w1 : World} {r : Option Nat} (h : w.grownBy w1 r) (n : Nat) : w.grownBy (w1.drewN n) r := ⟨h.os, h.tape, h.output, h.size, h.block⟩
theorem wrap_two (O b C : Int) (h0 : 0 ≤ O) (h1 : O < 4294967296) (b0 : 0 ≤ b) (b1 : b ≤ 1) (c0 : 0 ≤ C) (c1 : C < 4294967296) :
    ∃ T, IntKind.u64.wrap (IntKind.u64.wrap (O - b) - C) = T ∧ 0 ≤ T ∧ T < 18446744073709551616 ∧ T % 4294967296 = (O - b - C) % 4294967296 ∧ T / 9223372036854775808 = if O - b - C < 0 then 1 else 0 := by
  refine ⟨_, rfl, ?_⟩
  rw [IntKind.wrap_u64, IntKind.wrap_u64]
  split <;> omega

set_option maxHeartbeats 4000000 in
set_option maxRecDepth 100000 in
theorem nat_subtract {S : Nat → Prop} {vv : Value} {U V : List Int} {d : Int} {B g j cap N c : Nat} (w : World) (hU : Own w B (.slice (some ⟨g, 0, none⟩) N cap) U) (hN : N = U.length) (hlim : Lim U) (hv : NumV S w vv V) (hS : ∀ k, S k → k ≠ g) (hj : j + V.length < U.length) (hm : U.length ≤ 35184372088832) (d0 : 0 ≤ d) (d1 : d ≤ 4294967295) :
    Calls Try.prog 117 #[.slice (some ⟨g, j, none⟩) (V.length + 1) c, vv, .int .u64 d] w fun e w' => ∃ (U' : List Int) (t : Int), e = .returned (.bool (decide (t < 0))) ∧ Own w' B (.slice (some ⟨g, 0, none⟩) N cap) U' ∧ Same U U' j (V.length + 1) ∧
      seg U' j (V.length + 1) + d * val V = seg U j (V.length + 1) + 4294967296 ^ (V.length + 1) * (if t < 0 then 1 else 0) ∧ w.grownBy w' (some g) := by
  obtain ⟨hlv, A, c', rfl, hc', hr'⟩ := id hv
  have hS' := As.mk hS
  have hlx := As.mk hlv
  have hI := As.mk (TakeInv.start (V := V) (d := d) (j := j) hlim)
  obtain ⟨n, hn⟩ : ∃ n, V.length = n := ⟨_, rfl⟩
  have hF : As (∀ b c U', TakeInv U V d j n b c U' → ∀ t, t = U'.getD (j + n) 0 - b - c → Same U (U'.set (j + n) (t % 4294967296)) j (n + 1) ∧ seg (U'.set (j + n) (t % 4294967296)) j (n + 1) + d * val V = seg U j (n + 1) + 4294967296 ^ (n + 1) * (if t < 0 then 1 else 0)) :=
    ⟨fun b c U' h t ht => by
      subst hn
      have u := h.1.2.1.get (j + V.length)
      exact h.done hj ht u.1 u.2⟩
  obtain ⟨L, hL⟩ : ∃ L, U.length = L := ⟨_, rfl⟩
  rw [hn] at hv hj hc' ⊢
  rw [hL] at hj hm hN
  subst hN
  replace hn := As.mk hn
  replace hL := As.mk hL
  clear hr' hlv hlim hS
  go_enter Try.func117, Try.ntmps117
  go_wp2_with fail
  go_loopw [7, 8, 15] (fun v7 v8 v15 wr => ∃ (k : Nat) (b c : Int) (U' : List Int), k ≤ n ∧ v15 = .int .i64 k ∧ v7 = .int .u64 b ∧ v8 = .int .u64 c ∧ As (TakeInv U V d j k b c U') ∧ Own wr B (.slice (some ⟨g, 0, none⟩) N cap) U' ∧ As (w.grownBy wr (some g))) (fun _ _ v15 _ => n - (intOf v15).toNat)
  case atStart => exact ⟨0, 0, 0, U, Nat.zero_le _, rfl, rfl, rfl, hI, hU, ⟨grown_refl _ _⟩⟩
  case round =>
    obtain ⟨k, b, z, U', hk, rfl, rfl, rfl, HJ, hown, hg⟩ := hrel
    have b0 := HJ.out.2.1
    have b1 := HJ.out.2.2.1
    have z0 := HJ.out.2.2.2.1
    have z1 := HJ.out.2.2.2.2.1
    by_cases hlt : k < n
    · obtain ⟨ad, hA, hca⟩ := (hv.grown hg.out hS'.out).at k (by have := hn.out; omega)
      subst hA
      have hX := hlx.out.get k
      obtain ⟨q0, q1, o0, o1⟩ := HJ.out.bound hlx.out d0 d1
      obtain ⟨hcg, hfg⟩ := hown.cell (j + k) (by have := hL.out; have := HJ.out.1.1; omega)
      have HN := As.mk (fun s t => HJ.out.step (s := s) (t := t) (by have := hL.out; omega))
      have hst := As.mk (fun x => Own.store hown (j + k) x)
      generalize V.getD k 0 = X at *
      generalize U'.getD (j + k) 0 = O at *
      obtain ⟨Z, hZ⟩ : ∃ Z, d * X = Z := ⟨_, rfl⟩
      rw [hZ] at q0 q1 HN
      have hw : IntKind.u64.wrap (d * X) = Z := by rw [hZ, IntKind.wrap_u64]; omega
      obtain ⟨C, hC⟩ : ∃ C, (z + Z) % 4294967296 = C := ⟨_, rfl⟩
      have hand : Go.bits .and .u64 (z + Z) 4294967295 = C := by rw [and_low _ (by omega) (by omega), hC]
      obtain ⟨T, hT, t0, t1, t2, t3⟩ := wrap_two O b C o0 o1 b0 b1 (by omega) (by omega)
      replace hZ := As.mk hZ
      replace hC := As.mk hC
      replace t2 := As.mk t2
      replace t3 := As.mk t3
      clear HJ hF hI
      go_wp2_with fail
      rw [and_mod _ t0 t1, t2.out, t3.out]
      go_roundw
      case rel => exact ⟨k + 1, _, _, _, hlt, by go_num, rfl, rfl, ⟨HN.out (z + Z) (O - b - C) rfl (by omega) (by omega) (by rw [hC.out]) o0 o1⟩, hst.out _, ⟨grown_set hg.out _ _⟩⟩
      case measure => simp [intOf]; omega
    · obtain rfl : k = n := by omega
      obtain ⟨hcg, hfg⟩ := hown.cell (j + k) (by have := hL.out; have := HJ.out.1.1; omega)
      have hst := As.mk (fun x => Own.store hown (j + k) x)
      have HN := As.mk (hF.out _ _ _ HJ.out)
      have o := HJ.out.1.2.1.get (j + k)
      generalize U'.getD (j + k) 0 = O at *
      obtain ⟨T, hT, t0, t1, t2, t3⟩ := wrap_two O b z o.1 o.2 b0 b1 z0 z1
      have hbe : (T / 9223372036854775808 == 1) = decide (O - b - z < 0) := by rw [t3]; split <;> simp_all
      replace t2 := As.mk t2
      clear HJ hF hI t3
      go_wp2_with fail
      rw [and_mod _ t0 t1, t2.out]
      go_ret
      exact ⟨_, O - b - z, rfl, hst.out _, (HN.out _ rfl).1, (HN.out _ rfl).2, grown_set hg.out _ _⟩

set_option maxHeartbeats 4000000 in
set_option maxRecDepth 100000 in
theorem nat_addBack {S : Nat → Prop} {vv : Value} {U V : List Int} {B g j cap N c : Nat} (w : World) (hU : Own w B (.slice (some ⟨g, 0, none⟩) N cap) U) (hN : N = U.length) (hlim : Lim U) (hv : NumV S w vv V) (hS : ∀ k, S k → k ≠ g) (hj : j + V.length < U.length) (hm : U.length ≤ 35184372088832) :
    Calls Try.prog 118 #[.slice (some ⟨g, j, none⟩) (V.length + 1) c, vv] w fun e w' => ∃ (U' : List Int), e = .returned (.tuple #[]) ∧ Own w' B (.slice (some ⟨g, 0, none⟩) N cap) U' ∧ Same U U' j (V.length + 1) ∧
      (∃ e : Int, 0 ≤ e ∧ seg U' j (V.length + 1) + 4294967296 ^ (V.length + 1) * e = seg U j (V.length + 1) + val V) ∧ w.grownBy w' (some g) := by
  obtain ⟨hlv, A, c', rfl, hc', hr'⟩ := id hv
  have hS' := As.mk hS
  have hlx := As.mk hlv
  have hI := As.mk (BackInv.start (V := V) (j := j) hlim)
  obtain ⟨n, hn⟩ : ∃ n, V.length = n := ⟨_, rfl⟩
  have hF : As (∀ c U', BackInv U V j n c U' → ∀ t, t = U'.getD (j + n) 0 + c → Same U (U'.set (j + n) (t % 4294967296)) j (n + 1) ∧ ∃ e : Int, 0 ≤ e ∧ seg (U'.set (j + n) (t % 4294967296)) j (n + 1) + 4294967296 ^ (n + 1) * e = seg U j (n + 1) + val V) :=
    ⟨fun c U' h t ht => by
      subst hn
      exact h.done hj ht⟩
  obtain ⟨L, hL⟩ : ∃ L, U.length = L := ⟨_, rfl⟩
  rw [hn] at hv hj hc' ⊢
  rw [hL] at hj hm hN
  subst hN
  replace hn := As.mk hn
  replace hL := As.mk hL
  clear hr' hlv hlim hS
  go_enter Try.func118, Try.ntmps118
  go_wp2_with fail
  go_loopw [4, 9] (fun v4 v9 wr => ∃ (k : Nat) (z : Int) (U' : List Int), k ≤ n ∧ v9 = .int .i64 k ∧ v4 = .int .u64 z ∧ As (BackInv U V j k z U') ∧ Own wr B (.slice (some ⟨g, 0, none⟩) N cap) U' ∧ As (w.grownBy wr (some g))) (fun _ v9 _ => n - (intOf v9).toNat)
  case atStart => exact ⟨0, 0, U, Nat.zero_le _, rfl, rfl, hI, hU, ⟨grown_refl _ _⟩⟩
  case round =>
    obtain ⟨k, z, U', hk, rfl, rfl, HJ, hown, hg⟩ := hrel
    have z0 := HJ.out.2.1
    have z1 := HJ.out.2.2.1
    have o := HJ.out.1.2.1.get (j + k)
    obtain ⟨hcg, hfg⟩ := hown.cell (j + k) (by have := hL.out; have := HJ.out.1.1; omega)
    have hst := As.mk (fun x => Own.store hown (j + k) x)
    by_cases hlt : k < n
    · obtain ⟨ad, hA, hca⟩ := (hv.grown hg.out hS'.out).at k (by have := hn.out; omega)
      subst hA
      have hX := hlx.out.get k
      have HN := As.mk (fun t => HJ.out.step (t := t) (by have := hL.out; omega) hlx.out)
      generalize V.getD k 0 = X at *
      generalize U'.getD (j + k) 0 = O at *
      clear HJ hF hI
      go_wp2_with fail
      rw [and_mod _ (by omega) (by omega)]
      go_roundw
      case rel => exact ⟨k + 1, _, _, hlt, by go_num, rfl, ⟨HN.out _ rfl⟩, hst.out _, ⟨grown_set hg.out _ _⟩⟩
      case measure => simp [intOf]; omega
    · obtain rfl : k = n := by omega
      have HN := As.mk (hF.out _ _ HJ.out)
      generalize U'.getD (j + k) 0 = O at *
      clear HJ hF hI
      go_wp2_with fail
      go_end0
      exact ⟨_, rfl, hst.out _, (HN.out _ rfl).1, (HN.out _ rfl).2, grown_set hg.out _ _⟩
end Go.Proofs.Ytdbpjnjgjmfomaa

/- Knuth's division, its outer loop: plain mathematics. -/
namespace Go.Proofs.Ytdbpjnjgjmfomaa

theorem seg_nonneg {U : List Int} (h : Lim U) (j k : Nat) : 0 ≤ seg U j k := val_nonneg ((h.drop j).take k)
theorem seg_lt {U : List Int} (h : Lim U) (j k : Nat) : seg U j k < 4294967296 ^ k := by
  have h1 := val_lt ((h.drop j).take k)
  have h2 : ((U.drop j).take k).length ≤ k := List.length_take_le _ _
  have h3 : (4294967296 : Int) ^ ((U.drop j).take k).length ≤ 4294967296 ^ k := Int.pow_le_pow_right₀ h2
  unfold seg
  omega
where
  Int.pow_le_pow_right₀ {a b : Nat} (h : a ≤ b) : (4294967296 : Int) ^ a ≤ 4294967296 ^ b := by
    have := Nat.pow_le_pow_right (n := 4294967296) (by omega) h
    have e1 := powc a
    have e2 := powc b
    omega
/-- The guess is right, or one too great. -/
theorem guess_ok {u2 u1 u0 v1 v0 d b sl vl : Int} (h : GuessP u2 u1 u0 v1 v0 d) (hb : 0 < b) (s0 : 0 ≤ sl) (s1 : sl < b) (l0 : 0 ≤ vl) (l1 : vl < b) (hv : 2147483648 ≤ v1) (g0 : 0 ≤ v0)
    {S V : Int} (hS : S = sl + b * ((u2 * 4294967296 + u1) * 4294967296 + u0)) (hV : V = vl + b * (v1 * 4294967296 + v0)) (hlt : S < 4294967296 * V) :
    S < (d + 1) * V ∧ d * V ≤ S + V := by
  obtain ⟨h1, h2, h3, h4⟩ := h
  generalize hU3 : (u2 * 4294967296 + u1) * 4294967296 + u0 = U3 at *
  obtain ⟨V2, hV2⟩ : ∃ V2, v1 * 4294967296 + v0 = V2 := ⟨_, rfl⟩
  rw [hV2] at h3 h4 hV
  constructor
  · by_cases hq : S < (d + 1) * V
    · exact hq
    · exfalso
      by_cases hd : d = 4294967295
      · subst hd; omega
      · have h5 := h4 (d + 1) (by omega) (by
          by_cases h6 : (d + 1) * V2 ≤ U3
          · exact h6
          · exfalso
            have h7 := Int.mul_le_mul_of_nonneg_left (show U3 + 1 ≤ (d + 1) * V2 by omega) (show 0 ≤ b by omega)
            have h8 : (d + 1) * V = (d + 1) * vl + b * ((d + 1) * V2) := by rw [hV]; grind
            have h9 : 0 ≤ (d + 1) * vl := Int.mul_nonneg (by omega) l0
            rw [Int.mul_add, Int.mul_one] at h7
            omega)
        omega
  · by_cases hd : d = 0
    · subst hd
      have : 0 ≤ V := by
        have := Int.mul_nonneg (show 0 ≤ b by omega) (show 0 ≤ V2 by omega)
        omega
      have : 0 ≤ S := by
        have := Int.mul_nonneg (show 0 ≤ b by omega) (show 0 ≤ U3 by omega)
        omega
      omega
    · have h5 := Int.mul_le_mul_of_nonneg_left h3 (show 0 ≤ b by omega)
      have h6 : d * V = d * vl + b * (d * V2) := by rw [hV]; grind
      have h7 : (d - 1) * vl ≤ (d - 1) * b := Int.mul_le_mul_of_nonneg_left (by omega) (by omega)
      have h8 : (d - 1) * b ≤ V2 * b := Int.mul_le_mul_of_nonneg_right (by omega) (by omega)
      have h9 : d * vl = (d - 1) * vl + vl := by grind
      have h10 : V2 * b = b * V2 := Int.mul_comm _ _
      omega

def DmInv (U0 V : List Int) (m k : Nat) (U Q : List Int) : Prop :=
  U.length = m + V.length + 1 ∧ Lim U ∧ Q.length = m + 1 ∧ Lim Q ∧ val U + 4294967296 ^ k * (val (Q.drop k) * val V) = val U0 ∧ val (U.drop k) < val V
section
variable {U0 V U Q : List Int} {m k : Nat}
theorem DmInv.high (h : DmInv U0 V m (k + 1) U Q) (hV : Lim V) (i : Nat) (hi : k + 1 + V.length ≤ i) : U.getD i 0 = 0 := by
  obtain ⟨h1, h2, h3, h4, h5, h6⟩ := h
  have h7 := val_lt hV
  have := getD_of_lt (l := U.drop (k + 1)) (j := i - (k + 1)) (h2.drop _) (by
    have e1 := powc V.length
    have e2 := powc (i - (k + 1))
    have := Nat.pow_le_pow_right (n := 4294967296) (by omega) (show V.length ≤ i - (k + 1) by omega)
    omega)
  rw [List.getD_eq_getElem?_getD, List.getElem?_drop, ← List.getD_eq_getElem?_getD] at this
  rwa [show k + 1 + (i - (k + 1)) = i from by omega] at this
theorem val_drop_seg {U : List Int} (j n : Nat) (h : ∀ i, j + n ≤ i → U.getD i 0 = 0) : val (U.drop j) = seg U j n := by
  unfold seg
  have h1 : val ((U.drop j).drop n) = 0 := by
    have : ∀ (l : List Int), (∀ i, l.getD i 0 = 0) → val l = 0 := by
      intro l
      induction l with
      | nil => intro _; rfl
      | cons x t ih =>
        intro hz
        have hx := hz 0
        have ht := ih (fun i => by have := hz (i + 1); simpa using this)
        simp only [List.getD_cons_zero] at hx
        rw [val_cons, ht, hx]; rfl
    refine this _ (fun i => ?_)
    rw [List.getD_eq_getElem?_getD, List.getElem?_drop, List.getElem?_drop, ← List.getD_eq_getElem?_getD]
    exact h _ (by omega)
  rcases Nat.lt_or_ge n (U.drop j).length with hn | hn
  · have := val_take_drop (U.drop j) n (by omega)
    rw [h1] at this
    omega
  · rw [List.take_of_length_le hn]
theorem DmInv.facts (h : DmInv U0 V m (k + 1) U Q) (hV : Lim V) (hk : k ≤ m) (_h0 : 0 < val V) : val (U.drop k) = seg U k (V.length + 1) ∧ seg U k (V.length + 1) < 4294967296 * val V := by
  have hh := h.high hV
  obtain ⟨h1, h2, h3, h4, h5, h6⟩ := h
  have e := val_drop_seg k (V.length + 1) (fun i hi => hh i (by omega))
  refine ⟨e, ?_⟩
  rw [← e, val_drop U k (by omega)]
  have := h2.get k
  omega
/-- The next digit of the quotient. -/
theorem DmInv.next (h : DmInv U0 V m (k + 1) U Q) (hV : Lim V) (hk : k ≤ m) (h0 : 0 < val V) {U' : List Int} {q : Int} (hs : Same U U' k (V.length + 1)) (q0 : 0 ≤ q) (q1 : q < 4294967296) (he : seg U' k (V.length + 1) = seg U k (V.length + 1) - q * val V) (hlt : seg U' k (V.length + 1) < val V) :
    DmInv U0 V m k U' (Q.set k q) := by
  have hh := h.high hV
  have hf := (h.facts hV hk h0).1
  obtain ⟨h1, h2, h3, h4, h5, h6⟩ := h
  obtain ⟨s1, s2, s3, s4⟩ := hs
  have e' := val_drop_seg (U := U') k (V.length + 1) (fun i hi => by rw [s4 i hi]; exact hh i (by omega))
  refine ⟨by omega, s2, by simp [h3], h4.set k q0 q1, ?_, by rw [e']; exact hlt⟩
  have t1 := val_take_drop U k (by omega)
  have t2 := val_take_drop U' k (by omega)
  rw [set_drop_self Q k q (by omega), val_cons, t2, e', he, s3]
  rw [t1, hf, Int.pow_succ] at h5
  rw [← h5]
  grind
end
/-- The three highest limbs of a segment. -/
theorem seg_three (U : List Int) (j n : Nat) : seg U j (n + 3) = seg U j n + 4294967296 ^ n * ((U.getD (j + (n + 2)) 0 * 4294967296 + U.getD (j + (n + 1)) 0) * 4294967296 + U.getD (j + n) 0) := by
  rw [seg_succ, seg_succ, seg_succ, Int.pow_succ, Int.pow_succ]
  grind
theorem val_two {V : List Int} {n : Nat} (h : V.length = n + 2) : val V = val (V.take n) + 4294967296 ^ n * (V.getD (n + 1) 0 * 4294967296 + V.getD n 0) := by
  have h1 := val_take_succ' V n
  have h2 := val_take_succ' V (n + 1)
  rw [List.take_of_length_le (by omega)] at h2
  rw [h2, h1, Int.pow_succ]
  grind
/-- One round of the division: what guess, subtract and addBack come to. -/
theorem dm_round {U0 V U Q : List Int} {m k n : Nat} (h : DmInv U0 V m (k + 1) U Q) (hV : Lim V) (hn : V.length = n + 2) (hk : k ≤ m) (ht : 2147483648 ≤ V.getD (n + 1) 0) :
    U.getD (k + (n + 2)) 0 ≤ V.getD (n + 1) 0 ∧
    ∀ d, GuessP (U.getD (k + (n + 2)) 0) (U.getD (k + (n + 1)) 0) (U.getD (k + n) 0) (V.getD (n + 1) 0) (V.getD n 0) d →
    ∀ U1 t, Same U U1 k (V.length + 1) → seg U1 k (V.length + 1) + d * val V = seg U k (V.length + 1) + 4294967296 ^ (V.length + 1) * (if t < 0 then 1 else 0) →
    (¬ t < (0 : Int) → DmInv U0 V m k U1 (Q.set k (d % 4294967296))) ∧
    (t < (0 : Int) → 1 ≤ d ∧ ∀ U2, Same U1 U2 k (V.length + 1) → (∃ e : Int, 0 ≤ e ∧ seg U2 k (V.length + 1) + 4294967296 ^ (V.length + 1) * e = seg U1 k (V.length + 1) + val V) → DmInv U0 V m k U2 (Q.set k ((d - 1) % 4294967296))) := by
  have hl : Lim U := h.2.1
  have hv2 := val_two hn
  have hvt := val_nonneg (hV.take n)
  have hvl := val_lt (hV.take n)
  rw [List.length_take, Nat.min_eq_left (by omega)] at hvl
  have hv0 := (hV.get n)
  have hv1 := (hV.get (n + 1))
  have hpos : 0 < val V := by
    have := Int.mul_pos (bpos n) (show 0 < V.getD (n + 1) 0 * 4294967296 + V.getD n 0 by omega)
    omega
  have hf := (h.facts hV hk hpos).2
  have hs3 := seg_three U k n
  have hVn : V.length + 1 = n + 3 := by omega
  rw [hVn] at hf ⊢
  have hs0 := seg_nonneg hl k n
  have hs1 := seg_lt hl k n
  have hu2 := hl.get (k + (n + 2))
  have hu1 := hl.get (k + (n + 1))
  have hu0 := hl.get (k + n)
  constructor
  · by_cases hc : U.getD (k + (n + 2)) 0 ≤ V.getD (n + 1) 0
    · exact hc
    · exfalso
      have := Int.mul_le_mul_of_nonneg_left (show (V.getD (n + 1) 0 * 4294967296 + V.getD n 0 + 1) * 4294967296 ≤ (U.getD (k + (n + 2)) 0 * 4294967296 + U.getD (k + (n + 1)) 0) * 4294967296 + U.getD (k + n) 0 by omega) (Int.le_of_lt (bpos n))
      have e : (4294967296 : Int) ^ n * ((V.getD (n + 1) 0 * 4294967296 + V.getD n 0 + 1) * 4294967296) = 4294967296 * (4294967296 ^ n * (V.getD (n + 1) 0 * 4294967296 + V.getD n 0)) + 4294967296 * 4294967296 ^ n := by grind
      omega
  · intro d hd U1 t hs1' he1
    obtain ⟨g1, g2⟩ := guess_ok hd (bpos n) hs0 hs1 hvt hvl ht hv0.1 hs3 hv2 hf
    have d0 := hd.1
    have d1 := hd.2.1
    have l1 : Lim U1 := hs1'.2.1
    have p0 := seg_nonneg l1 k (n + 3)
    have p1 := seg_lt l1 k (n + 3)
    have eV : (d + 1) * val V = d * val V + val V := by grind
    constructor
    · intro hneg
      rw [if_neg hneg] at he1
      refine h.next hV hk hpos (by rw [hVn]; exact hs1') (by omega) (by omega) ?_ ?_ <;> rw [hVn]
      · rw [show d % 4294967296 = d from by omega]; omega
      · omega
    · intro hneg
      rw [if_pos hneg] at he1
      have d2 : 1 ≤ d := by
        by_cases d2 : 1 ≤ d
        · exact d2
        · exfalso
          have : d = 0 := by omega
          subst this
          have := seg_nonneg hl k (n + 3)
          omega
      refine ⟨d2, ?_⟩
      rintro U2 hs2 ⟨e, e0, he2⟩
      have l2 : Lim U2 := hs2.2.1
      have r0 := seg_nonneg l2 k (n + 3)
      have r1 := seg_lt l2 k (n + 3)
      have eV2 : (d - 1) * val V = d * val V - val V := by grind
      have hVb := val_lt hV
      rw [hn] at hVb
      have hpb : (4294967296 : Int) ^ (n + 3) = 4294967296 ^ (n + 2) * 4294967296 := Int.pow_succ _ _
      have hpb2 := bpos (n + 2)
      have ee : e = 1 := by
        by_cases e1 : e = 0
        · subst e1; omega
        · by_cases e2 : e = 1
          · exact e2
          · exfalso
            have := Int.mul_le_mul_of_nonneg_left (show (2 : Int) ≤ e by omega) (Int.le_of_lt (bpos (n + 3)))
            omega
      subst ee
      have hs12 : Same U U2 k (V.length + 1) := by
        rw [hVn]
        exact ⟨by rw [hs2.1, hs1'.1], l2, by rw [hs2.2.2.1, hs1'.2.2.1], fun i hi => by rw [hs2.2.2.2 i hi, hs1'.2.2.2 i hi]⟩
      refine h.next hV hk hpos hs12 (by omega) (by omega) ?_ ?_ <;> rw [hVn]
      · rw [show (d - 1) % 4294967296 = d - 1 from by omega]; omega
      · omega

theorem dm_start {x y U W : List Int} {m n : Nat} {p : Int} (hx : Lim x) (hy : Lim y) (hxl : x.length = m + (n + 2)) (hyl : y.length = n + 2) (hp : 0 < p) (hp1 : p ≤ 2147483648)
    (h1 : 2147483648 ≤ y.getD (n + 1) 0 * p) (h2 : (y.getD (n + 1) 0 + 1) * p ≤ 4294967296)
    (hU : U.length = x.length + 1) (lU : Lim U) (vU : val U = p * val x) (hW : W.length = y.length + 1) (lW : Lim W) (vW : val W = p * val y) :
    (W.take (n + 2)).length = n + 2 ∧ val (W.take (n + 2)) = p * val y ∧ 2147483648 ≤ (W.take (n + 2)).getD (n + 1) 0 ∧ DmInv U (W.take (n + 2)) m (m + 1) U (List.replicate (m + 1) 0) := by
  have a1 : (W.take (n + 2)).length = n + 2 := by rw [List.length_take]; omega
  have y1 := val_take_succ y (n + 1) (by omega)
  rw [List.take_of_length_le (by omega)] at y1
  have y2 := val_lt (hy.take (n + 1))
  rw [List.length_take, Nat.min_eq_left (by omega)] at y2
  have y3 := val_nonneg (hy.take (n + 1))
  have hyt := hy.get (n + 1)
  generalize y.getD (n + 1) 0 = t at *
  generalize val (y.take (n + 1)) = z at *
  have hb := bpos (n + 1)
  have hbe : (4294967296 : Int) ^ (n + 2) = 4294967296 ^ (n + 1) * 4294967296 := Int.pow_succ _ _
  have e1 : p * val y = p * z + 4294967296 ^ (n + 1) * (t * p) := by rw [y1]; grind
  have l1 : 4294967296 ^ (n + 1) * 2147483648 ≤ 4294967296 ^ (n + 1) * (t * p) := Int.mul_le_mul_of_nonneg_left h1 (by omega)
  have l2 : p * z + p ≤ p * 4294967296 ^ (n + 1) := by
    have := Int.mul_le_mul_of_nonneg_left (show z + 1 ≤ 4294967296 ^ (n + 1) by omega) (show 0 ≤ p by omega)
    rwa [Int.mul_add, Int.mul_one] at this
  have l3 : 4294967296 ^ (n + 1) * ((t + 1) * p) ≤ 4294967296 ^ (n + 1) * 4294967296 := Int.mul_le_mul_of_nonneg_left h2 (by omega)
  have l4 : (4294967296 : Int) ^ (n + 1) * ((t + 1) * p) = 4294967296 ^ (n + 1) * (t * p) + p * 4294967296 ^ (n + 1) := by grind
  have l5 : 0 ≤ p * z := Int.mul_nonneg (by omega) y3
  have a2 : val (W.take (n + 2)) = p * val y := by
    have w1 := val_take_drop W (n + 2) (by omega)
    have w2 := val_nonneg (lW.drop (n + 2))
    have w3 := val_nonneg (lW.take (n + 2))
    by_cases h : val (W.drop (n + 2)) = 0
    · rw [h] at w1; omega
    · have := Int.mul_le_mul_of_nonneg_left (show (1 : Int) ≤ val (W.drop (n + 2)) by omega) (Int.le_of_lt (bpos (n + 2)))
      omega
  have lV := lW.take (n + 2)
  refine ⟨a1, a2, ?_, ?_⟩
  · have v1 := val_take_succ (W.take (n + 2)) (n + 1) (by omega)
    rw [List.take_of_length_le (l := W.take (n + 2)) (by omega), a2] at v1
    have v2 := val_lt (lV.take (n + 1))
    rw [List.length_take, Nat.min_eq_left (by omega)] at v2
    by_cases h : 2147483648 ≤ (W.take (n + 2)).getD (n + 1) 0
    · exact h
    · exfalso
      have := Int.mul_le_mul_of_nonneg_left (show (W.take (n + 2)).getD (n + 1) 0 + 1 ≤ 2147483648 by omega) (show 0 ≤ (4294967296 : Int) ^ (n + 1) by omega)
      rw [Int.mul_add, Int.mul_one] at this
      omega
  · refine ⟨by omega, lU, by simp, Lim.zeros _, ?_, ?_⟩
    · rw [List.drop_of_length_le (by simp)]; simp [val]
    · rw [a2]
      have u1 := val_take_drop U (m + 1) (by omega)
      have u2 := val_nonneg (lU.take (m + 1))
      have x1 := val_lt hx
      rw [hxl] at x1
      have x2 : p * val x ≤ p * 4294967296 ^ (m + (n + 2)) - p := by
        have := Int.mul_le_mul_of_nonneg_left (show val x + 1 ≤ 4294967296 ^ (m + (n + 2)) by omega) (show 0 ≤ p by omega)
        rw [Int.mul_add, Int.mul_one] at this
        omega
      have x3 : (4294967296 : Int) ^ (m + (n + 2)) = 4294967296 ^ (m + 1) * 4294967296 ^ (n + 1) := by rw [← Int.pow_add]; congr 1; omega
      by_cases h : val (U.drop (m + 1)) < p * val y
      · exact h
      · exfalso
        have l6 : p * 4294967296 ^ (n + 1) ≤ 4294967296 ^ (n + 1) * 2147483648 := by
          rw [Int.mul_comm]; exact Int.mul_le_mul_of_nonneg_left hp1 (by omega)
        have l7 := Int.mul_le_mul_of_nonneg_left (show p * 4294967296 ^ (n + 1) ≤ val (U.drop (m + 1)) by omega) (Int.le_of_lt (bpos (m + 1)))
        rw [x3] at x2
        have l8 : (4294967296 : Int) ^ (m + 1) * (p * 4294967296 ^ (n + 1)) = p * (4294967296 ^ (m + 1) * 4294967296 ^ (n + 1)) := by grind
        omega
theorem dm_done {U0 V U Q : List Int} {m X Y : Nat} {p : Nat} (h : DmInv U0 V m 0 U Q) (hV : Lim V) (hp : 0 < p) (hU : val U0 = p * X) (hv : val V = p * Y) (hY : 0 < Y) :
    dig (nv Q) = dig (X / Y) ∧ dig (nv (U.take V.length) / p) = dig (X % Y) := by
  obtain ⟨h1, h2, h3, h4, h5, h6⟩ := h
  rw [List.drop_zero] at h5 h6
  have vl := val_lt hV
  have u0 := val_nonneg h2
  have e1 : val (U.take V.length) = val U := by
    have u1 := val_take_drop U V.length (by omega)
    have u2 := val_nonneg (h2.drop V.length)
    have u3 := val_nonneg (h2.take V.length)
    by_cases h : val (U.drop V.length) = 0
    · rw [h] at u1; omega
    · have := Int.mul_le_mul_of_nonneg_left (show (1 : Int) ≤ val (U.drop V.length) by omega) (Int.le_of_lt (bpos V.length))
      omega
  have e2 : nv (U.take V.length) = nv U := by unfold nv; rw [e1]
  have n1 := nv_val h2
  have n2 := nv_val h4
  rw [Int.pow_zero, Int.one_mul, hU, hv, ← n1, ← n2] at h5
  have h7 : nv U + nv Q * (p * Y) = p * X := by exact_mod_cast h5
  have h8 : nv U < p * Y := by
    rw [hv, ← n1] at h6
    exact_mod_cast h6
  have e3 : nv Q = X / Y := by
    have : (p * X) / (p * Y) = nv Q := by
      rw [← h7, Nat.add_mul_div_right _ _ (Nat.mul_pos hp hY), Nat.div_eq_of_lt h8]; omega
    rw [← this, Nat.mul_div_mul_left _ _ hp]
  have e4 : nv U = p * (X % Y) := by
    have : (p * X) % (p * Y) = nv U := by
      rw [← h7, Nat.add_mul_mod_self_right, Nat.mod_eq_of_lt h8]
    rw [← this, Nat.mul_mod_mul_left]
  rw [e2, e3, e4, Nat.mul_div_cancel_left _ hp]
  exact ⟨rfl, rfl⟩
end Go.Proofs.Ytdbpjnjgjmfomaa

/- The program's natural numbers, ninth part: DivMod, the small cases. -/
namespace Go.Proofs.Ytdbpjnjgjmfomaa
open Go.RowKit

abbrev New (w : World) : Nat → Prop := fun k => w.heap.size ≤ k
theorem Own.new {w w1 : World} {v : Value} {l : List Int} (h : Own w1 w.heap.size v l) (hl : Lim l) : NumV (New w) w1 v l := (h.num hl).mono (fun _ hk _ => hk.1)

set_option maxHeartbeats 2000000 in
set_option maxRecDepth 100000 in
theorem nat_DivMod_zero {S T : Nat → Prop} {v u : Value} {a b : List Int} (w : World) (ha : NumV S w v a) (hb : NumV T w u b) (hm : a.length ≤ 35184372088831) (hm' : b.length ≤ 35184372088831) (h0 : nv b = 0) :
    Calls Try.prog 89 #[v, u] w fun e w' => e = .returned (.tuple #[.slice none 0 0, .slice none 0 0, .bool false]) ∧ Below w.heap.size w w' := by
  obtain ⟨hla, A, c, rfl, hc, hr⟩ := id ha
  obtain ⟨hlb, B, c', rfl, hc', hr'⟩ := id hb
  have HL : (dig (nv a)).length ≤ 35184372088831 := Nat.le_trans (dig_len_le hla) hm
  have hB := As.mk (show dig (nv b) = [] by rw [h0, dig_zero])
  clear h0
  go_enter Try.func89, Try.ntmps89
  go_wp2_with fail
  refine (nat_trim _ ha (by omega)).mono ?_
  rintro e w' ⟨rfl, ⟨m, rfl⟩⟩
  go_wp2_with fail
  refine (nat_trim _ (hb.drewN m) (by omega)).mono ?_
  rintro e w' ⟨rfl, ⟨m2, rfl⟩⟩
  rw [hB.out]
  go_wp2_with fail
  go_ret3
  exact ⟨rfl, by repeat (first | exact Below.refl _ _ | apply Below.drewsN)⟩

set_option maxHeartbeats 2000000 in
set_option maxRecDepth 100000 in
theorem nat_DivMod_less {S T : Nat → Prop} {v u : Value} {a b : List Int} (w : World) (ha : NumV S w v a) (hb : NumV T w u b) (hm : a.length ≤ 35184372088831) (hm' : b.length ≤ 35184372088831) (h0 : nv a < nv b) :
    Calls Try.prog 89 #[v, u] w fun e w' => ∃ q r, e = .returned (.tuple #[q, r, .bool true]) ∧ NumV (New w) w' q (dig (nv a / nv b)) ∧ NumV (New w) w' r (dig (nv a % nv b)) ∧ Below w.heap.size w w' := by
  obtain ⟨hla, A, c, rfl, hc, hr⟩ := id ha
  obtain ⟨hlb, B, c', rfl, hc', hr'⟩ := id hb
  have HL : (dig (nv a)).length ≤ 35184372088831 := Nat.le_trans (dig_len_le hla) hm
  have HL' : (dig (nv b)).length ≤ 35184372088831 := Nat.le_trans (dig_len_le hlb) hm'
  have HA := ha.trim
  have HB := hb.trim
  have hC := As.mk (cmpI_neg h0)
  have hq := As.mk (show dig (nv a / nv b) = [] by rw [Nat.div_eq_of_lt h0, dig_zero])
  have hr2 := As.mk (show nv a % nv b = nv a from Nat.mod_eq_of_lt h0)
  obtain ⟨N, hN⟩ : ∃ N, (dig (nv b)).length = N := ⟨_, rfl⟩
  have hN0 : 0 < N := by
    rcases Nat.eq_zero_or_pos N with h | h
    · rw [h, dig_nil_iff] at hN; omega
    · exact h
  have hNb : ((N : Int) == 0) = false := beq_eq_false_iff_ne.2 (by omega)
  replace hN := As.mk hN
  clear h0
  go_enter Try.func89, Try.ntmps89
  go_wp2_with fail
  refine (nat_trim _ ha (by omega)).mono ?_
  rintro e w' ⟨rfl, ⟨m, rfl⟩⟩
  go_wp2_with fail
  refine (nat_trim _ (hb.drewN m) (by omega)).mono ?_
  rintro e w' ⟨rfl, ⟨m2, rfl⟩⟩
  rw [hN.out]
  go_wp2_with fail
  refine (nat_Cmp _ (HA.drewN _) (by rw [← hN.out]; exact HB.drewN _) (by omega) (by omega)).mono ?_
  rintro e w' ⟨rfl, ⟨m3, rfl⟩⟩
  rw [nv_dig, nv_dig, hC.out]
  go_wp2_with fail
  refine (nat_Norm _ (HA.drewN _) (by omega)).mono ?_
  rintro e w' ⟨v1, rfl, hown, hbel⟩
  rw [nv_dig] at hown
  go_wp2_with fail
  go_ret3
  exact ⟨_, _, rfl, by rw [hq.out]; exact NumV.nil _ _, by rw [hr2.out]; exact Own.new hown (Lim_dig _), ((Below.refl _ _).drewsN _).after (by simp) hbel⟩

theorem dig_one {b _x : Nat} (h : (dig b).length = 1) : 0 < (dig b).getD 0 0 ∧ (dig b).getD 0 0 < 4294967296 ∧ ((dig b).getD 0 0).toNat = b := by
  have h1 := dig_last_pos h
  have h2 := val_dig b
  rw [show dig b = [(dig b).getD 0 0] from by
    match hd : dig b, h with
    | [y], _ => rfl] at h2
  simp only [val] at h2
  omega
set_option maxHeartbeats 2000000 in
set_option maxRecDepth 100000 in
theorem nat_DivMod_one {S T : Nat → Prop} {v u : Value} {a b : List Int} (w : World) (ha : NumV S w v a) (hb : NumV T w u b) (hm : a.length ≤ 35184372088831) (hm' : b.length ≤ 35184372088831) (hle : nv b ≤ nv a) (h1 : (dig (nv b)).length = 1) :
    Calls Try.prog 89 #[v, u] w fun e w' => ∃ q r, e = .returned (.tuple #[q, r, .bool true]) ∧ NumV (New w) w' q (dig (nv a / nv b)) ∧ NumV (New w) w' r (dig (nv a % nv b)) ∧ Below w.heap.size w w' := by
  obtain ⟨hla, A, c, rfl, hc, hr⟩ := id ha
  obtain ⟨hlb, B, c', rfl, hc', hr'⟩ := id hb
  have HL : (dig (nv a)).length ≤ 35184372088831 := Nat.le_trans (dig_len_le hla) hm
  have HA := ha.trim
  have HB := hb.trim
  have hC := cmpI_nonneg hle
  have hC' := (cmpI_le (nv a) (nv b)).1
  obtain ⟨y0, y1, y2⟩ := dig_one (_x := 0) h1
  obtain ⟨bd, hB, hcb⟩ := HB.at 0 (by omega)
  subst hB
  obtain ⟨Y, hY⟩ : ∃ Y, (dig (nv b)).getD 0 0 = Y := ⟨_, rfl⟩
  rw [hY] at y0 y1 y2 hcb
  have hcb' : w.cell? bd = some (.int .u32 Y) := by simpa [Addr.add] using hcb
  obtain ⟨C, hCC⟩ : ∃ C, cmpI (nv a) (nv b) = C := ⟨_, rfl⟩
  rw [hCC] at hC hC'
  replace hCC := As.mk hCC
  replace y2 := As.mk y2
  replace h1 := As.mk h1
  clear hY hle
  go_enter Try.func89, Try.ntmps89
  go_wp2_with fail
  refine (nat_trim _ ha (by omega)).mono ?_
  rintro e w' ⟨rfl, ⟨m, rfl⟩⟩
  go_wp2_with fail
  refine (nat_trim _ (hb.drewN m) (by omega)).mono ?_
  rintro e w' ⟨rfl, ⟨m2, rfl⟩⟩
  rw [h1.out]
  go_wp2_with fail
  refine (nat_Cmp _ (HA.drewN _) (by rw [← h1.out]; exact HB.drewN _) (by omega) (by rw [h1.out]; omega)).mono ?_
  rintro e w' ⟨rfl, ⟨m3, rfl⟩⟩
  rw [nv_dig, nv_dig, hCC.out]
  go_wp2_with fail
  refine (nat_divSmall _ (HA.drewN _) (by omega) y0 y1).mono ?_
  rintro e w' ⟨q, r, rfl, hq, rfl, hb1⟩
  rw [nv_dig, y2.out] at hq
  rw [nv_dig, y2.out]
  have hR : nv a % nv b < 4294967296 := by
    have := Nat.mod_lt (nv a) (show 0 < nv b by have := y2.out; omega)
    have := y2.out
    omega
  obtain ⟨R, hRe⟩ : ∃ R, nv a % nv b = R := ⟨_, rfl⟩
  rw [hRe] at hR ⊢
  replace hRe := As.mk hRe
  go_wp2_with fail
  refine (nat_Of R _ (by omega)).mono ?_
  rintro e w2 ⟨r, rfl, hr2, hb2⟩
  go_wp2_with fail
  go_ret3
  have hs := hb1.size
  refine ⟨_, _, rfl, (hq.below hb2).mono ?_, ?_, ?_⟩
  · intro k hk _; exact hk
  · rw [hRe.out]
    exact hr2.mono (fun k hk _ => Nat.le_trans hs hk)
  · exact (((Below.refl _ _).drewsN _).after (by simp) hb1).after hs hb2
end Go.Proofs.Ytdbpjnjgjmfomaa
