/- Words for what a value reads as, and for rows of the call's own. -/
import Derived.Test.YtdbpjnjgjmfomaaProg
import Derived.Test.YtdbpjnjgjmfomaaLimb
import Derived.Below
import Derived.WalkKit
import Derived.KernelRfl
import Derived.Deep.QuietTactic
import Derived.BigQuiet
import Derived.Deep.LoopGhost
import Derived.Deep.DeepCutAuto
import Derived.Maps.AppendAt
import Derived.Deep.AppendLies
import Derived.Laws.OwnMore
import Derived.Laws.MakeOwn
import Derived.Lib.Hide
namespace Go.Proofs.Ytdbpjnjgjmfomaa
open Go.RowKit

/-- The world is the old one, some orders having been drawn. -/
structure Drawn (w w' : World) : Prop where mk :: (out : ∃ n, w' = w.drewN n)
theorem Drawn.refl (w : World) : Drawn w w := ⟨⟨0, rfl⟩⟩
theorem Drawn.step {w w' : World} (h : Drawn w w') (n : Nat) : Drawn w (w'.drewN n) := by
  obtain ⟨m, rfl⟩ := h
  exact ⟨⟨m + n, World.drewN_drewN ..⟩⟩
theorem _root_.Go.RowKit.Below.drewsN {B : Nat} {w W : World} (h : Below B w W) (n : Nat) : Below B w (W.drewN n) := ⟨h.os, h.tape, h.output, h.size, h.block⟩
theorem Drawn.below {w w' : World} (h : Drawn w w') : Below w.heap.size w w' := by
  obtain ⟨n, rfl⟩ := h
  exact (Below.refl _ _).drewsN n
theorem _root_.Go.RowKit.Below.after {B : Nat} {w w1 w2 : World} (h : Below B w w1) (hB : B ≤ w1.heap.size) (k : Below w1.heap.size w1 w2) : Below B w w2 :=
  h.trans (k.mono hB)
/-- A fact that the walk's simp doesn't look into. -/
structure As (p : Prop) : Prop where mk :: (out : p)

theorem ret_int {k : IntKind} {a b : Int} (h : a = b) : Ending.returned (.int k a) = .returned (.int k b) := by rw [h]

theorem val_int {k : IntKind} {a b : Int} (h : a = b) : Value.int k a = .int k b := by rw [h]

def u32s (l : List Int) : List Value := l.map (Value.int .u32)
theorem u32s_length (l : List Int) : (u32s l).length = l.length := by simp [u32s]
theorem u32s_append (a b : List Int) : u32s (a ++ b) = u32s a ++ u32s b := by simp [u32s]
theorem u32s_get (l : List Int) (j : Nat) (h : j < l.length) : (u32s l)[j]? = some (.int .u32 (l.getD j 0)) := by
  simp [u32s, List.getElem?_eq_getElem h, List.getD_eq_getElem?_getD]

/-- The cells from A on hold these values; all of them lie in blocks of S. -/
def Rd (S : Nat → Prop) (w : World) (A : Option Addr) (cs : List Value) : Prop :=
  cs ≠ [] → ∃ ad, A = some ad ∧ S ad.block ∧ ∀ (j : Nat) v, cs[j]? = some v → w.cell? (ad.add j) = some v
theorem Rd.step {S : Nat → Prop} {w w1 : World} {A : Option Addr} {cs : List Value} (h : Rd S w A cs) (hm : ∀ k, S k → k < w.heap.size → w1.heap[k]? = w.heap[k]?) : Rd S w1 A cs := fun hn => by
  obtain ⟨ad, e, hs, hc⟩ := h hn
  refine ⟨ad, e, hs, fun j v hj => ?_⟩
  have := hc j v hj
  have hb : (ad.add j).block = ad.block := by unfold Addr.add; split <;> rfl
  exact (World.cell?_of_block (by rw [hb]; exact hm _ hs (by rw [← hb]; exact World.block_lt_of_cell? w _ this))).trans this
theorem Rd.mono {S T : Nat → Prop} {w : World} {A : Option Addr} {cs : List Value} (h : Rd S w A cs) (hm : ∀ k, S k → k < w.heap.size → T k) : Rd T w A cs := fun hn => by
  obtain ⟨ad, e, hs, hc⟩ := h hn
  refine ⟨ad, e, hm _ hs ?_, hc⟩
  have h0 := hc 0 _ (List.getElem?_eq_getElem (List.length_pos_iff.2 hn))
  have hb : (ad.add 0).block = ad.block := by unfold Addr.add; split <;> rfl
  have := World.block_lt_of_cell? w _ h0
  rwa [hb] at this
theorem Rd.take {S : Nat → Prop} {w : World} {A : Option Addr} {cs : List Value} (h : Rd S w A cs) (n : Nat) : Rd S w A (cs.take n) := fun hn => by
  obtain ⟨ad, e, hs, hc⟩ := h (fun e => hn (by simp [e]))
  refine ⟨ad, e, hs, fun j v hj => hc j v ?_⟩
  rw [List.getElem?_take] at hj
  split at hj
  · exact hj
  · cases hj
theorem Rd.nil (S : Nat → Prop) (w : World) (A : Option Addr) : Rd S w A [] := fun h => absurd rfl h

/-- A value of type api.Nat reads as these limbs. -/
def NumV (S : Nat → Prop) (w : World) (v : Value) (l : List Int) : Prop := Lim l ∧ ∃ A c, v = .slice A l.length c ∧ l.length ≤ c ∧ Rd S w A (u32s l)
abbrev All : Nat → Prop := fun _ => True
theorem NumV.step {S : Nat → Prop} {w w1 : World} {v : Value} {l : List Int} (h : NumV S w v l) (hm : ∀ k, S k → k < w.heap.size → w1.heap[k]? = w.heap[k]?) : NumV S w1 v l := by
  obtain ⟨hl, A, c, rfl, hc, hr⟩ := h
  exact ⟨hl, A, c, rfl, hc, hr.step hm⟩
theorem NumV.mono {S T : Nat → Prop} {w : World} {v : Value} {l : List Int} (h : NumV S w v l) (hm : ∀ k, S k → k < w.heap.size → T k) : NumV T w v l := by
  obtain ⟨hl, A, c, rfl, hc, hr⟩ := h
  exact ⟨hl, A, c, rfl, hc, hr.mono hm⟩
theorem NumV.all {S : Nat → Prop} {w : World} {v : Value} {l : List Int} (h : NumV S w v l) : NumV All w v l := h.mono (fun _ _ _ => trivial)
theorem NumV.below {S : Nat → Prop} {w w1 : World} {v : Value} {l : List Int} (h : NumV S w v l) (hb : Below w.heap.size w w1) : NumV S w1 v l := h.step (fun k _ hk => hb.block k hk)
theorem NumV.drewN {S : Nat → Prop} {w : World} {v : Value} {l : List Int} (h : NumV S w v l) (n : Nat) : NumV S (w.drewN n) v l := h.below ((Below.refl _ _).drewsN n)
theorem NumV.alloc {S : Nat → Prop} {w : World} {v : Value} {l : List Int} (h : NumV S w v l) (o : Obj) : NumV S (w.alloc o) v l := h.below ((Below.refl _ _).alloc (Nat.le_refl _) o)
theorem NumV.lim {S : Nat → Prop} {w : World} {v : Value} {l : List Int} (h : NumV S w v l) : Lim l := h.1
theorem NumV.nil (S : Nat → Prop) (w : World) : NumV S w (.slice none 0 0) [] := ⟨Lim.nil, none, 0, rfl, Nat.le_refl _, Rd.nil _ _ _⟩
theorem NumV.empty (S : Nat → Prop) (w : World) (A : Option Addr) (c : Nat) : NumV S w (.slice A 0 c) [] := ⟨Lim.nil, A, c, rfl, Nat.zero_le _, Rd.nil _ _ _⟩
theorem NumV.len {S : Nat → Prop} {w : World} {A : Option Addr} {n c : Nat} {l : List Int} (h : NumV S w (.slice A n c) l) : n = l.length ∧ l.length ≤ c := by
  obtain ⟨_, A', c', e, hc, _⟩ := h
  injection e with e1 e2 e3
  subst e2 e3
  exact ⟨rfl, hc⟩
theorem NumV.rd {S : Nat → Prop} {w : World} {A : Option Addr} {n c : Nat} {l : List Int} (h : NumV S w (.slice A n c) l) : Rd S w A (u32s l) := by
  obtain ⟨_, A', c', e, hc, hr⟩ := h
  injection e with e1 e2 e3
  subst e1
  exact hr
/-- The limb at an index that is in range. -/
theorem NumV.at {S : Nat → Prop} {w : World} {A : Option Addr} {n c : Nat} {l : List Int} (h : NumV S w (.slice A n c) l) (i : Nat) (hi : i < l.length) : ∃ ad, A = some ad ∧ w.cell? (ad.add i) = some (.int .u32 (l.getD i 0)) := by
  obtain ⟨ad, e, _, hc⟩ := h.rd (fun e => by rw [← List.length_eq_zero_iff, u32s_length] at e; omega)
  exact ⟨ad, e, hc i _ (u32s_get l i hi)⟩
/-- Every limb, the address named once. -/
theorem NumV.cells {S : Nat → Prop} {w : World} {A : Option Addr} {n c : Nat} {l : List Int} (h : NumV S w (.slice A n c) l) (hl : 0 < l.length) : ∃ ad, A = some ad ∧ S ad.block ∧ ∀ i, i < l.length → w.cell? (ad.add i) = some (.int .u32 (l.getD i 0)) := by
  obtain ⟨ad, e, hs, hc⟩ := h.rd (fun e => by rw [← List.length_eq_zero_iff, u32s_length] at e; omega)
  exact ⟨ad, e, hs, fun i hi => hc i _ (u32s_get l i hi)⟩
theorem NumV.take {S : Nat → Prop} {w : World} {A : Option Addr} {n c : Nat} {l : List Int} (h : NumV S w (.slice A n c) l) (m c' : Nat) (hm : m ≤ l.length) (hc' : m ≤ c') : NumV S w (.slice A m c') (l.take m) := by
  refine ⟨h.1.take m, A, c', ?_, ?_, ?_⟩
  · rw [List.length_take, Nat.min_eq_left hm]
  · rw [List.length_take, Nat.min_eq_left hm]; exact hc'
  · have := h.rd.take m
    rwa [show (u32s l).take m = u32s (l.take m) from by simp [u32s, List.map_take]] at this

/-- A row of limbs of the call's own. -/
abbrev Own (w : World) (B : Nat) (v : Value) (l : List Int) : Prop := w.ownsRow B 100 1 v l.length (u32s l)
theorem Own.num {w : World} {B : Nat} {v : Value} {l : List Int} (h : Own w B v l) (hl : Lim l) : NumV (fun k => B ≤ k ∧ k < w.heap.size ∧ v.ownBlock = some k) w v l := by
  rcases h.2 with ⟨rfl, h0⟩ | ⟨g, cap, cur, rfl, hB, hh, hn, hm, hs, ht⟩
  · rw [List.length_eq_zero_iff] at h0; subst h0
    exact NumV.nil _ _
  · refine ⟨hl, some ⟨g, 0, none⟩, cap, rfl, hn, fun _ => ⟨⟨g, 0, none⟩, rfl, ⟨hB, (Array.getElem?_eq_some_iff.1 hh).1, rfl⟩, fun j v hj => h.cells (g := g) rfl j v hj⟩⟩
theorem Own.kept {w w1 : World} {B : Nat} {v : Value} {l : List Int} (h : Own w B v l) (hm : ∀ k, v.ownBlock = some k → w1.heap[k]? = w.heap[k]?) : Own w1 B v l := by
  refine ⟨h.1, ?_⟩
  rcases h.2 with h2 | ⟨g, cap, cur, rfl, hg, hh, r⟩
  · exact .inl h2
  · exact .inr ⟨g, cap, cur, rfl, hg, (hm g rfl).trans hh, r⟩
theorem Own.below {w w1 : World} {B : Nat} {v : Value} {l : List Int} (h : Own w B v l) (hb : Below w.heap.size w w1) : Own w1 B v l :=
  h.kept (fun k hk => hb.block k (World.ownsRow.lt h k hk).2)
theorem Own.drewN {w : World} {B : Nat} {v : Value} {l : List Int} (h : Own w B v l) (n : Nat) : Own (w.drewN n) B v l := h.below ((Below.refl _ _).drewsN n)
theorem Own.lower {w : World} {B B' : Nat} {v : Value} {l : List Int} (h : Own w B v l) (hb : B' ≤ B) : Own w B' v l := by
  refine ⟨h.1, ?_⟩
  rcases h.2 with h2 | ⟨g, cap, cur, rfl, hg, r⟩
  · exact .inl h2
  · exact .inr ⟨g, cap, cur, rfl, Nat.le_trans hb hg, r⟩
theorem Own.lit (w : World) (B : Nat) (l : List Int) (hb : B ≤ w.heap.size) (hm : l.length ≤ 9223372036854775807) : Own (w.alloc (.cells (u32s l).toArray 100)) B (.slice (some ⟨w.heap.size, 0, none⟩) l.length l.length) l := by
  have h := World.ownsRow_lit (base := B) (e := 100) (size := 1) w (u32s l).toArray l.length hb (by simpa [maxLen] using hm) (by simp [u32s])
  simpa using h
theorem Own.made (w : World) (B n : Nat) (hb : B ≤ w.heap.size) (hm : n ≤ 9223372036854775807) : Own (w.alloc (.cells (madeCells #[.int .u32 0] n) 100)) B (.slice (some ⟨w.heap.size, 0, none⟩) n n) (List.replicate n 0) := by
  have h := World.ownsRow_lit (base := B) (e := 100) (size := 1) w (madeCells #[.int .u32 0] n) n hb (by simpa [maxLen] using hm) (by simp [size_madeCells])
  rw [toList_madeCells_one] at h
  have e : List.replicate n (Value.int .u32 0) = u32s (List.replicate n 0) := by simp [u32s]
  rw [e] at h
  simpa [Own] using h
theorem Own.room (w : World) (B n : Nat) (hb : B ≤ w.heap.size) (hm : n ≤ 9223372036854775807) : Own (w.alloc (.cells (madeCells #[.int .u32 0] n) 100)) B (.slice (some ⟨w.heap.size, 0, none⟩) 0 n) [] := by
  have h := World.ownsRow_made (base := B) (e := 100) (size := 1) w (madeCells #[.int .u32 0] n) n hb (by simpa [maxLen] using hm) (by simp [size_madeCells])
  simpa [Own, u32s] using h
theorem make_nums {P : Program} (t : TypeId) (ht : P.underlying t = some (.slice 100)) (hinfo : (P.info? 100).map (fun i => (i.zero, i.size, i.bytes)) = some (some (.int .u32 0), 1, 4)) (l c : Nat) (hlc : l ≤ c) (hb : c ≤ 70368744177664) (W : World) :
    (Instr.makeSlice t (.int .i64 (l : Int)) (.int .i64 (c : Int))).run P W = .ok (.slice (some ⟨W.heap.size, 0, none⟩) l c) (W.alloc (.cells (madeCells #[.int .u32 0] c) 100)) := by
  obtain ⟨i0, hi, hzz⟩ := Option.map_eq_some_iff.1 hinfo
  simp only [Prod.mk.injEq] at hzz
  obtain ⟨hz0, hz1, hz2⟩ := hzz
  have := run_make (P := P) W t 100 i0 (.int .u32 0) ht hi hz0 .i64 .i64 (l : Int) (c : Int) (by omega) (by omega) (by rw [hz2]; omega) (by omega)
  rw [this, hz1]
  simp [Value.cells]
/-- A row of one limb and more lies in a block of its own. -/
theorem Own.form {w : World} {B : Nat} {v : Value} {l : List Int} (h : Own w B v l) (h0 : 0 < l.length) : ∃ g cap, v = .slice (some ⟨g, 0, none⟩) l.length cap ∧ B ≤ g ∧ g < w.heap.size := by
  rcases h.2 with ⟨rfl, h1⟩ | ⟨g, cap, cur, rfl, hB, hh, _⟩
  · omega
  · exact ⟨g, cap, rfl, hB, (Array.getElem?_eq_some_iff.1 hh).1⟩
theorem Own.slice {w : World} {B : Nat} {v : Value} {l : List Int} (h : Own w B v l) : ∃ A c, v = .slice A l.length c := by
  rcases h.2 with ⟨rfl, h1⟩ | ⟨g, cap, cur, rfl, _⟩
  · exact ⟨none, 0, by rw [h1]⟩
  · exact ⟨_, cap, rfl⟩
theorem Own.cell {w : World} {B g cap n : Nat} {l : List Int} (h : Own w B (.slice (some ⟨g, 0, none⟩) n cap) l) (i : Nat) (hi : i < l.length) : w.cell? ⟨g, i, none⟩ = some (.int .u32 (l.getD i 0)) ∧ w.frozen? ⟨g, i, none⟩ = false := by
  rcases h.2 with ⟨h', _⟩ | ⟨g', cap', cur, h', hB, hh, hn, hm, hs, ht⟩
  · cases h'
  · injection h' with h1 h2 h3
    injection h1 with h1
    injection h1 with h1
    subst h1 h2 h3
    have h' : Own w B (.slice (some ⟨g, 0, none⟩) l.length cap) l := ⟨h.1, .inr ⟨g, cap, cur, rfl, hB, hh, hn, hm, hs, ht⟩⟩
    refine ⟨?_, World.ownsRow.frozenAt h' i⟩
    rw [World.ownsRow.cellAt h' i (by omega), u32s_get l i hi]
theorem Own.store {w : World} {B g cap n : Nat} {l : List Int} (h : Own w B (.slice (some ⟨g, 0, none⟩) n cap) l) (i : Nat) (x : Int) : Own (w.setCell ⟨g, i, none⟩ (.int .u32 x)) B (.slice (some ⟨g, 0, none⟩) n cap) (l.set i x) := by
  obtain ⟨A, c, e⟩ := Own.slice h
  injection e with e1 e2 e3
  subst e2
  have := (World.ownsRow.stored h i (.int .u32 x)).1
  rw [show (u32s l).set i (.int .u32 x) = u32s (l.set i x) from by simp [u32s, List.map_set]] at this
  simpa [Own] using this
/-- A store into a block leaves alone what doesn't lie in it. -/
theorem NumV.set {S : Nat → Prop} {w : World} {v : Value} {l : List Int} (h : NumV S w v l) {p : Addr} (hp : ∀ k, S k → k < w.heap.size → k ≠ p.block) (u : Value) : NumV S (w.setCell p u) v l :=
  h.step (fun k hs hk => Below.heap_setCell w p u k (hp k hs hk))

section
variable {P : Program} {ops : Array Oper} {rest : List Oper} {o : Oper} {a : Act} {Q : Exit → Act → World → Prop}
/-- append(v, x...): v a row of the call's own, x any value that reads as limbs. -/
theorem append_nums {w0 W : World} (B : Nat) (hgd : o.guard = none) (s x : Operand) (t : TypeId) (S : Nat → Prop) (xs ys : List Int) (A : Option Addr) (m c : Nat)
    (ho : o.op = .call { callee := .builtin .append, args := #[s, x], argTypes := #[t, t] })
    (ht : P.underlying t = some (.slice 100)) (hinfo : (P.info? 100).map (fun i => (i.zero, i.size, i.bytes)) = some (some (.int .u32 0), 1, 4))
    (v : Value) (hs : a.eval s = v) (hx : a.eval x = .slice A m c)
    (HO : Own W B v xs) (HR : NumV S W (.slice A m c) ys) (HB : Below B w0 W) (hbase : B ≤ W.heap.size) (hl : xs.length + ys.length ≤ 35184372088832)
    (h : ∀ v1 w1, Own w1 B v1 (xs ++ ys) → Below B w0 w1 → W.grownBy w1 v.ownBlock → (v1.ownBlock = v.ownBlock ∨ v1.ownBlock = some W.heap.size) → wpList P ops Q rest (a.put o.dst v1) w1) :
    wpList P ops Q (o :: rest) a W := by
  obtain ⟨i0, hi, hzz⟩ := Option.map_eq_some_iff.1 hinfo
  simp only [Prod.mk.injEq] at hzz
  obtain ⟨hz0, hz1, hz2⟩ := hzz
  obtain ⟨rfl, hmc⟩ := HR.len
  have hrun : ∃ v1 w1, (Builtin.append_ #[t, t] o.type #[v, .slice A ys.length c]).run P W = .ok v1 w1 ∧ Own w1 B v1 (xs ++ ys) ∧ W.grownBy w1 v.ownBlock ∧ (v1.ownBlock = v.ownBlock ∨ v1.ownBlock = some W.heap.size) := by
    cases A with
    | none =>
      have hy : ys = [] := by
        by_cases hy : ys = []
        · exact hy
        · obtain ⟨ad, e, _⟩ := HR.rd (fun e => hy (by simpa [u32s] using e))
          cases e
      subst hy
      refine ⟨v, W, ?_, by simpa using HO, ⟨rfl, rfl, rfl, Nat.le_refl _, fun _ _ _ => rfl⟩, .inl rfl⟩
      rcases HO.2 with ⟨rfl, hn⟩ | ⟨g, cap, cur, rfl, _, _, hnc, _⟩
      · simp [Builtin.append_, run_underlying ht, sizeOf, typeInfo, hi, Builtin.lenOf, Builtin.firstCells]
      · simp [Builtin.append_, run_underlying ht, sizeOf, typeInfo, hi, Builtin.lenOf, Builtin.firstCells, hnc, storeCells]
    | some ad =>
      have hc : ∀ (j : Nat) u, (u32s ys)[j]? = some u → W.cell? (ad.add j) = some u := by
        intro j u hu
        obtain ⟨ad', e, _, hc⟩ := HR.rd (fun e => by rw [e] at hu; simp at hu)
        injection e with e
        subst e
        exact hc j u hu
      obtain ⟨v1, w1, hr, h2, h3, _, h5⟩ := run_append_own_at (P := P) W B t o.type 100 i0 (.int .u32 0) 1 4 ht hi hz0 hz1 hz2 rfl (by omega) v xs.length (u32s xs) HO ad ys.length c (u32s ys) (by simp [u32s]) hc
        (by intro u hu; simp only [u32s, List.mem_map] at hu; obtain ⟨q, _, rfl⟩ := hu; rfl) (by simp only [maxLen]; omega) (by omega) hbase
      exact ⟨v1, w1, hr, by simpa [Own, u32s] using h2, h3, h5⟩
  obtain ⟨v1, w1, hr, hown, hg, hat⟩ := hrun
  refine wpList_plain hgd fun K hK => ?_
  unfold Oper.wp execOp
  simp only [ho, resolve, invoke, builtin, Sem.run_bind, Sem.run_pure, Result.andThen_ok, List.map_toArray, List.map_cons, List.map_nil, hs, hx, hr]
  exact hK _ _ (h v1 w1 hown (HB.grown hg hbase (fun k hk => (World.ownsRow.lt HO k hk).1)) hg hat)
/-- append(v, y) of one limb, behind 'at_builtin': the world is the old one and the box of y. -/
theorem append_num {w0 W : World} (B : Nat) (hgd : o.guard = none) (s x : Operand) (t : TypeId) (xs : List Int) (y : Int)
    (ho : o.op = .call { callee := .builtin .append, args := #[s, x], argTypes := #[t, t] })
    (ht : P.underlying t = some (.slice 100)) (hinfo : (P.info? 100).map (fun i => (i.zero, i.size, i.bytes)) = some (some (.int .u32 0), 1, 4))
    (v : Value) (hs : a.eval s = v) (hx : a.eval x = .slice (some ⟨W.heap.size, 0, none⟩) 1 1)
    (HO : Own W B v xs) (HB : Below B w0 W) (hbase : B ≤ W.heap.size) (hl : xs.length + 1 ≤ 35184372088832)
    (h : ∀ v1 w1, Own w1 B v1 (xs ++ [y]) → Below B w0 w1 → W.grownBy w1 v.ownBlock → (v1.ownBlock = v.ownBlock ∨ ∃ b, v1.ownBlock = some b ∧ W.heap.size ≤ b) → wpList P ops Q rest (a.put o.dst v1) w1) :
    wpList P ops Q (o :: rest) a (W.alloc (.cells #[.int .u32 y] 100)) := by
  obtain ⟨i0, hi, hzz⟩ := Option.map_eq_some_iff.1 hinfo
  simp only [Prod.mk.injEq] at hzz
  obtain ⟨hz0, hz1, hz2⟩ := hzz
  refine wpList_append_own_at (W.alloc (.cells #[.int .u32 y] 100)) hgd s x t ho B 100 i0 (.int .u32 0) 1 4 ht hi hz0 hz1 hz2 rfl (by omega) v xs.length (u32s xs) hs (HO.alloc _) ⟨W.heap.size, 0, none⟩ 1 1 [.int .u32 y] hx rfl
    (World.news_of_block (cs := #[.int .u32 y]) (t := 100) (fr := (0, 0)) (heap_alloc_new W _)) (by simp [Value.oneCell']) (by simp only [maxLen]; omega) (by omega) (by simp; omega) ?_
  intro v1 w1 hown hg _ hat
  refine h v1 w1 (by simpa [Own, u32s] using hown) ((HB.alloc hbase _).grown hg (by simp; omega) (fun k hk => (World.ownsRow.lt HO k hk).1)) (World.grownBy.trans (World.grownBy_alloc W _ _) hg) ?_
  rcases hat with hat | hat
  · exact .inl hat
  · exact .inr ⟨_, hat, by simp⟩
end
end Go.Proofs.Ytdbpjnjgjmfomaa
