/- Rows of bools of the call's own. -/
import Derived.Test.YtdbpjnjgjmfomaaOwnI
namespace Go.Proofs.Ytdbpjnjgjmfomaa
open Go.RowKit

def bvs (l : List Bool) : List Value := l.map Value.bool
theorem bvs_length (l : List Bool) : (bvs l).length = l.length := by simp [bvs]
theorem bvs_get (l : List Bool) (j : Nat) (h : j < l.length) : (bvs l)[j]? = some (.bool (l.getD j false)) := by
  simp [bvs, List.getElem?_eq_getElem h, List.getD_eq_getElem?_getD]
theorem bvs_append (a b : List Bool) : bvs (a ++ b) = bvs a ++ bvs b := by simp [bvs]
abbrev OwnB (w : World) (B : Nat) (v : Value) (l : List Bool) : Prop := w.ownsRow B 4 1 v l.length (bvs l)
theorem OwnB.kept {w w1 : World} {B : Nat} {v : Value} {l : List Bool} (h : OwnB w B v l) (hm : ∀ k, v.ownBlock = some k → w1.heap[k]? = w.heap[k]?) : OwnB w1 B v l := by
  refine ⟨h.1, ?_⟩
  rcases h.2 with h2 | ⟨g, cap, cur, rfl, hg, hh, r⟩
  · exact .inl h2
  · exact .inr ⟨g, cap, cur, rfl, hg, (hm g rfl).trans hh, r⟩
theorem OwnB.below {w w1 : World} {B : Nat} {v : Value} {l : List Bool} (h : OwnB w B v l) (hb : Below w.heap.size w w1) : OwnB w1 B v l :=
  h.kept (fun k hk => hb.block k (World.ownsRow.lt h k hk).2)
theorem OwnB.drewN {w : World} {B : Nat} {v : Value} {l : List Bool} (h : OwnB w B v l) (n : Nat) : OwnB (w.drewN n) B v l := h.below ((Below.refl _ _).drewsN n)
theorem OwnB.lower {w : World} {B B' : Nat} {v : Value} {l : List Bool} (h : OwnB w B v l) (hb : B' ≤ B) : OwnB w B' v l := by
  refine ⟨h.1, ?_⟩
  rcases h.2 with h2 | ⟨g, cap, cur, rfl, hg, r⟩
  · exact .inl h2
  · exact .inr ⟨g, cap, cur, rfl, Nat.le_trans hb hg, r⟩
theorem OwnB.lit (w : World) (B : Nat) (l : List Bool) (hb : B ≤ w.heap.size) (hm : l.length ≤ 9223372036854775807) : OwnB (w.alloc (.cells (bvs l).toArray 4)) B (.slice (some ⟨w.heap.size, 0, none⟩) l.length l.length) l := by
  have h := World.ownsRow_lit (base := B) (e := 4) (size := 1) w (bvs l).toArray l.length hb (by simpa [maxLen] using hm) (by simp [bvs])
  simpa using h
theorem OwnB.made (w : World) (B n : Nat) (hb : B ≤ w.heap.size) (hm : n ≤ 9223372036854775807) : OwnB (w.alloc (.cells (madeCells #[.bool false] n) 4)) B (.slice (some ⟨w.heap.size, 0, none⟩) n n) (List.replicate n false) := by
  have h := World.ownsRow_lit (base := B) (e := 4) (size := 1) w (madeCells #[.bool false] n) n hb (by simpa [maxLen] using hm) (by simp [size_madeCells])
  rw [toList_madeCells_one] at h
  have e : List.replicate n (Value.bool false) = bvs (List.replicate n false) := by simp [bvs]
  rw [e] at h
  simpa [OwnB] using h
theorem make_bools {P : Program} (t : TypeId) (ht : P.underlying t = some (.slice 4)) (hinfo : (P.info? 4).map (fun i => (i.zero, i.size, i.bytes)) = some (some (.bool false), 1, 1)) (l c : Nat) (hlc : l ≤ c) (hb : c ≤ 17592186044416) (W : World) :
    (Instr.makeSlice t (.int .i64 (l : Int)) (.int .i64 (c : Int))).run P W = .ok (.slice (some ⟨W.heap.size, 0, none⟩) l c) (W.alloc (.cells (madeCells #[.bool false] c) 4)) := by
  obtain ⟨i0, hi, hzz⟩ := Option.map_eq_some_iff.1 hinfo
  simp only [Prod.mk.injEq] at hzz
  obtain ⟨hz0, hz1, hz2⟩ := hzz
  have := run_make (P := P) W t 4 i0 (.bool false) ht hi hz0 .i64 .i64 (l : Int) (c : Int) (by omega) (by omega) (by rw [hz2]; omega) (by omega)
  rw [this, hz1]
  simp [Value.cells]
/-- A row of one limb and more lies in a block of its own. -/
theorem OwnB.form {w : World} {B : Nat} {v : Value} {l : List Bool} (h : OwnB w B v l) (h0 : 0 < l.length) : ∃ g cap, v = .slice (some ⟨g, 0, none⟩) l.length cap ∧ B ≤ g ∧ g < w.heap.size := by
  rcases h.2 with ⟨rfl, h1⟩ | ⟨g, cap, cur, rfl, hB, hh, _⟩
  · omega
  · exact ⟨g, cap, rfl, hB, (Array.getElem?_eq_some_iff.1 hh).1⟩
theorem OwnB.slice {w : World} {B : Nat} {v : Value} {l : List Bool} (h : OwnB w B v l) : ∃ A c, v = .slice A l.length c := by
  rcases h.2 with ⟨rfl, h1⟩ | ⟨g, cap, cur, rfl, _⟩
  · exact ⟨none, 0, by rw [h1]⟩
  · exact ⟨_, cap, rfl⟩
theorem OwnB.cell {w : World} {B g cap n : Nat} {l : List Bool} (h : OwnB w B (.slice (some ⟨g, 0, none⟩) n cap) l) (i : Nat) (hi : i < l.length) : w.cell? ⟨g, i, none⟩ = some (.bool (l.getD i false)) ∧ w.frozen? ⟨g, i, none⟩ = false := by
  rcases h.2 with ⟨h', _⟩ | ⟨g', cap', cur, h', hB, hh, hn, hm, hs, ht⟩
  · cases h'
  · injection h' with h1 h2 h3
    injection h1 with h1
    injection h1 with h1
    subst h1 h2 h3
    have h' : OwnB w B (.slice (some ⟨g, 0, none⟩) l.length cap) l := ⟨h.1, .inr ⟨g, cap, cur, rfl, hB, hh, hn, hm, hs, ht⟩⟩
    refine ⟨?_, World.ownsRow.frozenAt h' i⟩
    rw [World.ownsRow.cellAt h' i (by omega), bvs_get l i hi]
theorem OwnB.store {w : World} {B g cap n : Nat} {l : List Bool} (h : OwnB w B (.slice (some ⟨g, 0, none⟩) n cap) l) (i : Nat) (x : Bool) : OwnB (w.setCell ⟨g, i, none⟩ (.bool x)) B (.slice (some ⟨g, 0, none⟩) n cap) (l.set i x) := by
  obtain ⟨A, c, e⟩ := OwnB.slice h
  injection e with e1 e2 e3
  subst e2
  have := (World.ownsRow.stored h i (.bool x)).1
  rw [show (bvs l).set i (.bool x) = bvs (l.set i x) from by simp [bvs, List.map_set]] at this
  simpa [OwnB] using this
end Go.Proofs.Ytdbpjnjgjmfomaa
