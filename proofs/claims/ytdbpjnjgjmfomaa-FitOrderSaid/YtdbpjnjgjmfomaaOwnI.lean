/- Rows of ints of the call's own. -/
import Derived.Test.YtdbpjnjgjmfomaaTab
namespace Go.Proofs.Ytdbpjnjgjmfomaa
open Go.RowKit

theorem i64s_append (a b : List Int) : i64s (a ++ b) = i64s a ++ i64s b := by simp [i64s]
abbrev OwnI (w : World) (B : Nat) (v : Value) (l : List Int) : Prop := w.ownsRow B 3 1 v l.length (i64s l)
theorem OwnI.ints {w : World} {B : Nat} {v : Value} {l : List Int} (h : OwnI w B v l) : IntsV (fun k => B ≤ k ∧ k < w.heap.size ∧ v.ownBlock = some k) w v l := by
  rcases h.2 with ⟨rfl, h0⟩ | ⟨g, cap, cur, rfl, hB, hh, hn, hm, hs, ht⟩
  · rw [List.length_eq_zero_iff] at h0; subst h0
    exact ⟨none, 0, rfl, Nat.le_refl _, Rd.nil _ _ _⟩
  · refine ⟨some ⟨g, 0, none⟩, cap, rfl, hn, fun _ => ⟨⟨g, 0, none⟩, rfl, ⟨hB, (Array.getElem?_eq_some_iff.1 hh).1, rfl⟩, fun j v hj => h.cells (g := g) rfl j v hj⟩⟩
theorem OwnI.kept {w w1 : World} {B : Nat} {v : Value} {l : List Int} (h : OwnI w B v l) (hm : ∀ k, v.ownBlock = some k → w1.heap[k]? = w.heap[k]?) : OwnI w1 B v l := by
  refine ⟨h.1, ?_⟩
  rcases h.2 with h2 | ⟨g, cap, cur, rfl, hg, hh, r⟩
  · exact .inl h2
  · exact .inr ⟨g, cap, cur, rfl, hg, (hm g rfl).trans hh, r⟩
theorem OwnI.below {w w1 : World} {B : Nat} {v : Value} {l : List Int} (h : OwnI w B v l) (hb : Below w.heap.size w w1) : OwnI w1 B v l :=
  h.kept (fun k hk => hb.block k (World.ownsRow.lt h k hk).2)
theorem OwnI.drewN {w : World} {B : Nat} {v : Value} {l : List Int} (h : OwnI w B v l) (n : Nat) : OwnI (w.drewN n) B v l := h.below ((Below.refl _ _).drewsN n)
theorem OwnI.lower {w : World} {B B' : Nat} {v : Value} {l : List Int} (h : OwnI w B v l) (hb : B' ≤ B) : OwnI w B' v l := by
  refine ⟨h.1, ?_⟩
  rcases h.2 with h2 | ⟨g, cap, cur, rfl, hg, r⟩
  · exact .inl h2
  · exact .inr ⟨g, cap, cur, rfl, Nat.le_trans hb hg, r⟩
theorem OwnI.lit (w : World) (B : Nat) (l : List Int) (hb : B ≤ w.heap.size) (hm : l.length ≤ 9223372036854775807) : OwnI (w.alloc (.cells (i64s l).toArray 3)) B (.slice (some ⟨w.heap.size, 0, none⟩) l.length l.length) l := by
  have h := World.ownsRow_lit (base := B) (e := 3) (size := 1) w (i64s l).toArray l.length hb (by simpa [maxLen] using hm) (by simp [i64s])
  simpa using h
theorem OwnI.made (w : World) (B n : Nat) (hb : B ≤ w.heap.size) (hm : n ≤ 9223372036854775807) : OwnI (w.alloc (.cells (madeCells #[.int .i64 0] n) 3)) B (.slice (some ⟨w.heap.size, 0, none⟩) n n) (List.replicate n 0) := by
  have h := World.ownsRow_lit (base := B) (e := 3) (size := 1) w (madeCells #[.int .i64 0] n) n hb (by simpa [maxLen] using hm) (by simp [size_madeCells])
  rw [toList_madeCells_one] at h
  have e : List.replicate n (Value.int .i64 0) = i64s (List.replicate n 0) := by simp [i64s]
  rw [e] at h
  simpa [OwnI] using h
theorem OwnI.room (w : World) (B n : Nat) (hb : B ≤ w.heap.size) (hm : n ≤ 9223372036854775807) : OwnI (w.alloc (.cells (madeCells #[.int .i64 0] n) 3)) B (.slice (some ⟨w.heap.size, 0, none⟩) 0 n) [] := by
  have h := World.ownsRow_made (base := B) (e := 3) (size := 1) w (madeCells #[.int .i64 0] n) n hb (by simpa [maxLen] using hm) (by simp [size_madeCells])
  simpa [OwnI, i64s] using h
theorem make_ints {P : Program} (t : TypeId) (ht : P.underlying t = some (.slice 3)) (hinfo : (P.info? 3).map (fun i => (i.zero, i.size, i.bytes)) = some (some (.int .i64 0), 1, 8)) (l c : Nat) (hlc : l ≤ c) (hb : c ≤ 17592186044416) (W : World) :
    (Instr.makeSlice t (.int .i64 (l : Int)) (.int .i64 (c : Int))).run P W = .ok (.slice (some ⟨W.heap.size, 0, none⟩) l c) (W.alloc (.cells (madeCells #[.int .i64 0] c) 3)) := by
  obtain ⟨i0, hi, hzz⟩ := Option.map_eq_some_iff.1 hinfo
  simp only [Prod.mk.injEq] at hzz
  obtain ⟨hz0, hz1, hz2⟩ := hzz
  have := run_make (P := P) W t 3 i0 (.int .i64 0) ht hi hz0 .i64 .i64 (l : Int) (c : Int) (by omega) (by omega) (by rw [hz2]; omega) (by omega)
  rw [this, hz1]
  simp [Value.cells]
/-- A row of one limb and more lies in a block of its own. -/
theorem OwnI.form {w : World} {B : Nat} {v : Value} {l : List Int} (h : OwnI w B v l) (h0 : 0 < l.length) : ∃ g cap, v = .slice (some ⟨g, 0, none⟩) l.length cap ∧ B ≤ g ∧ g < w.heap.size := by
  rcases h.2 with ⟨rfl, h1⟩ | ⟨g, cap, cur, rfl, hB, hh, _⟩
  · omega
  · exact ⟨g, cap, rfl, hB, (Array.getElem?_eq_some_iff.1 hh).1⟩
theorem OwnI.slice {w : World} {B : Nat} {v : Value} {l : List Int} (h : OwnI w B v l) : ∃ A c, v = .slice A l.length c := by
  rcases h.2 with ⟨rfl, h1⟩ | ⟨g, cap, cur, rfl, _⟩
  · exact ⟨none, 0, by rw [h1]⟩
  · exact ⟨_, cap, rfl⟩
theorem OwnI.cell {w : World} {B g cap n : Nat} {l : List Int} (h : OwnI w B (.slice (some ⟨g, 0, none⟩) n cap) l) (i : Nat) (hi : i < l.length) : w.cell? ⟨g, i, none⟩ = some (.int .i64 (l.getD i 0)) ∧ w.frozen? ⟨g, i, none⟩ = false := by
  rcases h.2 with ⟨h', _⟩ | ⟨g', cap', cur, h', hB, hh, hn, hm, hs, ht⟩
  · cases h'
  · injection h' with h1 h2 h3
    injection h1 with h1
    injection h1 with h1
    subst h1 h2 h3
    have h' : OwnI w B (.slice (some ⟨g, 0, none⟩) l.length cap) l := ⟨h.1, .inr ⟨g, cap, cur, rfl, hB, hh, hn, hm, hs, ht⟩⟩
    refine ⟨?_, World.ownsRow.frozenAt h' i⟩
    rw [World.ownsRow.cellAt h' i (by omega), i64s_get l i hi]
theorem OwnI.store {w : World} {B g cap n : Nat} {l : List Int} (h : OwnI w B (.slice (some ⟨g, 0, none⟩) n cap) l) (i : Nat) (x : Int) : OwnI (w.setCell ⟨g, i, none⟩ (.int .i64 x)) B (.slice (some ⟨g, 0, none⟩) n cap) (l.set i x) := by
  obtain ⟨A, c, e⟩ := OwnI.slice h
  injection e with e1 e2 e3
  subst e2
  have := (World.ownsRow.stored h i (.int .i64 x)).1
  rw [show (i64s l).set i (.int .i64 x) = i64s (l.set i x) from by simp [i64s, List.map_set]] at this
  simpa [OwnI] using this
end Go.Proofs.Ytdbpjnjgjmfomaa
