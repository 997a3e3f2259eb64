/- fit.Order: the indexes, the greatest ratio first, equal ones as they came; or the first error. -/
import Derived.Test.YtdbpjnjgjmfomaaStableS
import Derived.Test.YtdbpjnjgjmfomaaOrdLess
import Derived.Test.YtdbpjnjgjmfomaaFitCk
namespace Go.Proofs.Ytdbpjnjgjmfomaa
open Go.RowKit

/-- The ratio at an index. -/
def qi (es : List Rt) (x : Int) : Rat := qe (es.getD x.toNat rt0)
/-- The first k indexes, and zeros. -/
def idl (k n : Nat) : List Int := (List.range n).map (fun t => if t < k then (t : Int) else 0)
theorem idl_length (k n : Nat) : (idl k n).length = n := by simp [idl]
theorem idl_get (k n t : Nat) (h : t < n) : (idl k n).getD t 0 = if t < k then (t : Int) else 0 := by
  unfold idl
  rw [List.getD_eq_getElem?_getD, List.getElem?_map, List.getElem?_range h]; rfl
theorem idl_zero (n : Nat) : idl 0 n = List.replicate n 0 := by
  apply List.ext_getElem
  · simp [idl]
  · intro i h1 h2
    simp [idl]
theorem idl_set (k n : Nat) (_h : k < n) : (idl k n).set k (k : Int) = idl (k + 1) n := by
  apply List.ext_getElem?
  intro i
  rw [List.getElem?_set]
  by_cases hi : k = i
  · subst hi
    rw [if_pos rfl, if_pos (by rw [idl_length]; omega)]
    unfold idl
    rw [List.getElem?_map, List.getElem?_range (by omega)]
    simp
  · rw [if_neg hi]
    unfold idl
    rw [List.getElem?_map, List.getElem?_map]
    rcases Nat.lt_or_ge i n with h1 | h1
    · rw [List.getElem?_range h1]
      simp only [Option.map_some]
      congr 1
      by_cases h2 : i < k
      · rw [if_pos h2, if_pos (by omega)]
      · rw [if_neg h2, if_neg (by omega)]
    · rw [List.getElem?_eq_none (by simpa using h1)]; rfl
theorem idl_ins (q : Int → Rat) (n : Nat) : InsP q n (idl n n) 1 :=
  InsP.first (idl_length n n) (fun t h => by rw [idl_get n n t h, if_pos h])
theorem ckE_zero {es : List Rt} (h : ckE es = 0) : es.length ≤ 20 := by
  unfold ckE at h
  by_cases h1 : 20 < es.length
  · rw [if_pos h1] at h; omega
  · omega

set_option maxHeartbeats 8000000 in
set_option maxRecDepth 100000 in
theorem fit_Order {S : Nat → Prop} {A : Option Addr} {c : Nat} {es : List Rt} (w : World) (hv : RsV S w A es) (hm : es.length ≤ 140737488351232) (hl : Short es) :
    Calls Try.prog 40 #[.slice A es.length c] w fun e w' => Below w.heap.size w w' ∧ ((ckE es ≠ 0 ∧ e = .returned (.tuple #[.slice none 0 0, .int .i64 (ckE es)])) ∨
      (ckE es = 0 ∧ ∃ v l, e = .returned (.tuple #[v, .int .i64 0]) ∧ OwnI w' w.heap.size v l ∧ InsP (qi es) es.length l (max 1 es.length))) := by
  have HCk : As (∀ W, Below w.heap.size w W → Calls Try.prog 62 #[.slice A es.length c] W fun e w' => e = .returned (.int .i64 (ckE es)) ∧ Below W.heap.size W w') := ⟨fun W hb => fit_check W (hv.below hb) hm hl⟩
  have HL : As (es.length ≤ 20 → ∀ W, Below w.heap.size w W → W.cell? ⟨w.heap.size, 0, none⟩ = some (.slice A es.length c) → ∀ x y : Int, 0 ≤ x → x < (es.length : Int) → 0 ≤ y → y < (es.length : Int) → Calls Try.prog 78 #[.int .i64 x, .int .i64 y, .pointer (some ⟨w.heap.size, 0, none⟩)] W fun e w' => e = .returned (.int .i64 (cmpR (qi es y) (qi es x))) ∧ Below W.heap.size W w') := ⟨fun h20 W hb hp x y hx0 hx1 hy0 hy1 => by
    have := ord_less W hp (hv.below hb) hl h20 x.toNat y.toNat (by omega) (by omega)
    rw [Int.toNat_of_nonneg hx0, Int.toNat_of_nonneg hy0] at this
    exact this⟩
  have hE20 : ckE es = 0 → es.length ≤ 20 := ckE_zero
  obtain ⟨E, hE⟩ : ∃ E, ckE es = E := ⟨_, rfl⟩
  obtain ⟨q, hq⟩ : ∃ q, qi es = q := ⟨_, rfl⟩
  rw [hE] at HCk hE20 ⊢
  rw [hq] at HL ⊢
  clear hv hl hE hq
  generalize es.length = n at *
  go_enter Try.func40, Try.ntmps40
  go_wp2_with fail
  have hb1 := (Below.refl w.heap.size w).alloc (Nat.le_refl _) (Obj.cells #[.slice A n c] 49)
  refine (HCk.out _ hb1).mono ?_
  rintro e w2 ⟨rfl, hb2⟩
  have hp2 : w2.cell? ⟨w.heap.size, 0, none⟩ = some (.slice A n c) := cell_below (W := w.alloc (Obj.cells #[.slice A n c] 49)) (by simp [go_sem]) hb2
  have hz2 : w.heap.size < w2.heap.size := by have := hb2.size; simp at this; omega
  have hB2 := hb1.after (by simp) hb2
  clear hb1 hb2 HCk
  by_cases hE0 : E = 0
  case neg =>
    have hEb : (E == 0) = false := beq_eq_false_iff_ne.2 hE0
    replace hE0 := As.mk hE0
    clear HL hE20
    go_wp2_with fail
    go_ret2
    first
      | exact ⟨hB2, .inl ⟨hE0.out, rfl⟩⟩
      | exact ⟨hB2, hE0.out, rfl⟩
  subst hE0
  have h20 := hE20 rfl
  clear hE20
  have HL2 := As.mk (HL.out h20)
  clear HL
  have hmk : ∀ W, (Instr.makeSlice 28 (.int .i64 (n : Int)) (.int .i64 (n : Int))).run Try.prog W = .ok (.slice (some ⟨W.heap.size, 0, none⟩) n n) (W.alloc (.cells (madeCells #[.int .i64 0] n) 3)) :=
    fun W => make_ints 28 Try.underlying28 (by kernel_rfl) n n (by omega) (by omega) W
  go_wp2_with fail
  have hO := OwnI.made w2 (w.heap.size + 1) n (by omega) (by omega)
  have hB3 := (Below.refl w2.heap.size w2).alloc (Nat.le_refl _) (.cells (madeCells #[.int .i64 0] n) 3)
  rw [← idl_zero] at hO
  replace hB3 := hB3.mono (show w.heap.size + 1 ≤ w2.heap.size by omega)
  have hB20 := As.mk hB2
  have hp20 := As.mk hp2
  clear hB2 hp2
  generalize w2.alloc (.cells (madeCells #[.int .i64 0] n) 3) = W3 at *
  obtain ⟨g, hge⟩ : ∃ g, w2.heap.size = g := ⟨_, rfl⟩
  rw [hge] at hO hz2 ⊢
  go_loopw [6, 17] (fun _ v17 wr => ∃ k : Nat, k ≤ n ∧ v17 = .int .i64 k ∧ Below (w.heap.size + 1) w2 wr ∧ OwnI wr (w.heap.size + 1) (.slice (some ⟨g, 0, none⟩) n n) (idl k n)) (fun _ v17 _ => (n - intOf v17).toNat)
  case atStart => exact ⟨0, by omega, rfl, hB3, hO⟩
  case round =>
    clear hO hB3
    obtain ⟨k, hk, rfl, hB, hO⟩ := hrel
    by_cases hlt : k < n
    · have bk : ((k : Int) < (n : Int)) = True := eq_true (by omega)
      obtain ⟨hc, hf⟩ := hO.cell k (by rw [idl_length]; exact hlt)
      have hO1 := hO.store k (k : Int)
      rw [idl_set k n hlt] at hO1
      have hB1 : Below (w.heap.size + 1) w2 (wr.setCell ⟨g, k, none⟩ (.int .i64 (k : Int))) := hB.setCell (by show w.heap.size + 1 ≤ g; omega) _
      clear hO hB
      go_wp2_with fail
      go_roundw
      case rel => exact ⟨k + 1, by omega, by go_num, hB1, hO1⟩
      case measure => simp [intOf]; omega
    · obtain rfl : k = n := by omega
      have hsz : w.heap.size + 1 ≤ wr.heap.size := Nat.le_trans (by omega) hB.size
      have HS := As.mk (sl_sort (q := q) (pb := w.heap.size) hsz (by omega : w.heap.size + 1 ≤ g) hO (idl_ins q k) h20 ⟨fun W hW x y hx0 hx1 hy0 hy1 => by
        have hW2 : Below (w.heap.size + 1) w2 W := hB.trans hW
        have hWw : Below w.heap.size w W := hB20.out.trans (hW2.mono (by omega))
        exact HL2.out W hWw ((World.cell?_of_block (hW2.block _ (by show w.heap.size < _; omega))).trans hp20.out) x y hx0 hx1 hy0 hy1⟩)
      clear HL2 hO
      go_wp2_with fail
      refine HS.out.mono ?_
      rintro e w4 ⟨rfl, hB4, l', hO4, hP4⟩
      have hWw : Below w.heap.size w w4 := hB20.out.trans ((hB.trans hB4).mono (by omega))
      have hP5 := As.mk hP4
      clear hB hB4 HS hB20 hp20 hP4
      go_wp2_with fail
      go_ret2
      first
        | exact ⟨hWw, .inr ⟨rfl, _, l', rfl, hO4.lower (show w.heap.size ≤ w.heap.size + 1 by omega), hP5.out⟩⟩
        | exact ⟨hWw, _, rfl, l', hO4.lower (show w.heap.size ≤ w.heap.size + 1 by omega), hP5.out⟩
        | exact ⟨hWw, _, l', rfl, hO4.lower (show w.heap.size ≤ w.heap.size + 1 by omega), hP5.out⟩
end Go.Proofs.Ytdbpjnjgjmfomaa
