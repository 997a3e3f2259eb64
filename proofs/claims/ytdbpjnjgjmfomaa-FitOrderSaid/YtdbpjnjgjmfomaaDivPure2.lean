/- Knuth's division, its inner steps: plain mathematics. -/
import Derived.Test.YtdbpjnjgjmfomaaDivPure
namespace Go.Proofs.Ytdbpjnjgjmfomaa

/-- The k limbs from j on. -/
def seg (U : List Int) (j k : Nat) : Int := val ((U.drop j).take k)
theorem seg_zero (U : List Int) (j : Nat) : seg U j 0 = 0 := by simp [seg, val]
theorem seg_succ (U : List Int) (j k : Nat) : seg U j (k + 1) = seg U j k + 4294967296 ^ k * U.getD (j + k) 0 := by
  unfold seg
  rw [val_take_succ']
  congr 2
  rw [List.getD_eq_getElem?_getD, List.getElem?_drop, ← List.getD_eq_getElem?_getD]
theorem seg_set_hi (U : List Int) (j k : Nat) (v : Int) : seg (U.set (j + k) v) j k = seg U j k := by
  unfold seg
  rw [List.drop_set, if_neg (by omega), Nat.add_sub_cancel_left, List.take_set_of_le (Nat.le_refl _)]
theorem getD_set_self (U : List Int) (i : Nat) (v : Int) (h : i < U.length) : (U.set i v).getD i 0 = v := by
  rw [List.getD_eq_getElem?_getD, List.getElem?_set_self h]; rfl
theorem seg_set (U : List Int) (j k : Nat) (v : Int) (h : j + k < U.length) : seg (U.set (j + k) v) j (k + 1) = seg U j k + 4294967296 ^ k * v := by
  rw [seg_succ, seg_set_hi, getD_set_self _ _ _ h]
/-- What a step inside leaves alone. -/
def Same (U0 U : List Int) (j k : Nat) : Prop := U.length = U0.length ∧ Lim U ∧ U.take j = U0.take j ∧ ∀ i, j + k ≤ i → U.getD i 0 = U0.getD i 0
theorem Same.refl {U : List Int} (h : Lim U) (j k : Nat) : Same U U j k := ⟨rfl, h, rfl, fun _ _ => rfl⟩
theorem Same.set {U0 U : List Int} {j k : Nat} (h : Same U0 U j k) {v : Int} (h0 : 0 ≤ v) (h1 : v < 4294967296) : Same U0 (U.set (j + k) v) j (k + 1) := by
  obtain ⟨a, b, c, d⟩ := h
  refine ⟨by simp [a], b.set _ h0 h1, by rw [List.take_set_of_le (by omega)]; exact c, fun i hi => ?_⟩
  rw [getD_set _ _ _ _ (by omega)]
  exact d i (by omega)

/-- d * V is taken off from j on, k limbs done. -/
def TakeInv (U0 V : List Int) (d : Int) (j k : Nat) (b c : Int) (U : List Int) : Prop :=
  Same U0 U j k ∧ 0 ≤ b ∧ b ≤ 1 ∧ 0 ≤ c ∧ c < 4294967296 ∧ seg U j k + d * val (V.take k) = seg U0 j k + 4294967296 ^ k * (b + c)
theorem TakeInv.start {U V : List Int} {d : Int} {j : Nat} (h : Lim U) : TakeInv U V d j 0 0 0 U := ⟨Same.refl h j 0, by omega, by omega, by omega, by omega, by simp [seg_zero, val]⟩
theorem TakeInv.bound {U0 U V : List Int} {d b c : Int} {j k : Nat} (h : TakeInv U0 V d j k b c U) (hV : Lim V) (d0 : 0 ≤ d) (d1 : d ≤ 4294967295) :
    0 ≤ d * V.getD k 0 ∧ d * V.getD k 0 ≤ 18446744065119617025 ∧ 0 ≤ U.getD (j + k) 0 ∧ U.getD (j + k) 0 < 4294967296 := by
  have h1 := hV.get k
  have h2 := h.1.2.1.get (j + k)
  have := Int.mul_le_mul d1 (show V.getD k 0 ≤ 4294967295 by omega) h1.1 (by omega)
  exact ⟨Int.mul_nonneg d0 h1.1, by omega, h2.1, h2.2⟩
theorem TakeInv.step {U0 U V : List Int} {d b c : Int} {j k : Nat} (h : TakeInv U0 V d j k b c U) (hk : j + k < U0.length) {s t : Int} (hs : s = c + d * V.getD k 0) (s0 : 0 ≤ s) (s1 : s < 18446744073709551616) (ht : t = U.getD (j + k) 0 - b - s % 4294967296)
    (u0 : 0 ≤ U.getD (j + k) 0) (u1 : U.getD (j + k) 0 < 4294967296) :
    TakeInv U0 V d j (k + 1) (if t < 0 then 1 else 0) (s / 4294967296) (U.set (j + k) (t % 4294967296)) := by
  obtain ⟨h1, h2, h3, h4, h5, h6⟩ := h
  have e0 := h1.2.2.2 (j + k) (Nat.le_refl _)
  refine ⟨h1.set (by omega) (by omega), by split <;> omega, by split <;> omega, by omega, by omega, ?_⟩
  rw [seg_set _ _ _ _ (by rw [h1.1]; exact hk), val_take_succ', seg_succ, Int.pow_succ, ← e0]
  have e1 : t % 4294967296 = t + 4294967296 * (if t < 0 then 1 else 0) := by split <;> omega
  have e2 : s % 4294967296 = s - 4294967296 * (s / 4294967296) := by omega
  generalize (if t < 0 then (1 : Int) else 0) = b' at *
  rw [e1, ht, e2, hs]
  grind
theorem TakeInv.done {U0 U V : List Int} {d b c : Int} {j : Nat} (h : TakeInv U0 V d j V.length b c U) (hk : j + V.length < U0.length) {t : Int} (ht : t = U.getD (j + V.length) 0 - b - c) (u0 : 0 ≤ U.getD (j + V.length) 0) (u1 : U.getD (j + V.length) 0 < 4294967296) :
    Same U0 (U.set (j + V.length) (t % 4294967296)) j (V.length + 1) ∧ seg (U.set (j + V.length) (t % 4294967296)) j (V.length + 1) + d * val V = seg U0 j (V.length + 1) + 4294967296 ^ (V.length + 1) * (if t < 0 then 1 else 0) := by
  obtain ⟨h1, h2, h3, h4, h5, h6⟩ := h
  have e0 := h1.2.2.2 (j + V.length) (Nat.le_refl _)
  refine ⟨h1.set (by omega) (by omega), ?_⟩
  rw [List.take_of_length_le (Nat.le_refl _)] at h6
  rw [seg_set _ _ _ _ (by rw [h1.1]; exact hk), seg_succ, Int.pow_succ, ← e0]
  have e1 : t % 4294967296 = t + 4294967296 * (if t < 0 then 1 else 0) := by split <;> omega
  generalize (if t < 0 then (1 : Int) else 0) = b' at *
  rw [e1, ht]
  grind

/-- V is added from j on, k limbs done. -/
def BackInv (U0 V : List Int) (j k : Nat) (c : Int) (U : List Int) : Prop :=
  Same U0 U j k ∧ 0 ≤ c ∧ c ≤ 1 ∧ seg U j k + 4294967296 ^ k * c = seg U0 j k + val (V.take k)
theorem BackInv.start {U V : List Int} {j : Nat} (h : Lim U) : BackInv U V j 0 0 U := ⟨Same.refl h j 0, by omega, by omega, by simp [seg_zero, val]⟩
theorem BackInv.step {U0 U V : List Int} {c : Int} {j k : Nat} (h : BackInv U0 V j k c U) (hk : j + k < U0.length) (hV : Lim V) {t : Int} (ht : t = c + (U.getD (j + k) 0 + V.getD k 0)) :
    BackInv U0 V j (k + 1) (t / 4294967296) (U.set (j + k) (t % 4294967296)) := by
  obtain ⟨h1, h2, h3, h4⟩ := h
  have e0 := h1.2.2.2 (j + k) (Nat.le_refl _)
  have u := h1.2.1.get (j + k)
  have v := hV.get k
  refine ⟨h1.set (by omega) (by omega), by omega, by omega, ?_⟩
  rw [seg_set _ _ _ _ (by rw [h1.1]; exact hk), val_take_succ', seg_succ, Int.pow_succ, ← e0]
  have e2 : t % 4294967296 = t - 4294967296 * (t / 4294967296) := by omega
  rw [e2, ht]
  grind
theorem BackInv.done {U0 U V : List Int} {c : Int} {j : Nat} (h : BackInv U0 V j V.length c U) (hk : j + V.length < U0.length) {t : Int} (ht : t = U.getD (j + V.length) 0 + c) :
    Same U0 (U.set (j + V.length) (t % 4294967296)) j (V.length + 1) ∧ ∃ e : Int, 0 ≤ e ∧ seg (U.set (j + V.length) (t % 4294967296)) j (V.length + 1) + 4294967296 ^ (V.length + 1) * e = seg U0 j (V.length + 1) + val V := by
  obtain ⟨h1, h2, h3, h4⟩ := h
  have e0 := h1.2.2.2 (j + V.length) (Nat.le_refl _)
  have u := h1.2.1.get (j + V.length)
  refine ⟨h1.set (by omega) (by omega), t / 4294967296, by omega, ?_⟩
  rw [List.take_of_length_le (Nat.le_refl _)] at h4
  rw [seg_set _ _ _ _ (by rw [h1.1]; exact hk), seg_succ, Int.pow_succ, ← e0]
  have e2 : t % 4294967296 = t - 4294967296 * (t / 4294967296) := by omega
  rw [e2, ht]
  grind
end Go.Proofs.Ytdbpjnjgjmfomaa
