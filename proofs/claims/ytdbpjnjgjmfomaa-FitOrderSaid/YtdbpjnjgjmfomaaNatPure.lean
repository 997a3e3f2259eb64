/- Sums, differences and products of lists of limbs: plain mathematics. -/
import Derived.Test.YtdbpjnjgjmfomaaNat2
namespace Go.Proofs.Ytdbpjnjgjmfomaa

theorem top_of_ge {l : List Int} {k : Nat} (h : Lim l) (hk : l.length = k + 1) (hv : (4294967296 : Int) ^ k ≤ val l) : Top l := by
  intro x hx e
  subst e
  have h1 := val_take_drop l k (by omega)
  have h2 := val_lt (h.take k)
  rw [List.length_take, Nat.min_eq_left (by omega)] at h2
  have h3 : l.drop k = [0] := by
    rw [List.getLast?_eq_getElem?, hk, Nat.add_sub_cancel, List.getElem?_eq_getElem (by omega)] at hx
    injection hx with hx
    rw [List.drop_eq_getElem_cons (by omega), hx, List.drop_of_length_le (by omega)]
  rw [h3] at h1
  simp only [val, Int.mul_zero, Int.add_zero] at h1
  omega
theorem eq_dig_of {l : List Int} {n : Nat} (h : Lim l) (hv : val l = n) (hk : l = [] ∨ ∃ k, l.length = k + 1 ∧ 4294967296 ^ k ≤ n) : l = dig n := by
  have ht : Top l := by
    rcases hk with rfl | ⟨k, hk, hn⟩
    · exact Top.nil
    · exact top_of_ge h hk (by have := powc k; omega)
  rw [eq_dig h ht, hv]; rfl
theorem dig_len_mono {m n : Nat} (h : m ≤ n) : (dig m).length ≤ (dig n).length := by
  rcases Nat.lt_or_ge (dig n).length (dig m).length with h1 | h1
  · have := dig_len_lt h1; omega
  · exact h1
theorem getD_ge (y : List Int) (k : Nat) (h : y.length ≤ k) : y.getD k 0 = 0 := by
  rw [List.getD_eq_getElem?_getD, List.getElem?_eq_none h]; rfl
theorem val_take_succ' (l : List Int) (i : Nat) : val (l.take (i + 1)) = val (l.take i) + 4294967296 ^ i * l.getD i 0 := by
  rcases Nat.lt_or_ge i l.length with h | h
  · exact val_take_succ l i h
  · rw [List.take_of_length_le (by omega), List.take_of_length_le h, getD_ge l i h]; omega

/-- A sum of limbs, k rounds on. -/
def AddInv (x y : List Int) (k : Nat) (c : Int) (out : List Int) : Prop :=
  out.length = k ∧ Lim out ∧ 0 ≤ c ∧ c ≤ 1 ∧ val out + 4294967296 ^ k * c = val (x.take k) + val (y.take k)
theorem AddInv.zero (x y : List Int) : AddInv x y 0 0 [] := ⟨rfl, Lim.nil, by omega, by omega, by simp [val]⟩
theorem AddInv.step {x y : List Int} {k : Nat} {c : Int} {out : List Int} (h : AddInv x y k c out) {t : Int} (ht : t = c + x.getD k 0 + y.getD k 0) (hx : Lim x) (hy : Lim y) :
    AddInv x y (k + 1) (t / 4294967296) (out ++ [t % 4294967296]) := by
  obtain ⟨h1, h2, h3, h4, h5⟩ := h
  have hx := hx.get k
  have hy := hy.get k
  refine ⟨by simp [h1], h2.append (Lim.mk (by omega) (by omega) Lim.nil), by omega, by omega, ?_⟩
  rw [val_snoc, h1, val_take_succ', val_take_succ', Int.pow_succ]
  have e : t % 4294967296 = t - 4294967296 * (t / 4294967296) := by omega
  rw [e, ht]
  grind
theorem AddInv.done {p q : Nat} {c : Int} {out : List Int} (h : AddInv (dig p) (dig q) (dig p).length c out) (hl : (dig q).length ≤ (dig p).length) :
    (c = 0 → out = dig (p + q)) ∧ (c ≠ 0 → out ++ [c % 4294967296] = dig (p + q)) := by
  obtain ⟨h1, h2, h3, h4, h5⟩ := h
  rw [List.take_of_length_le (Nat.le_refl _), List.take_of_length_le hl, val_dig, val_dig] at h5
  constructor
  · rintro rfl
    refine eq_dig_of h2 (by omega) ?_
    rcases hk : out with _ | ⟨z, s⟩
    · exact .inl rfl
    · refine .inr ⟨s.length, rfl, ?_⟩
      have h6 : (dig p).length = s.length + 1 := by rw [← h1, hk]; rfl
      have := dig_ge h6
      omega
  · intro hc
    have e : c = 1 := by omega
    subst e
    refine eq_dig_of (h2.append (Lim.mk (by omega) (by omega) Lim.nil)) ?_ (.inr ⟨(dig p).length, by simp [h1], ?_⟩)
    · rw [val_snoc, h1]
      have : (1 : Int) % 4294967296 = 1 := by omega
      rw [this]; omega
    · have h6 := powc (dig p).length
      have h7 := val_nonneg h2
      rw [Int.mul_one] at h5
      omega

theorem take_set_succ (l : List Int) (k : Nat) (v : Int) (h : k < l.length) : val ((l.set k v).take (k + 1)) = val (l.take k) + 4294967296 ^ k * v := by
  rw [val_take_succ _ k (by simpa using h), List.take_set_of_le (Nat.le_refl k)]
  congr 2
  rw [List.getD_eq_getElem?_getD, List.getElem?_set_self h]; rfl
/-- A difference of limbs, k rounds on. -/
def SubInv (x y : List Int) (k : Nat) (b : Int) (out : List Int) : Prop :=
  out.length = x.length ∧ Lim out ∧ 0 ≤ b ∧ b ≤ 1 ∧ val (out.take k) + val (y.take k) = val (x.take k) + 4294967296 ^ k * b
theorem SubInv.zero (x y : List Int) : SubInv x y 0 0 (List.replicate x.length 0) := ⟨by simp, Lim.zeros _, by omega, by omega, by simp [val]⟩
theorem SubInv.step {x y : List Int} {k : Nat} {b : Int} {out : List Int} (h : SubInv x y k b out) (hk : k < x.length) : ∀ d b' : Int, d + (b + y.getD k 0) = x.getD k 0 + 4294967296 * b' → 0 ≤ d → d < 4294967296 → 0 ≤ b' → b' ≤ 1 → SubInv x y (k + 1) b' (out.set k d) := by
  intro d b' hd h0 h1 g0 g1
  obtain ⟨h1, h2, h3, h4, h5⟩ := h
  refine ⟨by simp [h1], h2.set k h0 (by omega), g0, g1, ?_⟩
  rw [take_set_succ out k d (by omega), val_take_succ', val_take_succ', Int.pow_succ]
  have e : x.getD k 0 = d + (b + y.getD k 0) - 4294967296 * b' := by omega
  rw [e]
  grind
theorem SubInv.done {p q : Nat} {b : Int} {out : List Int} (h : SubInv (dig p) (dig q) (dig p).length b out) (hq : q ≤ p) : dig (nv out) = dig (p - q) := by
  obtain ⟨h1, h2, h3, h4, h5⟩ := h
  rw [List.take_of_length_le (Nat.le_of_eq h1), List.take_of_length_le (dig_len_mono hq), List.take_of_length_le (Nat.le_refl _), val_dig, val_dig] at h5
  have h6 := val_lt h2
  rw [h1] at h6
  have h7 := val_nonneg h2
  have : b = 0 := by
    by_cases hb : b < 1
    · omega
    · have : b = 1 := by omega
      subst this
      omega
  subst this
  congr 1
  unfold nv
  omega

/-- A product of limbs: i rounds of the outer loop and k of the inner one on. -/
def MulInv (x y : List Int) (i k : Nat) (c : Int) (out : List Int) : Prop :=
  out.length = x.length + y.length ∧ Lim out ∧ 0 ≤ c ∧ c < 4294967296 ∧ out.getD (i + y.length) 0 = 0 ∧
  val out + 4294967296 ^ (i + k) * c = val (x.take i) * val y + 4294967296 ^ i * (x.getD i 0 * val (y.take k))
def MulOut (x y : List Int) (i : Nat) (out : List Int) : Prop :=
  out.length = x.length + y.length ∧ Lim out ∧ val out = val (x.take i) * val y
theorem getD_set (l : List Int) (i j : Nat) (v : Int) (h : i ≠ j) : (l.set i v).getD j 0 = l.getD j 0 := by
  rw [List.getD_eq_getElem?_getD, List.getElem?_set_ne h, ← List.getD_eq_getElem?_getD]
theorem getD_of_lt {l : List Int} {j : Nat} (h : Lim l) (hv : val l < 4294967296 ^ j) : l.getD j 0 = 0 := by
  rcases Nat.lt_or_ge j l.length with hj | hj
  · have h1 := val_take_drop l j (by omega)
    have h2 := val_drop l j hj
    have h3 := val_nonneg (h.drop (j + 1))
    have h4 := val_nonneg (h.take j)
    have h5 := h.get j
    rw [h2] at h1
    by_cases h6 : l.getD j 0 < 1
    · omega
    · have h7 := Int.mul_le_mul_of_nonneg_left (show (1 : Int) ≤ l.getD j 0 + 4294967296 * val (l.drop (j + 1)) by omega) (Int.le_of_lt (bpos j))
      omega
  · exact getD_ge _ _ hj
theorem MulOut.zero (x y : List Int) : MulOut x y 0 (List.replicate (x.length + y.length) 0) := ⟨by simp, Lim.zeros _, by rw [val_zeros]; simp [val]⟩
theorem MulOut.start {x y : List Int} {i : Nat} {out : List Int} (h : MulOut x y i out) (hi : i ≤ x.length) (hx : Lim x) (hy : Lim y) : MulInv x y i 0 0 out := by
  obtain ⟨h1, h2, h3⟩ := h
  refine ⟨h1, h2, by omega, by omega, getD_of_lt h2 ?_, by simp [h3, val]⟩
  rw [h3, Int.pow_add]
  have h4 := val_lt (hx.take i)
  rw [List.length_take, Nat.min_eq_left hi] at h4
  have h5 := val_lt hy
  have h6 := val_nonneg (hx.take i)
  have h7 := val_nonneg hy
  exact Int.lt_of_le_of_lt (Int.mul_le_mul_of_nonneg_left (Int.le_of_lt h5) h6) (Int.mul_lt_mul_of_pos_right h4 (bpos _))
theorem MulInv.step {x y : List Int} {i k : Nat} {c : Int} {out : List Int} (h : MulInv x y i k c out) (hi : i < x.length) (hk : k < y.length) {t : Int} (ht : t = c + (x.getD i 0 * y.getD k 0 + out.getD (i + k) 0)) (h0 : 0 ≤ t) (h1 : t < 18446744073709551616) :
    MulInv x y i (k + 1) (t / 4294967296) (out.set (i + k) (t % 4294967296)) := by
  obtain ⟨h1, h2, h3, h4, h5, h6⟩ := h
  refine ⟨by simp [h1], h2.set _ (by omega) (by omega), by omega, by omega, ?_, ?_⟩
  · rw [getD_set _ _ _ _ (by omega)]; exact h5
  · rw [val_set _ _ _ (by omega), val_take_succ']
    have e : t % 4294967296 = t - 4294967296 * (t / 4294967296) := by omega
    have e2 : i + (k + 1) = (i + k) + 1 := by omega
    rw [e, e2, Int.pow_succ, ht]
    rw [Int.pow_add] at h6 ⊢
    grind
theorem MulInv.bound {x y : List Int} {i k : Nat} {c : Int} {out : List Int} (h : MulInv x y i k c out) (hx : Lim x) (hy : Lim y) :
    0 ≤ x.getD i 0 * y.getD k 0 ∧ x.getD i 0 * y.getD k 0 ≤ 18446744065119617025 ∧ 0 ≤ c ∧ c < 4294967296 ∧ 0 ≤ out.getD (i + k) 0 ∧ out.getD (i + k) 0 < 4294967296 := by
  have h1 := hx.get i
  have h2 := hy.get k
  have h3 := h.2.1.get (i + k)
  refine ⟨Int.mul_nonneg h1.1 h2.1, ?_, h.2.2.1, h.2.2.2.1, h3.1, h3.2⟩
  have := Int.mul_le_mul (show x.getD i 0 ≤ 4294967295 by omega) (show y.getD k 0 ≤ 4294967295 by omega) h2.1 (by omega)
  omega
theorem MulInv.stop {x y : List Int} {i : Nat} {c : Int} {out : List Int} (h : MulInv x y i y.length c out) (hi : i < x.length) : MulOut x y (i + 1) (out.set (i + y.length) c) := by
  obtain ⟨h1, h2, h3, h4, h5, h6⟩ := h
  refine ⟨by simp [h1], h2.set _ h3 h4, ?_⟩
  rw [val_set _ _ _ (by omega), h5, val_take_succ _ _ hi]
  rw [List.take_of_length_le (Nat.le_refl _)] at h6
  grind
theorem MulOut.done {p q : Nat} {out : List Int} (h : MulOut (dig p) (dig q) (dig p).length out) : dig (nv out) = dig (p * q) := by
  obtain ⟨h1, h2, h3⟩ := h
  rw [List.take_of_length_le (Nat.le_refl _), val_dig, val_dig] at h3
  congr 1
  unfold nv
  rw [h3]
  have : ((p * q : Nat) : Int) = (p : Int) * q := by push_cast; rfl
  omega
end Go.Proofs.Ytdbpjnjgjmfomaa
