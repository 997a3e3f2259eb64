/- Division of lists of limbs: plain mathematics. -/
import Derived.Test.YtdbpjnjgjmfomaaNatPure
namespace Go.Proofs.Ytdbpjnjgjmfomaa

theorem set_drop_self (l : List Int) (k : Nat) (v : Int) (h : k < l.length) : (l.set k v).drop k = v :: l.drop (k + 1) := by
  rw [List.drop_eq_getElem_cons (by simpa using h), List.getElem_set_self, List.drop_set_of_lt (by omega)]
/-- Division by a limb, the limbs from k on done. -/
def DivInv (a : List Int) (d : Int) (k : Nat) (r : Int) (out : List Int) : Prop :=
  out.length = a.length ∧ Lim out ∧ 0 ≤ r ∧ r < d ∧ val (out.drop k) * d + r = val (a.drop k)
theorem DivInv.start (a : List Int) (d : Int) (hd : 0 < d) : DivInv a d a.length 0 (List.replicate a.length 0) :=
  ⟨by simp, Lim.zeros _, by omega, hd, by rw [List.drop_of_length_le (by simp), List.drop_of_length_le (by simp)]; simp [val]⟩
theorem DivInv.step {a : List Int} {d : Int} {k : Nat} {r : Int} {out : List Int} (h : DivInv a d (k + 1) r out) (hk : k < a.length) (ha : Lim a) {t : Int} (ht : t = r * 4294967296 + a.getD k 0) :
    DivInv a d k (t % d) (out.set k (t / d)) ∧ 0 ≤ t / d ∧ t / d < 4294967296 ∧ 0 ≤ t % d ∧ t % d < d := by
  obtain ⟨h1, h2, h3, h4, h5⟩ := h
  have hx := ha.get k
  have g0 : 0 ≤ t / d := Int.ediv_nonneg (by omega) (by omega)
  have g1 : t / d < 4294967296 := Int.ediv_lt_of_lt_mul (by omega) (by omega)
  have g2 : 0 ≤ t % d := Int.emod_nonneg _ (by omega)
  have g3 : t % d < d := Int.emod_lt_of_pos _ (by omega)
  refine ⟨⟨by simp [h1], h2.set k g0 g1, g2, g3, ?_⟩, g0, g1, g2, g3⟩
  rw [set_drop_self out k _ (by omega), val_cons, val_drop a k hk, ← h5]
  have e := Int.mul_ediv_add_emod t d
  have e2 : t % d = t - d * (t / d) := by omega
  rw [e2, ht]
  grind
theorem DivInv.done {a out : List Int} {d r : Int} (h : DivInv a d 0 r out) (ha : Lim a) : dig (nv out) = dig (nv a / d.toNat) ∧ r = (nv a % d.toNat : Nat) := by
  obtain ⟨h1, h2, h3, h4, h5⟩ := h
  rw [List.drop_zero, List.drop_zero] at h5
  have ea := nv_val ha
  have eo := nv_val h2
  rw [← ea, ← eo] at h5
  obtain ⟨D, rfl⟩ : ∃ D : Nat, d = D := ⟨d.toNat, by omega⟩
  obtain ⟨R, rfl⟩ : ∃ R : Nat, r = R := ⟨r.toNat, by omega⟩
  rw [Int.toNat_natCast]
  have h6 : nv out * D + R = nv a := by exact_mod_cast h5
  have h7 : nv a / D = nv out := by
    rw [← h6, Nat.add_comm, Nat.add_mul_div_right _ _ (by omega), Nat.div_eq_of_lt (by omega)]; omega
  have h8 : nv a % D = R := by
    rw [← h6, Nat.add_comm, Nat.add_mul_mod_self_right, Nat.mod_eq_of_lt (by omega)]
  rw [h7, h8]
  exact ⟨rfl, rfl⟩

/-- A shift upwards by less than a limb, k limbs done. -/
def UpInv (a : List Int) (p : Int) (k : Nat) (c : Int) (out : List Int) : Prop :=
  out.length = a.length + 1 ∧ Lim out ∧ 0 ≤ c ∧ c < p ∧ val (out.take k) + 4294967296 ^ k * c = p * val (a.take k)
theorem UpInv.start (a : List Int) (p : Int) (hp : 0 < p) : UpInv a p 0 0 (List.replicate (a.length + 1) 0) := ⟨by simp, Lim.zeros _, by omega, hp, by simp [val]⟩
theorem UpInv.step {a : List Int} {p : Int} {k : Nat} {c : Int} {out : List Int} (h : UpInv a p k c out) (hk : k < a.length) (ha : Lim a) {t : Int} (ht : t = c + a.getD k 0 * p) :
    UpInv a p (k + 1) (t / 4294967296) (out.set k (t % 4294967296)) := by
  obtain ⟨h1, h2, h3, h4, h5⟩ := h
  have hx := ha.get k
  have h6 : a.getD k 0 * p ≤ 4294967295 * p := Int.mul_le_mul_of_nonneg_right (by omega) (by omega)
  have h7 : 0 ≤ a.getD k 0 * p := Int.mul_nonneg hx.1 (by omega)
  refine ⟨by simp [h1], h2.set k (by omega) (by omega), by omega, by omega, ?_⟩
  rw [take_set_succ out k _ (by omega), val_take_succ a k hk, Int.pow_succ]
  have e : t % 4294967296 = t - 4294967296 * (t / 4294967296) := by omega
  rw [e, ht]
  grind
theorem UpInv.done {a : List Int} {p c : Int} {out : List Int} (h : UpInv a p a.length c out) (hc : c < 4294967296) : (out.set a.length c).length = a.length + 1 ∧ Lim (out.set a.length c) ∧ val (out.set a.length c) = p * val a := by
  obtain ⟨h1, h2, h3, h4, h5⟩ := h
  refine ⟨by simp [h1], h2.set _ h3 hc, ?_⟩
  have := take_set_succ out a.length c (by omega)
  rw [List.take_of_length_le (by simp [h1])] at this
  rw [List.take_of_length_le (Nat.le_refl _)] at h5
  rw [this, h5]

/-- A shift downwards by less than a limb (p = 2^n, B = p * c), k limbs done. -/
def DownInv (a : List Int) (p : Int) (k : Nat) (out : List Int) : Prop :=
  out.length = a.length ∧ Lim out ∧ p * val (out.take k) + a.getD 0 0 % p = val (a.take k) + 4294967296 ^ k * (a.getD k 0 % p)
theorem DownInv.start (a : List Int) (p : Int) : DownInv a p 0 (List.replicate a.length 0) := ⟨by simp, Lim.zeros _, by simp [val]⟩
theorem down_limb {p c x y : Int} (hp : 0 < p) (hc : p * c = 4294967296) (hx : 0 ≤ x) (hx1 : x < 4294967296) (_hy : 0 ≤ y) : p * ((x + y * 4294967296) / p % 4294967296) = x - x % p + 4294967296 * (y % p) := by
  have c0 : 0 < c := by
    rcases Int.lt_trichotomy c 0 with h | h | h
    · have := Int.mul_neg_of_pos_of_neg hp h; omega
    · subst h; omega
    · exact h
  have e1 : (x + y * 4294967296) / p = x / p + y * c := by
    rw [← hc, show x + y * (p * c) = x + p * (y * c) from by grind, Int.add_mul_ediv_left _ _ (by omega)]
  have e2 : y * c = (y % p) * c + 4294967296 * (y / p) := by
    have := Int.mul_ediv_add_emod y p
    have e : y = p * (y / p) + y % p := by omega
    rw [← hc]
    generalize y / p = s at *
    generalize y % p = r at *
    rw [e]; grind
  have r0 : 0 ≤ y % p := Int.emod_nonneg _ (by omega)
  have r1 : y % p < p := Int.emod_lt_of_pos _ hp
  have x0 : 0 ≤ x / p := Int.ediv_nonneg hx (by omega)
  have x1 : x / p < c := Int.ediv_lt_of_lt_mul hp (by rw [Int.mul_comm]; omega)
  have s1 : (y % p) * c ≤ (p - 1) * c := Int.mul_le_mul_of_nonneg_right (by omega) (by omega)
  have s0 : 0 ≤ (y % p) * c := Int.mul_nonneg r0 (by omega)
  have e3 : (x / p + y * c) % 4294967296 = x / p + (y % p) * c := by
    rw [e2, ← Int.add_assoc, Int.add_mul_emod_self_left, Int.emod_eq_of_lt (by omega) (by rw [Int.sub_mul, hc] at s1; omega)]
  rw [e1, e3]
  have := Int.mul_ediv_add_emod x p
  grind
theorem DownInv.step {a : List Int} {p c : Int} {k : Nat} {out : List Int} (h : DownInv a p k out) (hk : k < a.length) (ha : Lim a) (hp : 0 < p) (hc : p * c = 4294967296) {t : Int} (ht : t = (a.getD k 0 + a.getD (k + 1) 0 * 4294967296) / p % 4294967296) :
    DownInv a p (k + 1) (out.set k t) := by
  obtain ⟨h1, h2, h3⟩ := h
  have hx := ha.get k
  have hy := ha.get (k + 1)
  have hl := down_limb hp hc hx.1 hx.2 hy.1
  rw [← ht] at hl
  refine ⟨by simp [h1], h2.set k (by omega) (by omega), ?_⟩
  rw [take_set_succ out k t (by omega), val_take_succ a k hk, Int.pow_succ]
  grind
theorem DownInv.done {a : List Int} {p : Int} {out : List Int} (h : DownInv a p a.length out) (ha : Lim a) (hp : 0 < p) : dig (nv out) = dig (nv a / p.toNat) := by
  obtain ⟨h1, h2, h3⟩ := h
  rw [List.take_of_length_le (Nat.le_of_eq h1), List.take_of_length_le (Nat.le_refl _), getD_ge a a.length (Nat.le_refl _)] at h3
  have ea := nv_val ha
  have eo := nv_val h2
  have g0 : 0 ≤ a.getD 0 0 % p := Int.emod_nonneg _ (by omega)
  have g1 : a.getD 0 0 % p < p := Int.emod_lt_of_pos _ hp
  simp only [Int.zero_emod, Int.mul_zero, Int.add_zero] at h3
  generalize a.getD 0 0 % p = r at *
  obtain ⟨P, rfl⟩ : ∃ P : Nat, p = P := ⟨p.toNat, by omega⟩
  obtain ⟨R, rfl⟩ : ∃ R : Nat, r = R := ⟨r.toNat, by omega⟩
  rw [← ea, ← eo] at h3
  have h6 : P * nv out + R = nv a := by exact_mod_cast h3
  congr 1
  rw [Int.toNat_natCast, ← h6, Nat.add_comm, Nat.add_mul_div_left _ _ (by omega), Nat.div_eq_of_lt (by omega)]; omega

/-- What the guess of a quotient digit is: the greatest digit that the highest limbs let in. -/
def GuessP (u2 u1 u0 v1 v0 d : Int) : Prop :=
  0 ≤ d ∧ d ≤ 4294967295 ∧ d * (v1 * 4294967296 + v0) ≤ (u2 * 4294967296 + u1) * 4294967296 + u0 ∧
  ∀ q : Int, q ≤ 4294967295 → q * (v1 * 4294967296 + v0) ≤ (u2 * 4294967296 + u1) * 4294967296 + u0 → q ≤ d
/-- The same, on the way. -/
def GuessInv (u2 u1 u0 v1 v0 d r : Int) : Prop :=
  0 ≤ d ∧ d ≤ 4294967297 ∧ 0 ≤ r ∧ d * v1 + r = u2 * 4294967296 + u1 ∧
  ∀ q : Int, q ≤ 4294967295 → q * (v1 * 4294967296 + v0) ≤ (u2 * 4294967296 + u1) * 4294967296 + u0 → q ≤ d
section
variable {u2 u1 u0 v1 v0 d r : Int}
theorem GuessInv.start (h2 : 0 ≤ u2) (h2' : u2 ≤ v1) (h1 : 0 ≤ u1) (h1' : u1 < 4294967296) (h0 : 0 ≤ u0) (h0' : u0 < 4294967296) (g1 : 2147483648 ≤ v1) (g1' : v1 < 4294967296) (g0 : 0 ≤ v0) :
    GuessInv u2 u1 u0 v1 v0 ((u2 * 4294967296 + u1) / v1) ((u2 * 4294967296 + u1) % v1) := by
  have e := Int.mul_ediv_add_emod (u2 * 4294967296 + u1) v1
  have r0 := Int.emod_nonneg (u2 * 4294967296 + u1) (show v1 ≠ 0 by omega)
  have r1 := Int.emod_lt_of_pos (u2 * 4294967296 + u1) (show 0 < v1 by omega)
  have d0 := Int.ediv_nonneg (show 0 ≤ u2 * 4294967296 + u1 by omega) (show 0 ≤ v1 by omega)
  generalize (u2 * 4294967296 + u1) / v1 = d at *
  generalize (u2 * 4294967296 + u1) % v1 = r at *
  refine ⟨d0, ?_, r0, by rw [Int.mul_comm]; exact e, ?_⟩
  · by_cases h : d ≤ 4294967297
    · exact h
    · have := Int.mul_le_mul_of_nonneg_left (show (4294967298 : Int) ≤ d by omega) (show 0 ≤ v1 by omega)
      omega
  · intro q hq hle
    by_cases h : q ≤ d
    · exact h
    · exfalso
      have h3 := Int.mul_le_mul_of_nonneg_right (show d + 1 ≤ q by omega) (show 0 ≤ v1 * 4294967296 + v0 by omega)
      have h4 : (d + 1) * (v1 * 4294967296 + v0) = (v1 * d + v1) * 4294967296 + (d + 1) * v0 := by grind
      have h5 : 0 ≤ (d + 1) * v0 := Int.mul_nonneg (by omega) g0
      omega
theorem GuessInv.stop (h : GuessInv u2 u1 u0 v1 v0 d r) (hd : d ≤ 4294967295) (hc : d * v0 ≤ r * 4294967296 + u0) : GuessP u2 u1 u0 v1 v0 d := by
  obtain ⟨h1, h2, h3, h4, h5⟩ := h
  refine ⟨h1, hd, ?_, h5⟩
  rw [← h4]
  have : d * (v1 * 4294967296 + v0) = d * v1 * 4294967296 + d * v0 := by grind
  omega
theorem GuessInv.less (h : GuessInv u2 u1 u0 v1 v0 d r) (g1 : 2147483648 ≤ v1) (_g0 : 0 ≤ v0) (h0 : 0 ≤ u0) (hc : 4294967295 < d ∨ r * 4294967296 + u0 < d * v0) : GuessInv u2 u1 u0 v1 v0 (d - 1) (r + v1) := by
  obtain ⟨h1, h2, h3, h4, h5⟩ := h
  have hd : 1 ≤ d := by
    by_cases hd : 1 ≤ d
    · exact hd
    · have : d = 0 := by omega
      subst this
      omega
  refine ⟨by omega, by omega, by omega, by rw [← h4]; grind, ?_⟩
  intro q hq hle
  have := h5 q hq hle
  rcases hc with hc | hc
  · omega
  · by_cases e : q = d
    · exfalso
      subst e
      rw [← h4] at hle
      have : q * (v1 * 4294967296 + v0) = q * v1 * 4294967296 + q * v0 := by grind
      omega
    · omega
theorem GuessInv.brk (h : GuessInv u2 u1 u0 v1 v0 d r) (h2 : u2 ≤ v1) (h1 : u1 < 4294967296) (h0 : 0 ≤ u0) (g1 : 2147483648 ≤ v1) (g1' : v1 < 4294967296) (g0 : 0 ≤ v0) (g0' : v0 < 4294967296) (hr : 4294967295 < r) (hr' : r ≤ 4294967295 + v1) : GuessP u2 u1 u0 v1 v0 d := by
  obtain ⟨i1, i2, i3, i4, i5⟩ := h
  have hd : d ≤ 4294967295 := by
    by_cases hd : d ≤ 4294967295
    · exact hd
    · exfalso
      have := Int.mul_le_mul_of_nonneg_right (show (4294967296 : Int) ≤ d by omega) (show 0 ≤ v1 by omega)
      omega
  refine ⟨i1, hd, ?_, i5⟩
  rw [← i4]
  have e : d * (v1 * 4294967296 + v0) = d * v1 * 4294967296 + d * v0 := by grind
  have l : d * v0 ≤ 4294967295 * 4294967295 := by
    have := Int.mul_le_mul hd (show v0 ≤ 4294967295 by omega) g0 (by omega)
    exact this
  omega
end
end Go.Proofs.Ytdbpjnjgjmfomaa
