/- Knuth's division, its outer loop: plain mathematics. -/
import Derived.Test.YtdbpjnjgjmfomaaDivPure2
namespace Go.Proofs.Ytdbpjnjgjmfomaa

theorem seg_nonneg {U : List Int} (h : Lim U) (j k : Nat) : 0 ≤ seg U j k := val_nonneg ((h.drop j).take k)
theorem seg_lt {U : List Int} (h : Lim U) (j k : Nat) : seg U j k < 4294967296 ^ k := by
  have h1 := val_lt ((h.drop j).take k)
  have h2 : ((U.drop j).take k).length ≤ k := List.length_take_le _ _
  have h3 : (4294967296 : Int) ^ ((U.drop j).take k).length ≤ 4294967296 ^ k := Int.pow_le_pow_right₀ h2
  unfold seg
  omega
where
  Int.pow_le_pow_right₀ {a b : Nat} (h : a ≤ b) : (4294967296 : Int) ^ a ≤ 4294967296 ^ b := by
    have := Nat.pow_le_pow_right (n := 4294967296) (by omega) h
    have e1 := powc a
    have e2 := powc b
    omega
/-- The guess is right, or one too great. -/
theorem guess_ok {u2 u1 u0 v1 v0 d b sl vl : Int} (h : GuessP u2 u1 u0 v1 v0 d) (hb : 0 < b) (s0 : 0 ≤ sl) (s1 : sl < b) (l0 : 0 ≤ vl) (l1 : vl < b) (hv : 2147483648 ≤ v1) (g0 : 0 ≤ v0)
    {S V : Int} (hS : S = sl + b * ((u2 * 4294967296 + u1) * 4294967296 + u0)) (hV : V = vl + b * (v1 * 4294967296 + v0)) (hlt : S < 4294967296 * V) :
    S < (d + 1) * V ∧ d * V ≤ S + V := by
  obtain ⟨h1, h2, h3, h4⟩ := h
  generalize hU3 : (u2 * 4294967296 + u1) * 4294967296 + u0 = U3 at *
  obtain ⟨V2, hV2⟩ : ∃ V2, v1 * 4294967296 + v0 = V2 := ⟨_, rfl⟩
  rw [hV2] at h3 h4 hV
  constructor
  · by_cases hq : S < (d + 1) * V
    · exact hq
    · exfalso
      by_cases hd : d = 4294967295
      · subst hd; omega
      · have h5 := h4 (d + 1) (by omega) (by
          by_cases h6 : (d + 1) * V2 ≤ U3
          · exact h6
          · exfalso
            have h7 := Int.mul_le_mul_of_nonneg_left (show U3 + 1 ≤ (d + 1) * V2 by omega) (show 0 ≤ b by omega)
            have h8 : (d + 1) * V = (d + 1) * vl + b * ((d + 1) * V2) := by rw [hV]; grind
            have h9 : 0 ≤ (d + 1) * vl := Int.mul_nonneg (by omega) l0
            rw [Int.mul_add, Int.mul_one] at h7
            omega)
        omega
  · by_cases hd : d = 0
    · subst hd
      have : 0 ≤ V := by
        have := Int.mul_nonneg (show 0 ≤ b by omega) (show 0 ≤ V2 by omega)
        omega
      have : 0 ≤ S := by
        have := Int.mul_nonneg (show 0 ≤ b by omega) (show 0 ≤ U3 by omega)
        omega
      omega
    · have h5 := Int.mul_le_mul_of_nonneg_left h3 (show 0 ≤ b by omega)
      have h6 : d * V = d * vl + b * (d * V2) := by rw [hV]; grind
      have h7 : (d - 1) * vl ≤ (d - 1) * b := Int.mul_le_mul_of_nonneg_left (by omega) (by omega)
      have h8 : (d - 1) * b ≤ V2 * b := Int.mul_le_mul_of_nonneg_right (by omega) (by omega)
      have h9 : d * vl = (d - 1) * vl + vl := by grind
      have h10 : V2 * b = b * V2 := Int.mul_comm _ _
      omega

def DmInv (U0 V : List Int) (m k : Nat) (U Q : List Int) : Prop :=
  U.length = m + V.length + 1 ∧ Lim U ∧ Q.length = m + 1 ∧ Lim Q ∧ val U + 4294967296 ^ k * (val (Q.drop k) * val V) = val U0 ∧ val (U.drop k) < val V
section
variable {U0 V U Q : List Int} {m k : Nat}
theorem DmInv.high (h : DmInv U0 V m (k + 1) U Q) (hV : Lim V) (i : Nat) (hi : k + 1 + V.length ≤ i) : U.getD i 0 = 0 := by
  obtain ⟨h1, h2, h3, h4, h5, h6⟩ := h
  have h7 := val_lt hV
  have := getD_of_lt (l := U.drop (k + 1)) (j := i - (k + 1)) (h2.drop _) (by
    have e1 := powc V.length
    have e2 := powc (i - (k + 1))
    have := Nat.pow_le_pow_right (n := 4294967296) (by omega) (show V.length ≤ i - (k + 1) by omega)
    omega)
  rw [List.getD_eq_getElem?_getD, List.getElem?_drop, ← List.getD_eq_getElem?_getD] at this
  rwa [show k + 1 + (i - (k + 1)) = i from by omega] at this
theorem val_drop_seg {U : List Int} (j n : Nat) (h : ∀ i, j + n ≤ i → U.getD i 0 = 0) : val (U.drop j) = seg U j n := by
  unfold seg
  have h1 : val ((U.drop j).drop n) = 0 := by
    have : ∀ (l : List Int), (∀ i, l.getD i 0 = 0) → val l = 0 := by
      intro l
      induction l with
      | nil => intro _; rfl
      | cons x t ih =>
        intro hz
        have hx := hz 0
        have ht := ih (fun i => by have := hz (i + 1); simpa using this)
        simp only [List.getD_cons_zero] at hx
        rw [val_cons, ht, hx]; rfl
    refine this _ (fun i => ?_)
    rw [List.getD_eq_getElem?_getD, List.getElem?_drop, List.getElem?_drop, ← List.getD_eq_getElem?_getD]
    exact h _ (by omega)
  rcases Nat.lt_or_ge n (U.drop j).length with hn | hn
  · have := val_take_drop (U.drop j) n (by omega)
    rw [h1] at this
    omega
  · rw [List.take_of_length_le hn]
theorem DmInv.facts (h : DmInv U0 V m (k + 1) U Q) (hV : Lim V) (hk : k ≤ m) (_h0 : 0 < val V) : val (U.drop k) = seg U k (V.length + 1) ∧ seg U k (V.length + 1) < 4294967296 * val V := by
  have hh := h.high hV
  obtain ⟨h1, h2, h3, h4, h5, h6⟩ := h
  have e := val_drop_seg k (V.length + 1) (fun i hi => hh i (by omega))
  refine ⟨e, ?_⟩
  rw [← e, val_drop U k (by omega)]
  have := h2.get k
  omega
/-- The next digit of the quotient. -/
theorem DmInv.next (h : DmInv U0 V m (k + 1) U Q) (hV : Lim V) (hk : k ≤ m) (h0 : 0 < val V) {U' : List Int} {q : Int} (hs : Same U U' k (V.length + 1)) (q0 : 0 ≤ q) (q1 : q < 4294967296) (he : seg U' k (V.length + 1) = seg U k (V.length + 1) - q * val V) (hlt : seg U' k (V.length + 1) < val V) :
    DmInv U0 V m k U' (Q.set k q) := by
  have hh := h.high hV
  have hf := (h.facts hV hk h0).1
  obtain ⟨h1, h2, h3, h4, h5, h6⟩ := h
  obtain ⟨s1, s2, s3, s4⟩ := hs
  have e' := val_drop_seg (U := U') k (V.length + 1) (fun i hi => by rw [s4 i hi]; exact hh i (by omega))
  refine ⟨by omega, s2, by simp [h3], h4.set k q0 q1, ?_, by rw [e']; exact hlt⟩
  have t1 := val_take_drop U k (by omega)
  have t2 := val_take_drop U' k (by omega)
  rw [set_drop_self Q k q (by omega), val_cons, t2, e', he, s3]
  rw [t1, hf, Int.pow_succ] at h5
  rw [← h5]
  grind
end
/-- The three highest limbs of a segment. -/
theorem seg_three (U : List Int) (j n : Nat) : seg U j (n + 3) = seg U j n + 4294967296 ^ n * ((U.getD (j + (n + 2)) 0 * 4294967296 + U.getD (j + (n + 1)) 0) * 4294967296 + U.getD (j + n) 0) := by
  rw [seg_succ, seg_succ, seg_succ, Int.pow_succ, Int.pow_succ]
  grind
theorem val_two {V : List Int} {n : Nat} (h : V.length = n + 2) : val V = val (V.take n) + 4294967296 ^ n * (V.getD (n + 1) 0 * 4294967296 + V.getD n 0) := by
  have h1 := val_take_succ' V n
  have h2 := val_take_succ' V (n + 1)
  rw [List.take_of_length_le (by omega)] at h2
  rw [h2, h1, Int.pow_succ]
  grind
/-- One round of the division: what guess, subtract and addBack come to. -/
theorem dm_round {U0 V U Q : List Int} {m k n : Nat} (h : DmInv U0 V m (k + 1) U Q) (hV : Lim V) (hn : V.length = n + 2) (hk : k ≤ m) (ht : 2147483648 ≤ V.getD (n + 1) 0) :
    U.getD (k + (n + 2)) 0 ≤ V.getD (n + 1) 0 ∧
    ∀ d, GuessP (U.getD (k + (n + 2)) 0) (U.getD (k + (n + 1)) 0) (U.getD (k + n) 0) (V.getD (n + 1) 0) (V.getD n 0) d →
    ∀ U1 t, Same U U1 k (V.length + 1) → seg U1 k (V.length + 1) + d * val V = seg U k (V.length + 1) + 4294967296 ^ (V.length + 1) * (if t < 0 then 1 else 0) →
    (¬ t < (0 : Int) → DmInv U0 V m k U1 (Q.set k (d % 4294967296))) ∧
    (t < (0 : Int) → 1 ≤ d ∧ ∀ U2, Same U1 U2 k (V.length + 1) → (∃ e : Int, 0 ≤ e ∧ seg U2 k (V.length + 1) + 4294967296 ^ (V.length + 1) * e = seg U1 k (V.length + 1) + val V) → DmInv U0 V m k U2 (Q.set k ((d - 1) % 4294967296))) := by
  have hl : Lim U := h.2.1
  have hv2 := val_two hn
  have hvt := val_nonneg (hV.take n)
  have hvl := val_lt (hV.take n)
  rw [List.length_take, Nat.min_eq_left (by omega)] at hvl
  have hv0 := (hV.get n)
  have hv1 := (hV.get (n + 1))
  have hpos : 0 < val V := by
    have := Int.mul_pos (bpos n) (show 0 < V.getD (n + 1) 0 * 4294967296 + V.getD n 0 by omega)
    omega
  have hf := (h.facts hV hk hpos).2
  have hs3 := seg_three U k n
  have hVn : V.length + 1 = n + 3 := by omega
  rw [hVn] at hf ⊢
  have hs0 := seg_nonneg hl k n
  have hs1 := seg_lt hl k n
  have hu2 := hl.get (k + (n + 2))
  have hu1 := hl.get (k + (n + 1))
  have hu0 := hl.get (k + n)
  constructor
  · by_cases hc : U.getD (k + (n + 2)) 0 ≤ V.getD (n + 1) 0
    · exact hc
    · exfalso
      have := Int.mul_le_mul_of_nonneg_left (show (V.getD (n + 1) 0 * 4294967296 + V.getD n 0 + 1) * 4294967296 ≤ (U.getD (k + (n + 2)) 0 * 4294967296 + U.getD (k + (n + 1)) 0) * 4294967296 + U.getD (k + n) 0 by omega) (Int.le_of_lt (bpos n))
      have e : (4294967296 : Int) ^ n * ((V.getD (n + 1) 0 * 4294967296 + V.getD n 0 + 1) * 4294967296) = 4294967296 * (4294967296 ^ n * (V.getD (n + 1) 0 * 4294967296 + V.getD n 0)) + 4294967296 * 4294967296 ^ n := by grind
      omega
  · intro d hd U1 t hs1' he1
    obtain ⟨g1, g2⟩ := guess_ok hd (bpos n) hs0 hs1 hvt hvl ht hv0.1 hs3 hv2 hf
    have d0 := hd.1
    have d1 := hd.2.1
    have l1 : Lim U1 := hs1'.2.1
    have p0 := seg_nonneg l1 k (n + 3)
    have p1 := seg_lt l1 k (n + 3)
    have eV : (d + 1) * val V = d * val V + val V := by grind
    constructor
    · intro hneg
      rw [if_neg hneg] at he1
      refine h.next hV hk hpos (by rw [hVn]; exact hs1') (by omega) (by omega) ?_ ?_ <;> rw [hVn]
      · rw [show d % 4294967296 = d from by omega]; omega
      · omega
    · intro hneg
      rw [if_pos hneg] at he1
      have d2 : 1 ≤ d := by
        by_cases d2 : 1 ≤ d
        · exact d2
        · exfalso
          have : d = 0 := by omega
          subst this
          have := seg_nonneg hl k (n + 3)
          omega
      refine ⟨d2, ?_⟩
      rintro U2 hs2 ⟨e, e0, he2⟩
      have l2 : Lim U2 := hs2.2.1
      have r0 := seg_nonneg l2 k (n + 3)
      have r1 := seg_lt l2 k (n + 3)
      have eV2 : (d - 1) * val V = d * val V - val V := by grind
      have hVb := val_lt hV
      rw [hn] at hVb
      have hpb : (4294967296 : Int) ^ (n + 3) = 4294967296 ^ (n + 2) * 4294967296 := Int.pow_succ _ _
      have hpb2 := bpos (n + 2)
      have ee : e = 1 := by
        by_cases e1 : e = 0
        · subst e1; omega
        · by_cases e2 : e = 1
          · exact e2
          · exfalso
            have := Int.mul_le_mul_of_nonneg_left (show (2 : Int) ≤ e by omega) (Int.le_of_lt (bpos (n + 3)))
            omega
      subst ee
      have hs12 : Same U U2 k (V.length + 1) := by
        rw [hVn]
        exact ⟨by rw [hs2.1, hs1'.1], l2, by rw [hs2.2.2.1, hs1'.2.2.1], fun i hi => by rw [hs2.2.2.2 i hi, hs1'.2.2.2 i hi]⟩
      refine h.next hV hk hpos hs12 (by omega) (by omega) ?_ ?_ <;> rw [hVn]
      · rw [show (d - 1) % 4294967296 = d - 1 from by omega]; omega
      · omega

theorem dm_start {x y U W : List Int} {m n : Nat} {p : Int} (hx : Lim x) (hy : Lim y) (hxl : x.length = m + (n + 2)) (hyl : y.length = n + 2) (hp : 0 < p) (hp1 : p ≤ 2147483648)
    (h1 : 2147483648 ≤ y.getD (n + 1) 0 * p) (h2 : (y.getD (n + 1) 0 + 1) * p ≤ 4294967296)
    (hU : U.length = x.length + 1) (lU : Lim U) (vU : val U = p * val x) (hW : W.length = y.length + 1) (lW : Lim W) (vW : val W = p * val y) :
    (W.take (n + 2)).length = n + 2 ∧ val (W.take (n + 2)) = p * val y ∧ 2147483648 ≤ (W.take (n + 2)).getD (n + 1) 0 ∧ DmInv U (W.take (n + 2)) m (m + 1) U (List.replicate (m + 1) 0) := by
  have a1 : (W.take (n + 2)).length = n + 2 := by rw [List.length_take]; omega
  have y1 := val_take_succ y (n + 1) (by omega)
  rw [List.take_of_length_le (by omega)] at y1
  have y2 := val_lt (hy.take (n + 1))
  rw [List.length_take, Nat.min_eq_left (by omega)] at y2
  have y3 := val_nonneg (hy.take (n + 1))
  have hyt := hy.get (n + 1)
  generalize y.getD (n + 1) 0 = t at *
  generalize val (y.take (n + 1)) = z at *
  have hb := bpos (n + 1)
  have hbe : (4294967296 : Int) ^ (n + 2) = 4294967296 ^ (n + 1) * 4294967296 := Int.pow_succ _ _
  have e1 : p * val y = p * z + 4294967296 ^ (n + 1) * (t * p) := by rw [y1]; grind
  have l1 : 4294967296 ^ (n + 1) * 2147483648 ≤ 4294967296 ^ (n + 1) * (t * p) := Int.mul_le_mul_of_nonneg_left h1 (by omega)
  have l2 : p * z + p ≤ p * 4294967296 ^ (n + 1) := by
    have := Int.mul_le_mul_of_nonneg_left (show z + 1 ≤ 4294967296 ^ (n + 1) by omega) (show 0 ≤ p by omega)
    rwa [Int.mul_add, Int.mul_one] at this
  have l3 : 4294967296 ^ (n + 1) * ((t + 1) * p) ≤ 4294967296 ^ (n + 1) * 4294967296 := Int.mul_le_mul_of_nonneg_left h2 (by omega)
  have l4 : (4294967296 : Int) ^ (n + 1) * ((t + 1) * p) = 4294967296 ^ (n + 1) * (t * p) + p * 4294967296 ^ (n + 1) := by grind
  have l5 : 0 ≤ p * z := Int.mul_nonneg (by omega) y3
  have a2 : val (W.take (n + 2)) = p * val y := by
    have w1 := val_take_drop W (n + 2) (by omega)
    have w2 := val_nonneg (lW.drop (n + 2))
    have w3 := val_nonneg (lW.take (n + 2))
    by_cases h : val (W.drop (n + 2)) = 0
    · rw [h] at w1; omega
    · have := Int.mul_le_mul_of_nonneg_left (show (1 : Int) ≤ val (W.drop (n + 2)) by omega) (Int.le_of_lt (bpos (n + 2)))
      omega
  have lV := lW.take (n + 2)
  refine ⟨a1, a2, ?_, ?_⟩
  · have v1 := val_take_succ (W.take (n + 2)) (n + 1) (by omega)
    rw [List.take_of_length_le (l := W.take (n + 2)) (by omega), a2] at v1
    have v2 := val_lt (lV.take (n + 1))
    rw [List.length_take, Nat.min_eq_left (by omega)] at v2
    by_cases h : 2147483648 ≤ (W.take (n + 2)).getD (n + 1) 0
    · exact h
    · exfalso
      have := Int.mul_le_mul_of_nonneg_left (show (W.take (n + 2)).getD (n + 1) 0 + 1 ≤ 2147483648 by omega) (show 0 ≤ (4294967296 : Int) ^ (n + 1) by omega)
      rw [Int.mul_add, Int.mul_one] at this
      omega
  · refine ⟨by omega, lU, by simp, Lim.zeros _, ?_, ?_⟩
    · rw [List.drop_of_length_le (by simp)]; simp [val]
    · rw [a2]
      have u1 := val_take_drop U (m + 1) (by omega)
      have u2 := val_nonneg (lU.take (m + 1))
      have x1 := val_lt hx
      rw [hxl] at x1
      have x2 : p * val x ≤ p * 4294967296 ^ (m + (n + 2)) - p := by
        have := Int.mul_le_mul_of_nonneg_left (show val x + 1 ≤ 4294967296 ^ (m + (n + 2)) by omega) (show 0 ≤ p by omega)
        rw [Int.mul_add, Int.mul_one] at this
        omega
      have x3 : (4294967296 : Int) ^ (m + (n + 2)) = 4294967296 ^ (m + 1) * 4294967296 ^ (n + 1) := by rw [← Int.pow_add]; congr 1; omega
      by_cases h : val (U.drop (m + 1)) < p * val y
      · exact h
      · exfalso
        have l6 : p * 4294967296 ^ (n + 1) ≤ 4294967296 ^ (n + 1) * 2147483648 := by
          rw [Int.mul_comm]; exact Int.mul_le_mul_of_nonneg_left hp1 (by omega)
        have l7 := Int.mul_le_mul_of_nonneg_left (show p * 4294967296 ^ (n + 1) ≤ val (U.drop (m + 1)) by omega) (Int.le_of_lt (bpos (m + 1)))
        rw [x3] at x2
        have l8 : (4294967296 : Int) ^ (m + 1) * (p * 4294967296 ^ (n + 1)) = p * (4294967296 ^ (m + 1) * 4294967296 ^ (n + 1)) := by grind
        omega
theorem dm_done {U0 V U Q : List Int} {m X Y : Nat} {p : Nat} (h : DmInv U0 V m 0 U Q) (hV : Lim V) (hp : 0 < p) (hU : val U0 = p * X) (hv : val V = p * Y) (hY : 0 < Y) :
    dig (nv Q) = dig (X / Y) ∧ dig (nv (U.take V.length) / p) = dig (X % Y) := by
  obtain ⟨h1, h2, h3, h4, h5, h6⟩ := h
  rw [List.drop_zero] at h5 h6
  have vl := val_lt hV
  have u0 := val_nonneg h2
  have e1 : val (U.take V.length) = val U := by
    have u1 := val_take_drop U V.length (by omega)
    have u2 := val_nonneg (h2.drop V.length)
    have u3 := val_nonneg (h2.take V.length)
    by_cases h : val (U.drop V.length) = 0
    · rw [h] at u1; omega
    · have := Int.mul_le_mul_of_nonneg_left (show (1 : Int) ≤ val (U.drop V.length) by omega) (Int.le_of_lt (bpos V.length))
      omega
  have e2 : nv (U.take V.length) = nv U := by unfold nv; rw [e1]
  have n1 := nv_val h2
  have n2 := nv_val h4
  rw [Int.pow_zero, Int.one_mul, hU, hv, ← n1, ← n2] at h5
  have h7 : nv U + nv Q * (p * Y) = p * X := by exact_mod_cast h5
  have h8 : nv U < p * Y := by
    rw [hv, ← n1] at h6
    exact_mod_cast h6
  have e3 : nv Q = X / Y := by
    have : (p * X) / (p * Y) = nv Q := by
      rw [← h7, Nat.add_mul_div_right _ _ (Nat.mul_pos hp hY), Nat.div_eq_of_lt h8]; omega
    rw [← this, Nat.mul_div_mul_left _ _ hp]
  have e4 : nv U = p * (X % Y) := by
    have : (p * X) % (p * Y) = nv U := by
      rw [← h7, Nat.add_mul_mod_self_right, Nat.mod_eq_of_lt h8]
    rw [← this, Nat.mul_mod_mul_left]
  rw [e2, e3, e4, Nat.mul_div_cancel_left _ hp]
  exact ⟨rfl, rfl⟩
end Go.Proofs.Ytdbpjnjgjmfomaa
