/- How many limbs sums, products and quotients of ratios have. -/
import Derived.Test.YtdbpjnjgjmfomaaCls2
namespace Go.Proofs.Ytdbpjnjgjmfomaa
open Go.RowKit

theorem rz_frac (z : Int) (D : Nat) (hD : 0 < D) : rz ((z : Rat) / (D : Rat)) ≤ max (sz z) (dig D).length := by
  unfold rz sz
  rw [low_num z D hD, low_den z D hD]
  have h1 : ((z.natAbs.gcd D : Nat) : Int) ∣ z := Int.ofNat_dvd_left.2 (Nat.gcd_dvd_left _ _)
  rw [Int.natAbs_ediv_of_dvd h1]
  have h2 := dig_len_mono (Nat.div_le_self z.natAbs ((z.natAbs.gcd D : Nat) : Int).natAbs)
  have h3 := dig_len_mono (Nat.div_le_self D (z.natAbs.gcd D))
  omega
theorem rz_pos (q : Rat) : 1 ≤ rz q := by
  unfold rz
  have h : 0 < (dig q.den).length := by
    rcases Nat.eq_zero_or_pos (dig q.den).length with h | h
    · have := (dig_nil_iff q.den).1 h
      exact absurd this q.den_nz
    · exact h
  omega
theorem rz_parts (q : Rat) : sz q.num ≤ rz q ∧ (dig q.den).length ≤ rz q := ⟨Nat.le_max_left _ _, Nat.le_max_right _ _⟩
theorem den_pos (q : Rat) : 0 < q.den := Nat.pos_of_ne_zero q.den_nz
theorem rz_mul (p q : Rat) : rz (p * q) ≤ rz p + rz q := by
  have e := rat_mul_eq p.num q.num p.den q.den (den_pos p) (den_pos q)
  rw [rat_nd, rat_nd] at e
  rw [← e]
  have h1 := rz_frac (p.num * q.num) (p.den * q.den) (Nat.mul_pos (den_pos p) (den_pos q))
  have h2 := sz_mul p.num q.num
  have h3 := dig_len_mul p.den q.den
  have := rz_parts p; have := rz_parts q
  omega
theorem rz_add (p q : Rat) : rz (p + q) ≤ rz p + rz q + 1 := by
  have e := rat_add_eq p.num q.num p.den q.den (den_pos p) (den_pos q)
  rw [rat_nd, rat_nd] at e
  rw [← e]
  have h1 := rz_frac (p.num * (q.den : Nat) + q.num * (p.den : Nat)) (p.den * q.den) (Nat.mul_pos (den_pos p) (den_pos q))
  have h2 := sz_add (p.num * (q.den : Nat)) (q.num * (p.den : Nat))
  have h4 := sz_mul p.num (q.den : Nat)
  have h5 := sz_mul q.num (p.den : Nat)
  have h6 : sz ((q.den : Nat) : Int) = (dig q.den).length := rfl
  have h7 : sz ((p.den : Nat) : Int) = (dig p.den).length := rfl
  have h3 := dig_len_mul p.den q.den
  have := rz_parts p; have := rz_parts q
  omega
theorem rz_sub (p q : Rat) : rz (p - q) ≤ rz p + rz q + 1 := by
  have e := rat_sub_eq p.num q.num p.den q.den (den_pos p) (den_pos q)
  rw [rat_nd, rat_nd] at e
  rw [← e]
  have h1 := rz_frac (p.num * (q.den : Nat) - q.num * (p.den : Nat)) (p.den * q.den) (Nat.mul_pos (den_pos p) (den_pos q))
  have h2 := sz_sub (p.num * (q.den : Nat)) (q.num * (p.den : Nat))
  have h4 := sz_mul p.num (q.den : Nat)
  have h5 := sz_mul q.num (p.den : Nat)
  have h6 : sz ((q.den : Nat) : Int) = (dig q.den).length := rfl
  have h7 : sz ((p.den : Nat) : Int) = (dig p.den).length := rfl
  have h3 := dig_len_mul p.den q.den
  have := rz_parts p; have := rz_parts q
  omega
theorem rz_int (x y : Int) : rz ((x : Rat) / (y : Rat)) ≤ max (sz x) (max (sz y) 1) := by
  have hx : x = iv (decide (x < 0)) (dig x.natAbs) := (iv_dig x).symm
  have hy : y = iv (decide (y < 0)) (dig y.natAbs) := (iv_dig y).symm
  have e := make_eq (decide (x < 0)) (decide (y < 0)) (dig x.natAbs) (dig y.natAbs)
  rw [iv_dig, iv_dig, nv_dig] at e
  rw [← e]
  rcases Nat.eq_zero_or_pos y.natAbs with h | h
  · rw [h, low_zero _ 0 (.inr rfl)]
    have : rz 0 ≤ 1 := by
      unfold rz
      have h1 : sz (0 : Rat).num = 0 := by show (dig 0).length = 0; exact (dig_nil_iff 0).2 rfl
      have h2 := dig_one_len
      have h3 : (0 : Rat).den = 1 := rfl
      rw [h3]
      omega
    omega
  · have h1 := rz_frac (iv (!decide (x < 0) == decide (y < 0)) (dig x.natAbs)) y.natAbs h
    have h2 : sz (iv (!decide (x < 0) == decide (y < 0)) (dig x.natAbs)) = sz x := by unfold sz; rw [iv_natAbs, nv_dig]
    rw [h2] at h1
    have h3 : sz y = (dig y.natAbs).length := rfl
    omega
theorem rz_small (x y : Int) (hx : x.natAbs < 18446744073709551616) (hy : y.natAbs < 18446744073709551616) : rz ((x : Rat) / (y : Rat)) ≤ 2 := by
  have h1 := rz_int x y
  have h2 := sz_small hx
  have h3 := sz_small hy
  omega
theorem rz_inv (q : Rat) : rz q⁻¹ ≤ rz q := by
  have e : q⁻¹ = ((q.den : Nat) : Int) / (q.num : Rat) := by
    have := rat_nd q
    conv => lhs; rw [← this]
    rw [Rat.intCast_natCast]
    simp only [Rat.div_def, Rat.inv_mul_rev, Rat.inv_inv]
  rw [e]
  have h1 := rz_int ((q.den : Nat) : Int) q.num
  have h2 : sz ((q.den : Nat) : Int) = (dig q.den).length := rfl
  have := rz_parts q; have := rz_pos q
  omega
theorem rz_div (p q : Rat) : rz (p / q) ≤ rz p + rz q := by
  rw [Rat.div_def]
  have := rz_mul p q⁻¹
  have := rz_inv q
  omega
end Go.Proofs.Ytdbpjnjgjmfomaa
