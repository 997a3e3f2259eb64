/- classical: the covariance of two lists. -/
import Derived.Test.YtdbpjnjgjmfomaaRatSz
namespace Go.Proofs.Ytdbpjnjgjmfomaa
open Go.RowKit

def sm (x : List Int) : Nat → Int
  | 0 => 0
  | k + 1 => sm x k + x.getD k 0
def dt (x y : List Int) : Nat → Int
  | 0 => 0
  | k + 1 => dt x y k + x.getD k 0 * y.getD k 0
/-- All numbers lie within 10^8. -/
def Mod (x : List Int) : Prop := ∀ i, -100000000 ≤ x.getD i 0 ∧ x.getD i 0 ≤ 100000000
theorem prod_le {a b : Int} (ha : -100000000 ≤ a ∧ a ≤ 100000000) (hb : -100000000 ≤ b ∧ b ≤ 100000000) : -10000000000000000 ≤ a * b ∧ a * b ≤ 10000000000000000 := by
  have h : (a * b).natAbs ≤ 100000000 * 100000000 := by
    rw [Int.natAbs_mul]; exact Nat.mul_le_mul (by omega) (by omega)
  omega
theorem sm_le {x : List Int} (h : Mod x) (k : Nat) : -(100000000 * (k : Int)) ≤ sm x k ∧ sm x k ≤ 100000000 * (k : Int) := by
  induction k with
  | zero => simp [sm]
  | succ k ih => rw [sm]; have := h k; omega
theorem dt_le {x y : List Int} (h : Mod x) (h' : Mod y) (k : Nat) : -(10000000000000000 * (k : Int)) ≤ dt x y k ∧ dt x y k ≤ 10000000000000000 * (k : Int) := by
  induction k with
  | zero => simp [dt]
  | succ k ih => rw [dt]; have := prod_le (h k) (h' k); omega
/-- The covariance. -/
def covR (x y : List Int) : Rat := ((dt x y x.length : Int) : Rat) / ((x.length : Int) : Rat) - ((sm x x.length : Int) : Rat) / ((x.length : Int) : Rat) * (((sm y x.length : Int) : Rat) / ((x.length : Int) : Rat))
theorem rz_covR (x y : List Int) (hx : Mod x) (hy : Mod y) (hn : x.length ≤ 200) : rz (covR x y) ≤ 7 := by
  have h1 := sm_le hx x.length
  have h2 := sm_le hy x.length
  have h3 := dt_le hx hy x.length
  have a1 := rz_small (dt x y x.length) (x.length : Int) (by omega) (by omega)
  have a2 := rz_small (sm x x.length) (x.length : Int) (by omega) (by omega)
  have a3 := rz_small (sm y x.length) (x.length : Int) (by omega) (by omega)
  have a4 := rz_mul (((sm x x.length : Int) : Rat) / ((x.length : Int) : Rat)) (((sm y x.length : Int) : Rat) / ((x.length : Int) : Rat))
  have a5 := rz_sub (((dt x y x.length : Int) : Rat) / ((x.length : Int) : Rat)) (((sm x x.length : Int) : Rat) / ((x.length : Int) : Rat) * (((sm y x.length : Int) : Rat) / ((x.length : Int) : Rat)))
  unfold covR
  omega

set_option maxHeartbeats 8000000 in
set_option maxRecDepth 100000 in
theorem cls_cov {S T : Nat → Prop} {v u : Value} {x y : List Int} (w : World) (hv : IntsV S w v x) (hu : IntsV T w u y) (hx : Mod x) (hy : Mod y) (hn : x.length ≤ 200) (hxy : y.length = x.length) :
    Calls Try.prog 52 #[v, u] w fun e w' => ∃ r, e = .returned r ∧ RatV (New w) w' r (covR x y) ∧ Below w.heap.size w w' := by
  obtain ⟨A, c, rfl⟩ := hv.slice
  obtain ⟨B, d, rfl⟩ := hu.slice
  obtain ⟨Q, hQ⟩ : ∃ Q, covR x y = Q := ⟨_, rfl⟩
  rw [hQ]
  replace hQ := As.mk hQ
  rw [hxy] at hu ⊢
  obtain ⟨n, hln⟩ : ∃ n, x.length = n := ⟨_, rfl⟩
  rw [hln] at hn hv hu ⊢
  replace hln := As.mk hln
  replace hxy := As.mk hxy
  go_enter Try.func52, Try.ntmps52
  go_wp2_with fail
  obtain ⟨W, hW⟩ : ∃ W, (w.alloc (Obj.cells #[Value.bool false, Value.slice none 0 0, Value.slice none 0 0] 40)) = W := ⟨_, rfl⟩
  have hB : Below w.heap.size w W := by rw [← hW]; exact (Below.refl _ _).alloc (by simp) _
  have hs : W.heap.size = w.heap.size + 1 := by rw [← hW]; simp
  have hR : Res W w.heap.size 3 := ⟨by omega, fun i hi => by
    subst hW
    rcases (by omega : i = 0 ∨ i = 1 ∨ i = 2) with rfl | rfl | rfl
    · exact ⟨⟨.bool false, by simp [go_sem]⟩, by simp [go_sem]⟩
    · exact ⟨⟨.slice none 0 0, by simp [go_sem]⟩, by simp [go_sem]⟩
    · exact ⟨⟨.slice none 0 0, by simp [go_sem]⟩, by simp [go_sem]⟩⟩
  rw [hW]
  clear hW
  have hS := And.intro hB hR
  clear hB hR
  go_loopw [6, 7, 8, 9, 14] (fun v6 v7 v8 _ v14 wr => ∃ k : Nat, k ≤ n ∧ v14 = .int .i64 k ∧ v6 = .int .i64 (sm x k) ∧ v7 = .int .i64 (sm y k) ∧ v8 = .int .i64 (dt x y k) ∧ Drawn W wr) (fun _ _ _ _ v14 _ => (n - intOf v14).toNat)
  case atStart => exact ⟨0, by omega, rfl, rfl, rfl, rfl, by repeat (first | exact Drawn.refl _ | apply Drawn.step)⟩
  case round =>
    obtain ⟨k, hk, rfl, rfl, rfl, rfl, hd⟩ := hrel
    by_cases hlt : k < n
    · obtain ⟨ad, hA, hca⟩ := (hv.below (hS.1.after hS.1.size hd.below)).cells (by have := hln.out; omega)
      subst hA
      obtain ⟨bd, hA, hcb⟩ := (hu.below (hS.1.after hS.1.size hd.below)).cells (by have := hln.out; have := hxy.out; omega)
      subst hA
      have hX := hca k (by have := hln.out; omega)
      have hY := hcb k (by have := hln.out; have := hxy.out; omega)
      have h1 := sm_le hx k
      have h2 := sm_le hy k
      have h3 := dt_le hx hy k
      have h4 := prod_le (hx k) (hy k)
      have h5 := hx k
      have h6 := hy k
      have e1 := As.mk (show sm x (k + 1) = sm x k + x.getD k 0 from rfl)
      have e2 := As.mk (show sm y (k + 1) = sm y k + y.getD k 0 from rfl)
      have e3 := As.mk (show dt x y (k + 1) = dt x y k + x.getD k 0 * y.getD k 0 from rfl)
      clear hca hcb
      generalize x.getD k 0 = X at *
      generalize y.getD k 0 = Y at *
      generalize sm x k = sx at *
      generalize sm y k = sy at *
      generalize dt x y k = sd at *
      obtain ⟨P, hP⟩ : ∃ P, X * Y = P := ⟨_, rfl⟩
      rw [hP] at h4 e3
      have w1 : IntKind.i64.wrap (X * Y) = P := by rw [hP]; exact IntWalk.i64_in _ (by omega)
      have w2 : IntKind.i64.wrap (sd + P) = sd + P := IntWalk.i64_in _ (by omega)
      have b2 : ((k : Int) < (n : Int)) = True := eq_true (by omega)
      have b3 : (0 ≤ (k : Int)) = True := eq_true (by omega)
      replace hP := As.mk hP
      go_wp2_with fail
      go_quiet (fail)
      go_wp2_with fail
      go_roundw
      case rel => exact ⟨k + 1, by omega, by go_num, by rw [e1.out], by rw [e2.out], by rw [e3.out], by repeat (first | exact hd | apply Drawn.step)⟩
      case measure => simp [intOf]; omega
    · obtain rfl : k = n := by omega
      have h1 := sm_le hx k
      have h2 := sm_le hy k
      have h3 := dt_le hx hy k
      have a1 := rz_small (dt x y k) (k : Int) (by omega) (by omega)
      have a2 := rz_small (sm x k) (k : Int) (by omega) (by omega)
      have a3 := rz_small (sm y k) (k : Int) (by omega) (by omega)
      have a4 := rz_mul (((sm x k : Int) : Rat) / ((k : Int) : Rat)) (((sm y k : Int) : Rat) / ((k : Int) : Rat))
      have p1 := rz_pos (((dt x y k : Int) : Rat) / ((k : Int) : Rat))
      have p2 := rz_pos (((sm x k : Int) : Rat) / ((k : Int) : Rat))
      have p3 := rz_pos (((sm y k : Int) : Rat) / ((k : Int) : Rat))
      have p4 := rz_pos (((sm x k : Int) : Rat) / ((k : Int) : Rat) * (((sm y k : Int) : Rat) / ((k : Int) : Rat)))
      have hfin : As (((dt x y k : Int) : Rat) / ((k : Int) : Rat) - ((sm x k : Int) : Rat) / ((k : Int) : Rat) * (((sm y k : Int) : Rat) / ((k : Int) : Rat)) = Q) := ⟨by rw [← hQ.out]; unfold covR; rw [hln.out]⟩
      clear hQ
      generalize sm x k = sx at *
      generalize sm y k = sy at *
      generalize dt x y k = sd at *
      replace hS := keep_last hS hd.below
      clear hd hv hu
      go_wp2_with fail
      refine (cls_fraction _ sd k (by omega) (by omega) (by omega) (by omega)).mono ?_
      rintro e w1 ⟨r1, rfl, hr1, hb1⟩
      replace hS := keep_last hS hb1
      go_wp2_with fail
      refine (cls_fraction _ sx k (by omega) (by omega) (by omega) (by omega)).mono ?_
      rintro e w2 ⟨r2, rfl, hr2, hb2⟩
      replace hS := keep_last hS hb2
      replace hr1 := hr1.below hb2
      go_wp2_with fail
      refine (cls_fraction _ sy k (by omega) (by omega) (by omega) (by omega)).mono ?_
      rintro e w3 ⟨r3, rfl, hr3, hb3⟩
      replace hS := keep_last hS hb3
      replace hr1 := hr1.below hb3
      replace hr2 := hr2.below hb3
      generalize ((sd : Int) : Rat) / ((k : Int) : Rat) = q1 at *
      generalize ((sx : Int) : Rat) / ((k : Int) : Rat) = q2 at *
      generalize ((sy : Int) : Rat) / ((k : Int) : Rat) = q3 at *
      go_wp2_with fail
      refine (rat_Mul _ hr2.i hr3.i (by omega) (by omega) (by omega)).mono ?_
      rintro e w4 ⟨r4, rfl, hr4, hb4⟩
      replace hS := keep_last hS hb4
      replace hr1 := hr1.below hb4
      go_wp2_with fail
      refine (rat_Sub _ hr1.i hr4.i (by omega) (by omega) (by omega)).mono ?_
      rintro e w5 ⟨r5, rfl, hL, hb5⟩
      rw [hfin.out] at hL
      obtain ⟨A7, c7, B7, d7, rfl⟩ := hL.slice
      have hst := As.mk (fun x y z => RatV.stored (x := x) (y := y) (z := z) (show w.heap.size ≤ w.heap.size by omega) hS.2 hL)
      replace hS := keep_last hS hb5
      obtain ⟨⟨⟨x4, h4⟩, f4⟩, ⟨⟨x5, h5⟩, f5⟩, ⟨x6, h6⟩, f6⟩ := And.intro (hS.2.2 0 (by omega)) (And.intro (hS.2.2 1 (by omega)) (hS.2.2 2 (by omega)))
      have hB9 := As.mk hS.1
      clear hS hL hb1 hb2 hb3 hb4 hb5 hr1 hr2 hr3 hr4 hs
      go_wp2_with fail
      refine bodyPost_ret (v := .agg #[.bool (decide (Q.num < 0)), .slice A7 (sz Q.num) c7, .slice B7 (dig Q.den).length d7]) (by simp [results, Try.results52, go_sem, h4, h5, h6]) rfl ?_
      exact ⟨_, rfl, hst.out _ _ _, ((hB9.out.setCell (by simp <;> omega) _).setCell (by simp <;> omega) _).setCell (by simp <;> omega) _⟩
end Go.Proofs.Ytdbpjnjgjmfomaa
