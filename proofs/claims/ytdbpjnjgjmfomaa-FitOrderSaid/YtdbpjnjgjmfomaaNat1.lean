/- The program's natural numbers, first part: trim, Of, Norm, Bits, Cmp. -/
import Derived.Test.YtdbpjnjgjmfomaaBase
import Derived.Test.YtdbpjnjgjmfomaaLen
import Derived.Outline
namespace Go.Proofs.Ytdbpjnjgjmfomaa
open Go.RowKit

/-- How many limbs are left without high zeros. -/
def trimLen : List Int → Nat
  | [] => 0
  | x :: t => if trimLen t = 0 then (if x = 0 then 0 else 1) else trimLen t + 1
theorem trimLen_le (l : List Int) : trimLen l ≤ l.length := by
  induction l with
  | nil => simp [trimLen]
  | cons x t ih => simp only [trimLen, List.length_cons]; split <;> (try split) <;> omega
theorem trimLen_snoc (l : List Int) (x : Int) : trimLen (l ++ [x]) = if x = 0 then trimLen l else l.length + 1 := by
  induction l with
  | nil => simp [trimLen]
  | cons y t ih =>
    simp only [List.cons_append, trimLen, ih, List.length_cons]
    by_cases h : x = 0
    · simp [h]
    · simp [h]
theorem trimLen_take (l : List Int) (n : Nat) (h : n < l.length) : trimLen (l.take (n + 1)) = if l.getD n 0 = 0 then trimLen (l.take n) else n + 1 := by
  rw [List.take_succ_eq_append_getElem h, trimLen_snoc, List.length_take, Nat.min_eq_left (by omega)]
  simp [List.getD_eq_getElem?_getD, List.getElem?_eq_getElem h]
theorem trim_top (l : List Int) : Top (l.take (trimLen l)) := by
  induction l with
  | nil => simp [trimLen, Top]
  | cons x t ih =>
    simp only [trimLen]
    by_cases h : trimLen t = 0
    · by_cases hx : x = 0
      · simp [h, hx, Top]
      · simp [h, hx, Top]
    · rw [if_neg h, List.take_succ_cons]
      intro y hy
      have hn : t.take (trimLen t) ≠ [] := by
        intro e
        have := congrArg List.length e
        rw [List.length_take, Nat.min_eq_left (trimLen_le t)] at this
        exact h (by simpa using this)
      obtain ⟨z, s, hz⟩ := List.exists_cons_of_ne_nil hn
      rw [hz, List.getLast?_cons_cons, ← hz] at hy
      exact ih y hy
theorem trim_val (l : List Int) : val (l.take (trimLen l)) = val l := by
  induction l with
  | nil => simp [trimLen]
  | cons x t ih =>
    simp only [trimLen]
    by_cases h : trimLen t = 0
    · rw [h] at ih
      by_cases hx : x = 0
      · simp [h, hx, val] at ih ⊢; omega
      · simp [h, hx, val] at ih ⊢; omega
    · rw [if_neg h, List.take_succ_cons, val, val, ih]
/-- The number that limbs denote. -/
def nv (l : List Int) : Nat := (val l).toNat
theorem nv_val {l : List Int} (h : Lim l) : (nv l : Int) = val l := by have := val_nonneg h; unfold nv; omega
theorem nv_dig (n : Nat) : nv (dig n) = n := by unfold nv; rw [val_dig]; omega
theorem nv_nil : nv [] = 0 := rfl
theorem trim_dig {l : List Int} (h : Lim l) : l.take (trimLen l) = dig (nv l) := by
  rw [eq_dig (h.take _) (trim_top l), trim_val]; rfl
theorem trim_len {l : List Int} (h : Lim l) : trimLen l = (dig (nv l)).length := by
  rw [← trim_dig h, List.length_take, Nat.min_eq_left (trimLen_le l)]
theorem dig_len_le {l : List Int} (h : Lim l) : (dig (nv l)).length ≤ l.length := by rw [← trim_len h]; exact trimLen_le l
theorem NumV.trim {S : Nat → Prop} {w : World} {A : Option Addr} {n c : Nat} {l : List Int} (h : NumV S w (.slice A n c) l) : NumV S w (.slice A (dig (nv l)).length (dig (nv l)).length) (dig (nv l)) := by
  have := h.take (trimLen l) (dig (nv l)).length (trimLen_le l) (by rw [trim_len h.1]; exact Nat.le_refl _)
  rwa [trim_dig h.1, trim_len h.1] at this

set_option maxHeartbeats 400000 in
theorem nat_trim0 {S : Nat → Prop} {A : Option Addr} {c : Nat} {l : List Int} (w : World) (ha : NumV S w (.slice A l.length c) l) (hm : l.length ≤ 70368744177664) :
    Calls Try.prog 93 #[.slice A l.length c] w fun e w' => e = .returned (.slice A (dig (nv l)).length (dig (nv l)).length) ∧ w' = w := by
  have hc := ha.len.2
  rw [← trim_len ha.1]
  go_enter Try.func93, Try.ntmps93
  go_wp2
  go_loop [3] (fun v => ∃ n : Nat, n ≤ l.length ∧ v = .int .i64 n ∧ As (trimLen (l.take n) = trimLen l)) (fun v => (intOf v).toNat)
  case atStart => exact ⟨l.length, Nat.le_refl _, rfl, ⟨by rw [List.take_length]⟩⟩
  case round =>
    obtain ⟨n, hn, rfl, HT⟩ := hrel
    cases n with
    | zero =>
      have e : As (trimLen l = 0) := ⟨by have := HT.out; simpa [trimLen] using this.symm⟩
      go_wp2
      go_ret
      exact ⟨by rw [e.out]; rfl, rfl⟩
    | succ n =>
      obtain ⟨ad, rfl, hcell⟩ := ha.at n (by omega)
      have HS := trimLen_take l n (by omega)
      by_cases hz : l.getD n 0 = 0
      · have HS : As (trimLen (l.take n) = trimLen l) := ⟨by rw [if_pos hz] at HS; rw [← HS]; exact HT.out⟩
        rw [hz] at hcell
        go_wp2
        go_round
        case rel => exact ⟨n, by omega, rfl, HS⟩
        case measure => simp [intOf]
      · have HS : As (n + 1 = trimLen l) := ⟨by rw [if_neg hz] at HS; rw [← HS]; exact HT.out⟩
        obtain ⟨x, hx⟩ : ∃ x, x = l.getD n 0 := ⟨_, rfl⟩
        rw [← hx] at hcell hz
        have hz' : (x == 0) = false := by simpa using hz
        clear hx
        go_wp2
        go_ret
        exact ⟨by rw [← HS.out]; rfl, rfl⟩
theorem nat_trim {S : Nat → Prop} {A : Option Addr} {c : Nat} {l : List Int} (w : World) (ha : NumV S w (.slice A l.length c) l) (hm : l.length ≤ 70368744177664) :
    Calls Try.prog 93 #[.slice A l.length c] w fun e w' => e = .returned (.slice A (dig (nv l)).length (dig (nv l)).length) ∧ Drawn w w' :=
  (nat_trim0 w ha hm).mono fun _ _ ⟨he, hw⟩ => ⟨he, by rw [hw]; exact Drawn.refl _⟩

theorem and_low (n : Int) (h0 : 0 ≤ n) (h1 : n < 18446744073709551616) : Go.bits .and .u64 n 4294967295 = n % 4294967296 := by
  rw [u64_and n 4294967295 h0 h1 (by omega) (by omega), show (4294967295 : Int).toNat = 4294967295 from rfl, nat_mask32]
  omega
theorem and_mod (n : Int) (h0 : 0 ≤ n) (h1 : n < 18446744073709551616) : Go.bits .and .u64 n 4294967295 % 4294967296 = n % 4294967296 := by rw [and_low n h0 h1]; omega
theorem or_join (x y : Int) (h0 : 0 ≤ x) (h1 : x < 18446744073709551616) (hx : x % 4294967296 = 0) (g0 : 0 ≤ y) (g1 : y < 4294967296) : Go.bits .or .u64 x y = x + y := by
  rw [u64_or x y h0 h1 g0 (by omega), nat_join 32 x.toNat y.toNat (by show x.toNat % 4294967296 = 0; omega) (by show y.toNat < 4294967296; omega)]
  omega

theorem of_limbs (n : Nat) (h : n < 18446744073709551616) : (dig (nv [(n : Int) % 4294967296, (n : Int) / 4294967296])) = dig n := by
  unfold nv
  simp only [val]
  congr 1
  omega
set_option maxHeartbeats 400000 in
theorem nat_Of (n : Nat) (w : World) (h : n < 18446744073709551616) :
    Calls Try.prog 86 #[.int .u64 n] w fun e w' => ∃ v, e = .returned v ∧ NumV (fun k => w.heap.size ≤ k) w' v (dig n) ∧ Below w.heap.size w w' := by
  go_enter Try.func86, Try.ntmps86
  go_wp2_with fail
  rw [and_low n (by omega) (by omega), show (n : Int) % 4294967296 % 4294967296 = (n : Int) % 4294967296 from by omega]
  have hl : Lim [(n : Int) % 4294967296, (n : Int) / 4294967296] := Lim.mk (by omega) (by omega) (Lim.mk (by omega) (by omega) Lim.nil)
  have H := (Own.lit w w.heap.size _ (Nat.le_refl _) (by simp)).num hl
  refine (nat_trim _ (l := [(n : Int) % 4294967296, (n : Int) / 4294967296]) H (by simp)).mono ?_
  rintro e w' ⟨rfl, ⟨m, rfl⟩⟩
  go_wp2_with fail
  go_ret
  refine ⟨_, rfl, ?_, ((Below.refl _ _).alloc (Nat.le_refl _) _).drewsN _⟩
  have := (H.trim.drewN m).mono (T := fun k => w.heap.size ≤ k) (fun k hk _ => hk.1)
  rwa [of_limbs n h] at this ⊢

set_option maxHeartbeats 400000 in
theorem nat_Norm {S : Nat → Prop} {v : Value} {l : List Int} (w : World) (ha : NumV S w v l) (hm : l.length ≤ 35184372088832) :
    Calls Try.prog 112 #[v] w fun e w' => ∃ v, e = .returned v ∧ Own w' w.heap.size v (dig (nv l)) ∧ Below w.heap.size w w' := by
  obtain ⟨hl, A, c, rfl, hc, hr⟩ := id ha
  go_enter Try.func112, Try.ntmps112
  go_wp2_with fail
  refine (nat_trim _ (ha.alloc _) (by omega)).mono ?_
  rintro e w' ⟨rfl, ⟨m, rfl⟩⟩
  have H := ((ha.alloc (Obj.cells #[] 100)).drewN m).trim
  have HL : (dig (nv l)).length ≤ 35184372088832 := Nat.le_trans (dig_len_le hl) hm
  go_wp2_with (at_builtin; refine append_nums (w0 := w) w.heap.size rfl _ _ 36 S [] (dig (nv l)) A _ _ rfl Try.underlying36 (by kernel_rfl) _ rfl rfl ((Own.lit w w.heap.size [] (Nat.le_refl _) (by simp)).drewN m) H (((Below.refl _ _).alloc (Nat.le_refl _) _).drewsN _) (by simp) (by simpa using HL) ?_; intro v1 w1 hown hb _ _)
  go_ret
  exact ⟨_, rfl, by simpa using hown, hb⟩

theorem dig_last_pos {n k : Nat} (h : (dig n).length = k + 1) : 0 < (dig n).getD k 0 ∧ (dig n).getD k 0 < 4294967296 := by
  have h1 := Lim.get (Lim_dig n) k
  have h2 := Top_dig n ((dig n).getD k 0) (by
    rw [List.getLast?_eq_getElem?, h, List.getD_eq_getElem?_getD, Nat.add_sub_cancel, List.getElem?_eq_getElem (by omega)]; rfl)
  omega
set_option maxHeartbeats 400000 in
theorem nat_Bits {S : Nat → Prop} {v : Value} {l : List Int} (w : World) (ha : NumV S w v l) (hm : l.length ≤ 35184372088832) :
    Calls Try.prog 84 #[v] w fun e w' => ∃ n : Nat, e = .returned (.int .i64 n) ∧ (n = 0 ↔ nv l = 0) ∧ Drawn w w' := by
  obtain ⟨hl, A, c, rfl, hc, hr⟩ := id ha
  go_enter Try.func84, Try.ntmps84
  go_wp2_with fail
  refine (nat_trim _ ha (by omega)).mono ?_
  rintro e w' ⟨rfl, ⟨m, rfl⟩⟩
  have H := (ha.drewN m).trim
  have HL : (dig (nv l)).length ≤ 35184372088832 := Nat.le_trans (dig_len_le hl) hm
  obtain ⟨N, hN⟩ : ∃ N, (dig (nv l)).length = N := ⟨_, rfl⟩
  rw [hN] at HL ⊢
  cases N with
  | zero =>
    have h0 : nv l = 0 := by
      have := congrArg nv (List.length_eq_zero_iff.1 hN)
      rwa [nv_dig] at this
    have h0 := As.mk h0
    clear hN H
    go_wp2_with fail
    go_ret
    exact ⟨0, rfl, by simp [h0.out], Drawn.refl _ |>.step _⟩
  | succ k =>
    have hp := dig_last_pos hN
    obtain ⟨ad, hA, hcell⟩ := H.at k (by omega)
    obtain ⟨x, hx⟩ : ∃ x, x = (dig (nv l)).getD k 0 := ⟨_, rfl⟩
    rw [← hx] at hcell hp
    have h0 : As (nv l ≠ 0) := ⟨fun e => by rw [e, dig_zero] at hN; simp at hN⟩
    subst hA
    clear hN H hx
    have hb := bitLen_bounds x.toNat (by omega) (by omega)
    have h1 := hb.1
    have h2 := hb.2.1
    clear hb
    go_wp2_with (go_at_call 111; refine (bits_Len32 x _ (by omega) (by omega)).mono ?_; rintro e w' ⟨rfl, rfl⟩)
    go_ret
    exact ⟨32 * k + Lib.bitLen x.toNat, ret_int (by omega), by have := h0.out; omega, Drawn.refl _ |>.step _⟩
end Go.Proofs.Ytdbpjnjgjmfomaa
