/- The program's natural numbers, second part: Cmp, Add, Sub. -/
import Derived.Test.YtdbpjnjgjmfomaaNat1
namespace Go.Proofs.Ytdbpjnjgjmfomaa
open Go.RowKit

/-- The order of two numbers, as Go's Cmp says it. -/
def cmpI (a b : Nat) : Int := if a < b then -1 else if a = b then 0 else 1
theorem powc (k : Nat) : ((4294967296 ^ k : Nat) : Int) = (4294967296 : Int) ^ k := by rw [Int.natCast_pow]; rfl
theorem bpos (k : Nat) : (0 : Int) < 4294967296 ^ k := Int.pow_pos (by omega)
theorem dig_ge {n k : Nat} (h : (dig n).length = k + 1) : 4294967296 ^ k ≤ n := by
  have h1 := val_take_drop (dig n) k (by omega)
  rw [val_dig] at h1
  have h2 := val_nonneg ((Lim_dig n).take k)
  have h3 := dig_last_pos h
  have h4 := val_drop (dig n) k (by omega)
  rw [List.drop_of_length_le (i := k + 1) (by omega), val_nil] at h4
  have h5 : (4294967296 : Int) ^ k ≤ 4294967296 ^ k * (dig n).getD k 0 := by
    have := Int.mul_le_mul_of_nonneg_left (show (1 : Int) ≤ (dig n).getD k 0 by omega) (Int.le_of_lt (bpos k))
    rwa [Int.mul_one] at this
  rw [h4] at h1
  have h6 := powc k
  have : (n : Int) ≥ 4294967296 ^ k := by
    have e : (4294967296 : Int) ^ k * ((dig n).getD k 0 + 4294967296 * 0) = 4294967296 ^ k * (dig n).getD k 0 := by rw [Int.mul_zero, Int.add_zero]
    omega
  omega
theorem dig_lt (n : Nat) : n < 4294967296 ^ (dig n).length := by
  have h := val_lt (Lim_dig n)
  rw [val_dig] at h
  have h6 := powc (dig n).length
  omega
theorem dig_len_lt {m n : Nat} (h : (dig m).length < (dig n).length) : m < n := by
  obtain ⟨k, hk⟩ : ∃ k, (dig n).length = k + 1 := ⟨(dig n).length - 1, by omega⟩
  have h1 := dig_ge hk
  have h2 := dig_lt m
  have h3 : 4294967296 ^ (dig m).length ≤ 4294967296 ^ k := Nat.pow_le_pow_right (by omega) (by omega)
  omega
/-- The highest limb that differs decides. -/
theorem cmp_at {x y : List Int} (hx : Lim x) (hy : Lim y) (hl : x.length = y.length) (k : Nat) (hk : k < x.length) (hd : x.drop (k + 1) = y.drop (k + 1)) (h : x.getD k 0 < y.getD k 0) : val x < val y := by
  have h1 := val_take_drop x k (by omega)
  have h2 := val_take_drop y k (by omega)
  rw [val_drop x k hk] at h1
  rw [val_drop y k (by omega), ← hd] at h2
  have h3 := val_lt (hx.take k)
  rw [List.length_take, Nat.min_eq_left (by omega)] at h3
  have h4 := val_nonneg (hy.take k)
  generalize val (x.drop (k + 1)) = D at h1 h2
  generalize x.getD k 0 = a at *
  generalize y.getD k 0 = b at *
  have h5 : (4294967296 : Int) ^ k * (a + 4294967296 * D) + 4294967296 ^ k ≤ 4294967296 ^ k * (b + 4294967296 * D) := by
    have := Int.mul_le_mul_of_nonneg_left (show a + 4294967296 * D + 1 ≤ b + 4294967296 * D by omega) (Int.le_of_lt (bpos k))
    rwa [Int.mul_add, Int.mul_one] at this
  omega
theorem cmpI_lt {x y : List Int} (hx : Lim x) (hy : Lim y) (h : val x < val y) : cmpI (nv x) (nv y) = -1 := by
  have := nv_val hx; have := nv_val hy
  unfold cmpI; rw [if_pos (by omega)]
theorem cmpI_gt {x y : List Int} (hx : Lim x) (hy : Lim y) (h : val y < val x) : cmpI (nv x) (nv y) = 1 := by
  have := nv_val hx; have := nv_val hy
  unfold cmpI; rw [if_neg (by omega), if_neg (by omega)]
theorem cmpI_eq (n : Nat) : cmpI n n = 0 := by unfold cmpI; rw [if_neg (by omega), if_pos rfl]

set_option maxHeartbeats 1000000 in
theorem nat_Cmp {S T : Nat → Prop} {v u : Value} {a b : List Int} (w : World) (ha : NumV S w v a) (hb : NumV T w u b) (hm : a.length ≤ 35184372088832) (hm' : b.length ≤ 35184372088832) :
    Calls Try.prog 95 #[v, u] w fun e w' => e = .returned (.int .i64 (cmpI (nv a) (nv b))) ∧ Drawn w w' := by
  obtain ⟨hla, A, c, rfl, hc, hr⟩ := id ha
  obtain ⟨hlb, B, c', rfl, hc', hr'⟩ := id hb
  go_enter Try.func95, Try.ntmps95
  go_wp2_with fail
  refine (nat_trim _ ha (by omega)).mono ?_
  rintro e w' ⟨rfl, ⟨m, rfl⟩⟩
  go_wp2_with fail
  refine (nat_trim _ (hb.drewN m) (by omega)).mono ?_
  rintro e w' ⟨rfl, ⟨m2, rfl⟩⟩
  rw [World.drewN_drewN]
  generalize m + m2 = m
  have HA := ha.trim
  have HB := hb.trim
  have HL : (dig (nv a)).length ≤ 35184372088832 := Nat.le_trans (dig_len_le hla) hm
  have HL' : (dig (nv b)).length ≤ 35184372088832 := Nat.le_trans (dig_len_le hlb) hm'
  obtain ⟨M, hM⟩ : ∃ M, (dig (nv a)).length = M := ⟨_, rfl⟩
  obtain ⟨N, hN⟩ : ∃ N, (dig (nv b)).length = N := ⟨_, rfl⟩
  rcases Nat.lt_trichotomy M N with h | h | h
  · have hc : As (cmpI (nv a) (nv b) = -1) := ⟨by have := dig_len_lt (m := nv a) (n := nv b) (by omega); unfold cmpI; rw [if_pos this]⟩
    rw [hM, hN]
    rw [hM] at HL
    rw [hN] at HL'
    clear hM hN HA HB
    go_wp2_with fail
    go_ret
    exact ⟨by rw [hc.out]; rfl, Drawn.refl _ |>.step _⟩
  · subst h
    rw [hM, hN]
    rw [hM] at HL
    clear HL'
    go_wp2_with fail
    go_loopw [7] (fun v wr => ∃ k : Nat, k ≤ M ∧ v = .int .i64 ((k : Int) - 1) ∧ As ((dig (nv a)).drop k = (dig (nv b)).drop k) ∧ Drawn w wr) (fun v _ => (intOf v + 1).toNat)
    case atStart => exact ⟨M, Nat.le_refl _, rfl, ⟨by rw [List.drop_of_length_le (by omega), List.drop_of_length_le (by omega)]⟩, Drawn.refl _ |>.step _⟩
    case round =>
      obtain ⟨k, hk, rfl, HD, ⟨q, rfl⟩⟩ := hrel
      cases k with
      | zero =>
        have hc : As (cmpI (nv a) (nv b) = 0) := ⟨by
          have := congrArg nv (HD.out)
          rw [List.drop_zero, List.drop_zero, nv_dig, nv_dig] at this
          rw [this, cmpI_eq]⟩
        clear hM hN HA HB
        go_wp2_with fail
        go_ret
        exact ⟨by rw [hc.out]; rfl, Drawn.refl _ |>.step _⟩
      | succ k =>
        obtain ⟨ad, hA, hca⟩ := HA.at k (by omega)
        obtain ⟨bd, hB, hcb⟩ := HB.at k (by omega)
        subst hA hB
        have hx := Lim.get (Lim_dig (nv a)) k
        have hy := Lim.get (Lim_dig (nv b)) k
        have HC : As ((dig (nv a)).getD k 0 < (dig (nv b)).getD k 0 → cmpI (nv a) (nv b) = -1) := ⟨fun h => by
          have := cmpI_lt (Lim_dig _) (Lim_dig _) (cmp_at (Lim_dig (nv a)) (Lim_dig (nv b)) (by omega) k (by omega) HD.out h)
          rwa [nv_dig, nv_dig] at this⟩
        have HC' : As ((dig (nv b)).getD k 0 < (dig (nv a)).getD k 0 → cmpI (nv a) (nv b) = 1) := ⟨fun h => by
          have := cmpI_gt (Lim_dig _) (Lim_dig _) (cmp_at (Lim_dig (nv b)) (Lim_dig (nv a)) (by omega) k (by omega) HD.out.symm h)
          rwa [nv_dig, nv_dig] at this⟩
        have HE : As ((dig (nv b)).getD k 0 = (dig (nv a)).getD k 0 → (dig (nv a)).drop k = (dig (nv b)).drop k) := ⟨fun h => by
          rw [List.drop_eq_getElem_cons (by omega), List.drop_eq_getElem_cons (l := dig (nv b)) (by omega), HD.out]
          rw [List.getD_eq_getElem?_getD, List.getD_eq_getElem?_getD, List.getElem?_eq_getElem (by omega), List.getElem?_eq_getElem (by omega)] at h
          have h : (dig (nv b))[k] = (dig (nv a))[k] := h
          rw [h]⟩
        generalize (dig (nv a)).getD k 0 = x at *
        generalize (dig (nv b)).getD k 0 = y at *
        clear hM hN HA HB HD
        rw [show (((k + 1 : Nat) : Int) - 1) = (k : Int) from by omega]
        have hca' : w.cell? (ad.add ((k : Int).toNat)) = some (.int .u32 x) := hca
        have hcb' : w.cell? (bd.add ((k : Int).toNat)) = some (.int .u32 y) := hcb
        have p1 := eq_true (show 0 ≤ (k : Int) by omega)
        have p2 := eq_true (show (k : Int) < (M : Int) by omega)
        rcases Int.lt_trichotomy x y with h | h | h
        · have hc := As.mk (HC.out h)
          go_wp2_with fail
          go_quiet (fail)
          go_wp2_with fail
          go_ret
          exact ⟨by rw [hc.out]; rfl, ((Drawn.refl _).step _).step _⟩
        · have hc := As.mk (HE.out h.symm)
          subst h
          go_wp2_with fail
          go_quiet (fail)
          go_wp2_with fail
          go_quiet (fail)
          go_wp2_with fail
          go_roundw
          case rel => exact ⟨k, by omega, rfl, hc, by repeat (first | exact Drawn.refl _ | apply Drawn.step)⟩
          case measure => simp [intOf]
        · have hc := As.mk (HC'.out h)
          go_wp2_with fail
          go_quiet (fail)
          go_wp2_with fail
          go_quiet (fail)
          go_wp2_with fail
          go_ret
          exact ⟨by rw [hc.out]; rfl, (((Drawn.refl _).step _).step _).step _⟩
  · have hc : As (cmpI (nv a) (nv b) = 1) := ⟨by have := dig_len_lt (m := nv b) (n := nv a) (by omega); unfold cmpI; rw [if_neg (by omega), if_neg (by omega)]⟩
    rw [hM, hN]
    rw [hM] at HL
    rw [hN] at HL'
    clear hM hN HA HB
    go_wp2_with fail
    go_ret
    exact ⟨by rw [hc.out]; rfl, Drawn.refl _ |>.step _⟩
end Go.Proofs.Ytdbpjnjgjmfomaa
