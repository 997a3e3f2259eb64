/- The program's natural numbers, eighth part: subtract, addBack. -/
import Derived.Test.YtdbpjnjgjmfomaaNat7
import Derived.Test.YtdbpjnjgjmfomaaDivPure2
namespace Go.Proofs.Ytdbpjnjgjmfomaa
open Go.RowKit

theorem NumV.grown {S : Nat → Prop} {w w1 : World} {v : Value} {l : List Int} {g : Nat} (h : NumV S w v l) (hg : w.grownBy w1 (some g)) (hS : ∀ k, S k → k ≠ g) : NumV S w1 v l :=
  h.step (fun k hs hk => hg.block k hk (by intro e; injection e with e; exact hS k hs e))
theorem grown_refl (w : World) (r : Option Nat) : w.grownBy w r := ⟨rfl, rfl, rfl, Nat.le_refl _, fun _ _ _ => rfl⟩
theorem grown_set {w w1 : World} {g : Nat} (h : w.grownBy w1 (some g)) (i : Nat) (u : Value) : w.grownBy (w1.setCell ⟨g, i, none⟩ u) (some g) :=
  h.trans ⟨rfl, rfl, rfl, by simp [World.setCell], fun k hk hne => Below.heap_setCell _ _ _ _ (by intro e; exact hne (by rw [e]))⟩
theorem grown_drewN {w w1 : World} {r : Option Nat} (h : w.grownBy w1 r) (n : Nat) : w.grownBy (w1.drewN n) r := ⟨h.os, h.tape, h.output, h.size, h.block⟩
theorem wrap_two (O b C : Int) (h0 : 0 ≤ O) (h1 : O < 4294967296) (b0 : 0 ≤ b) (b1 : b ≤ 1) (c0 : 0 ≤ C) (c1 : C < 4294967296) :
    ∃ T, IntKind.u64.wrap (IntKind.u64.wrap (O - b) - C) = T ∧ 0 ≤ T ∧ T < 18446744073709551616 ∧ T % 4294967296 = (O - b - C) % 4294967296 ∧ T / 9223372036854775808 = if O - b - C < 0 then 1 else 0 := by
  refine ⟨_, rfl, ?_⟩
  rw [IntKind.wrap_u64, IntKind.wrap_u64]
  split <;> omega

set_option maxHeartbeats 4000000 in
set_option maxRecDepth 100000 in
theorem nat_subtract {S : Nat → Prop} {vv : Value} {U V : List Int} {d : Int} {B g j cap N c : Nat} (w : World) (hU : Own w B (.slice (some ⟨g, 0, none⟩) N cap) U) (hN : N = U.length) (hlim : Lim U) (hv : NumV S w vv V) (hS : ∀ k, S k → k ≠ g) (hj : j + V.length < U.length) (hm : U.length ≤ 35184372088832) (d0 : 0 ≤ d) (d1 : d ≤ 4294967295) :
    Calls Try.prog 117 #[.slice (some ⟨g, j, none⟩) (V.length + 1) c, vv, .int .u64 d] w fun e w' => ∃ (U' : List Int) (t : Int), e = .returned (.bool (decide (t < 0))) ∧ Own w' B (.slice (some ⟨g, 0, none⟩) N cap) U' ∧ Same U U' j (V.length + 1) ∧
      seg U' j (V.length + 1) + d * val V = seg U j (V.length + 1) + 4294967296 ^ (V.length + 1) * (if t < 0 then 1 else 0) ∧ w.grownBy w' (some g) := by
  obtain ⟨hlv, A, c', rfl, hc', hr'⟩ := id hv
  have hS' := As.mk hS
  have hlx := As.mk hlv
  have hI := As.mk (TakeInv.start (V := V) (d := d) (j := j) hlim)
  obtain ⟨n, hn⟩ : ∃ n, V.length = n := ⟨_, rfl⟩
  have hF : As (∀ b c U', TakeInv U V d j n b c U' → ∀ t, t = U'.getD (j + n) 0 - b - c → Same U (U'.set (j + n) (t % 4294967296)) j (n + 1) ∧ seg (U'.set (j + n) (t % 4294967296)) j (n + 1) + d * val V = seg U j (n + 1) + 4294967296 ^ (n + 1) * (if t < 0 then 1 else 0)) :=
    ⟨fun b c U' h t ht => by
      subst hn
      have u := h.1.2.1.get (j + V.length)
      exact h.done hj ht u.1 u.2⟩
  obtain ⟨L, hL⟩ : ∃ L, U.length = L := ⟨_, rfl⟩
  rw [hn] at hv hj hc' ⊢
  rw [hL] at hj hm hN
  subst hN
  replace hn := As.mk hn
  replace hL := As.mk hL
  clear hr' hlv hlim hS
  go_enter Try.func117, Try.ntmps117
  go_wp2_with fail
  go_loopw [7, 8, 15] (fun v7 v8 v15 wr => ∃ (k : Nat) (b c : Int) (U' : List Int), k ≤ n ∧ v15 = .int .i64 k ∧ v7 = .int .u64 b ∧ v8 = .int .u64 c ∧ As (TakeInv U V d j k b c U') ∧ Own wr B (.slice (some ⟨g, 0, none⟩) N cap) U' ∧ As (w.grownBy wr (some g))) (fun _ _ v15 _ => n - (intOf v15).toNat)
  case atStart => exact ⟨0, 0, 0, U, Nat.zero_le _, rfl, rfl, rfl, hI, hU, ⟨grown_refl _ _⟩⟩
  case round =>
    obtain ⟨k, b, z, U', hk, rfl, rfl, rfl, HJ, hown, hg⟩ := hrel
    have b0 := HJ.out.2.1
    have b1 := HJ.out.2.2.1
    have z0 := HJ.out.2.2.2.1
    have z1 := HJ.out.2.2.2.2.1
    by_cases hlt : k < n
    · obtain ⟨ad, hA, hca⟩ := (hv.grown hg.out hS'.out).at k (by have := hn.out; omega)
      subst hA
      have hX := hlx.out.get k
      obtain ⟨q0, q1, o0, o1⟩ := HJ.out.bound hlx.out d0 d1
      obtain ⟨hcg, hfg⟩ := hown.cell (j + k) (by have := hL.out; have := HJ.out.1.1; omega)
      have HN := As.mk (fun s t => HJ.out.step (s := s) (t := t) (by have := hL.out; omega))
      have hst := As.mk (fun x => Own.store hown (j + k) x)
      generalize V.getD k 0 = X at *
      generalize U'.getD (j + k) 0 = O at *
      obtain ⟨Z, hZ⟩ : ∃ Z, d * X = Z := ⟨_, rfl⟩
      rw [hZ] at q0 q1 HN
      have hw : IntKind.u64.wrap (d * X) = Z := by rw [hZ, IntKind.wrap_u64]; omega
      obtain ⟨C, hC⟩ : ∃ C, (z + Z) % 4294967296 = C := ⟨_, rfl⟩
      have hand : Go.bits .and .u64 (z + Z) 4294967295 = C := by rw [and_low _ (by omega) (by omega), hC]
      obtain ⟨T, hT, t0, t1, t2, t3⟩ := wrap_two O b C o0 o1 b0 b1 (by omega) (by omega)
      replace hZ := As.mk hZ
      replace hC := As.mk hC
      replace t2 := As.mk t2
      replace t3 := As.mk t3
      clear HJ hF hI
      go_wp2_with fail
      rw [and_mod _ t0 t1, t2.out, t3.out]
      go_roundw
      case rel => exact ⟨k + 1, _, _, _, hlt, by go_num, rfl, rfl, ⟨HN.out (z + Z) (O - b - C) rfl (by omega) (by omega) (by rw [hC.out]) o0 o1⟩, hst.out _, ⟨grown_set hg.out _ _⟩⟩
      case measure => simp [intOf]; omega
    · obtain rfl : k = n := by omega
      obtain ⟨hcg, hfg⟩ := hown.cell (j + k) (by have := hL.out; have := HJ.out.1.1; omega)
      have hst := As.mk (fun x => Own.store hown (j + k) x)
      have HN := As.mk (hF.out _ _ _ HJ.out)
      have o := HJ.out.1.2.1.get (j + k)
      generalize U'.getD (j + k) 0 = O at *
      obtain ⟨T, hT, t0, t1, t2, t3⟩ := wrap_two O b z o.1 o.2 b0 b1 z0 z1
      have hbe : (T / 9223372036854775808 == 1) = decide (O - b - z < 0) := by rw [t3]; split <;> simp_all
      replace t2 := As.mk t2
      clear HJ hF hI t3
      go_wp2_with fail
      rw [and_mod _ t0 t1, t2.out]
      go_ret
      exact ⟨_, O - b - z, rfl, hst.out _, (HN.out _ rfl).1, (HN.out _ rfl).2, grown_set hg.out _ _⟩

set_option maxHeartbeats 4000000 in
set_option maxRecDepth 100000 in
theorem nat_addBack {S : Nat → Prop} {vv : Value} {U V : List Int} {B g j cap N c : Nat} (w : World) (hU : Own w B (.slice (some ⟨g, 0, none⟩) N cap) U) (hN : N = U.length) (hlim : Lim U) (hv : NumV S w vv V) (hS : ∀ k, S k → k ≠ g) (hj : j + V.length < U.length) (hm : U.length ≤ 35184372088832) :
    Calls Try.prog 118 #[.slice (some ⟨g, j, none⟩) (V.length + 1) c, vv] w fun e w' => ∃ (U' : List Int), e = .returned (.tuple #[]) ∧ Own w' B (.slice (some ⟨g, 0, none⟩) N cap) U' ∧ Same U U' j (V.length + 1) ∧
      (∃ e : Int, 0 ≤ e ∧ seg U' j (V.length + 1) + 4294967296 ^ (V.length + 1) * e = seg U j (V.length + 1) + val V) ∧ w.grownBy w' (some g) := by
  obtain ⟨hlv, A, c', rfl, hc', hr'⟩ := id hv
  have hS' := As.mk hS
  have hlx := As.mk hlv
  have hI := As.mk (BackInv.start (V := V) (j := j) hlim)
  obtain ⟨n, hn⟩ : ∃ n, V.length = n := ⟨_, rfl⟩
  have hF : As (∀ c U', BackInv U V j n c U' → ∀ t, t = U'.getD (j + n) 0 + c → Same U (U'.set (j + n) (t % 4294967296)) j (n + 1) ∧ ∃ e : Int, 0 ≤ e ∧ seg (U'.set (j + n) (t % 4294967296)) j (n + 1) + 4294967296 ^ (n + 1) * e = seg U j (n + 1) + val V) :=
    ⟨fun c U' h t ht => by
      subst hn
      exact h.done hj ht⟩
  obtain ⟨L, hL⟩ : ∃ L, U.length = L := ⟨_, rfl⟩
  rw [hn] at hv hj hc' ⊢
  rw [hL] at hj hm hN
  subst hN
  replace hn := As.mk hn
  replace hL := As.mk hL
  clear hr' hlv hlim hS
  go_enter Try.func118, Try.ntmps118
  go_wp2_with fail
  go_loopw [4, 9] (fun v4 v9 wr => ∃ (k : Nat) (z : Int) (U' : List Int), k ≤ n ∧ v9 = .int .i64 k ∧ v4 = .int .u64 z ∧ As (BackInv U V j k z U') ∧ Own wr B (.slice (some ⟨g, 0, none⟩) N cap) U' ∧ As (w.grownBy wr (some g))) (fun _ v9 _ => n - (intOf v9).toNat)
  case atStart => exact ⟨0, 0, U, Nat.zero_le _, rfl, rfl, hI, hU, ⟨grown_refl _ _⟩⟩
  case round =>
    obtain ⟨k, z, U', hk, rfl, rfl, HJ, hown, hg⟩ := hrel
    have z0 := HJ.out.2.1
    have z1 := HJ.out.2.2.1
    have o := HJ.out.1.2.1.get (j + k)
    obtain ⟨hcg, hfg⟩ := hown.cell (j + k) (by have := hL.out; have := HJ.out.1.1; omega)
    have hst := As.mk (fun x => Own.store hown (j + k) x)
    by_cases hlt : k < n
    · obtain ⟨ad, hA, hca⟩ := (hv.grown hg.out hS'.out).at k (by have := hn.out; omega)
      subst hA
      have hX := hlx.out.get k
      have HN := As.mk (fun t => HJ.out.step (t := t) (by have := hL.out; omega) hlx.out)
      generalize V.getD k 0 = X at *
      generalize U'.getD (j + k) 0 = O at *
      clear HJ hF hI
      go_wp2_with fail
      rw [and_mod _ (by omega) (by omega)]
      go_roundw
      case rel => exact ⟨k + 1, _, _, hlt, by go_num, rfl, ⟨HN.out _ rfl⟩, hst.out _, ⟨grown_set hg.out _ _⟩⟩
      case measure => simp [intOf]; omega
    · obtain rfl : k = n := by omega
      have HN := As.mk (hF.out _ _ HJ.out)
      generalize U'.getD (j + k) 0 = O at *
      clear HJ hF hI
      go_wp2_with fail
      go_end0
      exact ⟨_, rfl, hst.out _, (HN.out _ rfl).1, (HN.out _ rfl).2, grown_set hg.out _ _⟩
end Go.Proofs.Ytdbpjnjgjmfomaa
