/- The program's natural numbers, seventh part: shiftUp, shiftDown. -/
import Derived.Test.YtdbpjnjgjmfomaaNat6
namespace Go.Proofs.Ytdbpjnjgjmfomaa
open Go.RowKit

theorem two_pow_bounds (n : Nat) (h : n < 32) : (1 : Int) ≤ 2 ^ n ∧ (2 : Int) ^ n ≤ 2147483648 := by
  have h1 : 1 ≤ 2 ^ n := Nat.one_le_two_pow
  have h2 : 2 ^ n ≤ 2 ^ 31 := Nat.pow_le_pow_right (by omega) (by omega)
  have e : ((2 ^ n : Nat) : Int) = (2 : Int) ^ n := by rw [Int.natCast_pow]; rfl
  have e2 : (2 : Nat) ^ 31 = 2147483648 := by decide
  omega
theorem or_shift (n : Nat) (h : n < 32) (c X : Int) (c0 : 0 ≤ c) (c1 : c < 2 ^ n) (x0 : 0 ≤ X) (x1 : X < 4294967296) : Go.bits .or .u64 c (X * 2 ^ n) = c + X * 2 ^ n := by
  obtain ⟨p0, p1⟩ := two_pow_bounds n h
  have h6 : X * 2 ^ n ≤ 4294967295 * 2 ^ n := Int.mul_le_mul_of_nonneg_right (by omega) (by omega)
  have h7 : 0 ≤ X * 2 ^ n := Int.mul_nonneg x0 (by omega)
  obtain ⟨C, rfl⟩ : ∃ C : Nat, c = C := ⟨c.toNat, by omega⟩
  obtain ⟨x, rfl⟩ : ∃ x : Nat, X = x := ⟨X.toNat, by omega⟩
  have e : ((2 ^ n : Nat) : Int) = (2 : Int) ^ n := by rw [Int.natCast_pow]; rfl
  rw [u64_or _ _ (by omega) (by omega) (by omega) (by omega), ← e]
  have e2 : ((x : Int) * ((2 ^ n : Nat) : Int)).toNat = x * 2 ^ n := by
    rw [← Int.natCast_mul]; exact Int.toNat_natCast _
  rw [e2, Int.toNat_natCast, Nat.or_comm, nat_join n (x * 2 ^ n) C (Nat.mul_mod_left _ _) (by omega)]
  rw [Int.natCast_add, Int.natCast_mul, e]
  omega

set_option maxHeartbeats 4000000 in
set_option maxRecDepth 100000 in
theorem nat_shiftUp {S : Nat → Prop} {v : Value} {a : List Int} {n : Nat} (w : World) (ha : NumV S w v a) (hm : a.length ≤ 35184372088831) (hn : n < 32) :
    Calls Try.prog 115 #[v, .int .u64 n] w fun e w' => ∃ g out, e = .returned (.slice (some ⟨g, 0, none⟩) (a.length + 1) (a.length + 1)) ∧ g = w.heap.size ∧ Own w' w.heap.size (.slice (some ⟨g, 0, none⟩) (a.length + 1) (a.length + 1)) out ∧ out.length = a.length + 1 ∧ Lim out ∧ val out = 2 ^ n * val a ∧ Below w.heap.size w w' := by
  obtain ⟨hla, A, c, rfl, hc, hr⟩ := id ha
  obtain ⟨p0, p1⟩ := two_pow_bounds n hn
  have hF : As (∀ c out, UpInv a (2 ^ n) a.length c out → c < 4294967296 → _) := ⟨fun _ _ h hc => h.done hc⟩
  have hT : As (∀ c out k, UpInv a (2 ^ n) k c out → k < a.length → ∀ t, t = c + a.getD k 0 * 2 ^ n → _) := ⟨fun _ _ _ h hk t ht => h.step hk hla ht⟩
  have hor := As.mk (or_shift n hn)
  have hlx := As.mk hla
  have hS := As.mk (UpInv.start a (2 ^ n) (by omega))
  obtain ⟨P, hP⟩ : ∃ P, a.length = P := ⟨_, rfl⟩
  rw [hP] at ha hm hc hS hF ⊢
  replace hP := As.mk hP
  clear hr hla
  go_enter Try.func115, Try.ntmps115
  have hmk : ∀ W, (Instr.makeSlice 36 (.int .i64 ((P : Int) + 1)) (.int .i64 ((P : Int) + 1))).run Try.prog W = .ok (.slice (some ⟨W.heap.size, 0, none⟩) (P + 1) (P + 1)) (W.alloc (.cells (madeCells #[.int .u32 0] (P + 1)) 100)) :=
    fun W => make_nums 36 Try.underlying36 (by kernel_rfl) (P + 1) (P + 1) (by omega) (by omega) W
  go_wp2_with fail
  clear hmk
  have HO := Own.made w w.heap.size (P + 1) (Nat.le_refl _) (by omega)
  go_loopw [6, 15] (fun v6 v15 wr => ∃ (k : Nat) (r : Int) (out : List Int), k ≤ P ∧ v15 = .int .i64 k ∧ v6 = .int .u64 r ∧ As (UpInv a (2 ^ n) k r out) ∧ Own wr w.heap.size (.slice (some ⟨w.heap.size, 0, none⟩) (P + 1) (P + 1)) out ∧ Below w.heap.size w wr) (fun _ v15 _ => P - (intOf v15).toNat)
  case atStart => exact ⟨0, 0, _, Nat.zero_le _, rfl, rfl, hS, HO, (Below.refl _ _).alloc (Nat.le_refl _) _⟩
  case round =>
    obtain ⟨k, r, out, hk, rfl, rfl, HJ, hown, hbel⟩ := hrel
    have r0 := HJ.out.2.2.1
    have r1 := HJ.out.2.2.2.1
    by_cases hlt : k < P
    · obtain ⟨ad, hA, hca⟩ := (ha.below hbel).at k (by have := hP.out; omega)
      subst hA
      have hX := hlx.out.get k
      obtain ⟨hcg, hfg⟩ := hown.cell k (by have := hP.out; have := HJ.out.1; omega)
      have HN := hT.out _ _ _ HJ.out (by have := hP.out; omega)
      have hst := As.mk (fun x => Own.store hown k x)
      have hj := hor.out r (a.getD k 0) r0 r1 hX.1 hX.2
      have q1 : a.getD k 0 * 2 ^ n ≤ 4294967295 * 2 ^ n := Int.mul_le_mul_of_nonneg_right (by omega) (by omega)
      have q0 : 0 ≤ a.getD k 0 * 2 ^ n := Int.mul_nonneg hX.1 (by omega)
      generalize a.getD k 0 = X at *
      generalize out.getD k 0 = O at *
      obtain ⟨t, ht⟩ : ∃ t, r + X * 2 ^ n = t := ⟨_, rfl⟩
      have HN := As.mk (HN t ht.symm)
      rw [ht] at hj
      have t0 : 0 ≤ t := by omega
      have t1 : t < 18446744073709551616 := by omega
      replace ht := As.mk ht
      clear HJ hT hF hS hor
      go_wp2_with fail
      rw [and_mod _ (by omega) (by omega)]
      go_roundw
      case rel => exact ⟨k + 1, _, _, hlt, by go_num, rfl, HN, hst.out _, hbel.setCell (Nat.le_refl _) _⟩
      case measure => simp [intOf]; omega
    · obtain rfl : k = P := by omega
      have hG := hF.out _ _ HJ.out (by omega)
      have hst := As.mk (fun x => Own.store hown k x)
      obtain ⟨hcg, hfg⟩ := hown.cell k (by have := hP.out; have := HJ.out.1; omega)
      generalize out.getD k 0 = O at *
      replace hG := As.mk hG
      clear hF hT hS HJ
      go_wp2_with fail
      go_ret
      exact ⟨_, _, rfl, rfl, hst.out _, hG.out.1, hG.out.2.1, hG.out.2.2, hbel.setCell (Nat.le_refl _) _⟩

theorem add_succ (ad : Addr) (k : Nat) : ad.add (k + 1) = ⟨ad.block, ad.off + (k + 1), none⟩ := by simp [Addr.add]
theorem half_limb (n : Nat) (h : n < 32) : ∃ c : Int, (2 : Int) ^ n * c = 4294967296 := by
  refine ⟨2 ^ (32 - n), ?_⟩
  rw [← Int.pow_add, show n + (32 - n) = 32 from by omega]
  rfl
set_option maxHeartbeats 4000000 in
set_option maxRecDepth 100000 in
theorem nat_shiftDown {S : Nat → Prop} {v : Value} {a : List Int} {n : Nat} (w : World) (ha : NumV S w v a) (hm : a.length ≤ 35184372088831) (hn : n < 32) :
    Calls Try.prog 119 #[v, .int .u64 n] w fun e w' => ∃ r, e = .returned r ∧ NumV (fun k => w.heap.size ≤ k) w' r (dig (nv a / 2 ^ n)) ∧ Below w.heap.size w w' := by
  obtain ⟨hla, A, c, rfl, hc, hr⟩ := id ha
  obtain ⟨p0, p1⟩ := two_pow_bounds n hn
  obtain ⟨C, hC⟩ := half_limb n hn
  have hF : As (∀ out, DownInv a (2 ^ n) a.length out → dig (nv out) = dig (nv a / 2 ^ n)) := ⟨fun _ h => by
    have := h.done hla (by omega)
    rwa [show ((2 : Int) ^ n).toNat = 2 ^ n from by rw [← Int.toNat_natCast (2 ^ n), Int.natCast_pow]; rfl] at this⟩
  have hT : As (∀ out k, DownInv a (2 ^ n) k out → k < a.length → ∀ t, t = (a.getD k 0 + a.getD (k + 1) 0 * 4294967296) / 2 ^ n % 4294967296 → _) := ⟨fun _ _ h hk t ht => h.step hk hla (by omega) hC ht⟩
  have hlx := As.mk hla
  have hS := As.mk (DownInv.start a (2 ^ n))
  obtain ⟨P, hP⟩ : ∃ P, a.length = P := ⟨_, rfl⟩
  rw [hP] at ha hm hc hS hF ⊢
  replace hP := As.mk hP
  clear hr hla hC
  go_enter Try.func119, Try.ntmps119
  have hmk : ∀ W, (Instr.makeSlice 36 (.int .i64 (P : Int)) (.int .i64 (P : Int))).run Try.prog W = .ok (.slice (some ⟨W.heap.size, 0, none⟩) P P) (W.alloc (.cells (madeCells #[.int .u32 0] P) 100)) :=
    fun W => make_nums 36 Try.underlying36 (by kernel_rfl) P P (by omega) (by omega) W
  go_wp2_with fail
  clear hmk
  have HO := Own.made w w.heap.size P (Nat.le_refl _) (by omega)
  go_loopw [13] (fun v13 wr => ∃ (k : Nat) (out : List Int), k ≤ P ∧ v13 = .int .i64 k ∧ As (DownInv a (2 ^ n) k out) ∧ Own wr w.heap.size (.slice (some ⟨w.heap.size, 0, none⟩) P P) out ∧ Below w.heap.size w wr) (fun v13 _ => P - (intOf v13).toNat)
  case atStart => exact ⟨0, _, Nat.zero_le _, rfl, hS, HO, (Below.refl _ _).alloc (Nat.le_refl _) _⟩
  case round =>
    obtain ⟨k, out, hk, rfl, HJ, hown, hbel⟩ := hrel
    by_cases hlt : k < P
    · obtain ⟨ad, hA, hca⟩ := (ha.below hbel).at k (by have := hP.out; omega)
      subst hA
      have hX := hlx.out.get k
      have hY := hlx.out.get (k + 1)
      obtain ⟨hcg, hfg⟩ := hown.cell k (by have := hP.out; have := HJ.out.1; omega)
      have HN := hT.out _ _ HJ.out (by have := hP.out; omega)
      have hst := As.mk (fun x => Own.store hown k x)
      generalize out.getD k 0 = O at *
      by_cases hl2 : k + 1 < P
      · obtain ⟨ad', hA, hcb⟩ := (ha.below hbel).at (k + 1) (by have := hP.out; omega)
        injection hA with hA
        subst hA
        rw [add_succ] at hcb
        generalize a.getD k 0 = X at *
        generalize a.getD (k + 1) 0 = Y at *
        obtain ⟨t, ht⟩ : ∃ t, X + Y * 4294967296 = t := ⟨_, rfl⟩
        have hj : Go.bits .or .u64 X (Y * 4294967296) = t := by
          have := or_join (Y * 4294967296) X (by omega) (by omega) (by omega) hX.1 hX.2
          rw [u64_or _ _ (by omega) (by omega) (by omega) (by omega)] at this ⊢
          rw [Nat.or_comm, this]; omega
        rw [ht] at HN
        have t0 : 0 ≤ t := by omega
        have t1 : t < 18446744073709551616 := by omega
        replace HN := As.mk HN
        replace ht := As.mk ht
        have d0 : 0 ≤ t / 2 ^ n := Int.ediv_nonneg t0 (by omega)
        have d1 : t / 2 ^ n ≤ t := Int.ediv_le_self _ t0
        clear HJ hT hF hS
        go_wp2_with fail
        rw [and_mod _ (by omega) (by omega)]
        go_roundw
        case rel => exact ⟨k + 1, _, hlt, by go_num, ⟨HN.out _ rfl⟩, hst.out _, hbel.setCell (Nat.le_refl _) _⟩
        case measure => simp [intOf]; omega
      · rw [getD_ge a (k + 1) (by have := hP.out; omega)] at HN
        generalize a.getD k 0 = X at *
        rw [show X + 0 * 4294967296 = X from by omega] at HN
        replace HN := As.mk HN
        have d0 : 0 ≤ X / 2 ^ n := Int.ediv_nonneg hX.1 (by omega)
        have d1 : X / 2 ^ n ≤ X := Int.ediv_le_self _ hX.1
        clear HJ hT hF hS hY
        go_wp2_with fail
        rw [and_mod _ (by omega) (by omega)]
        go_roundw
        case rel => exact ⟨k + 1, _, hlt, by go_num, ⟨HN.out _ rfl⟩, hst.out _, hbel.setCell (Nat.le_refl _) _⟩
        case measure => simp [intOf]; omega
    · obtain rfl : k = P := by omega
      have hG := As.mk (hF.out out HJ.out)
      have hnum := hown.num HJ.out.2.1
      have hlen2 : out.length = k := by have := hP.out; have := HJ.out.1; omega
      rw [← hlen2] at hnum hm
      clear hF HJ hown HO hT hS
      go_wp2_with fail
      rw [← hlen2]
      refine (nat_trim _ hnum (by omega)).mono ?_
      rintro e w' ⟨rfl, ⟨m4, rfl⟩⟩
      have hres := (hnum.trim.drewN m4).mono (T := fun k => w.heap.size ≤ k) (fun k hk _ => hk.1)
      rw [hG.out] at hres ⊢
      clear hlen2
      go_wp2_with fail
      go_ret
      exact ⟨_, rfl, hres, hbel.drewsN _⟩
end Go.Proofs.Ytdbpjnjgjmfomaa
