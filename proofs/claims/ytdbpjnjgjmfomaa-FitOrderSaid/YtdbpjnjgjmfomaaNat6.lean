/- The program's natural numbers, sixth part: divSmall, guess. -/
import Derived.Test.YtdbpjnjgjmfomaaNat5
import Derived.Test.YtdbpjnjgjmfomaaDivPure
namespace Go.Proofs.Ytdbpjnjgjmfomaa
open Go.RowKit

set_option maxHeartbeats 4000000 in
set_option maxRecDepth 100000 in
theorem nat_divSmall {S : Nat → Prop} {v : Value} {a : List Int} {d : Int} (w : World) (ha : NumV S w v a) (hm : a.length ≤ 35184372088831) (h0 : 0 < d) (h1 : d < 4294967296) :
    Calls Try.prog 113 #[v, .int .u32 d] w fun e w' => ∃ q r, e = .returned (.tuple #[q, .int .u32 r]) ∧ NumV (fun k => w.heap.size ≤ k) w' q (dig (nv a / d.toNat)) ∧ r = (nv a % d.toNat : Nat) ∧ Below w.heap.size w w' := by
  obtain ⟨hla, A, c, rfl, hc, hr⟩ := id ha
  have hF : As (∀ r out, DivInv a d 0 r out → dig (nv out) = dig (nv a / d.toNat) ∧ r = (nv a % d.toNat : Nat)) := ⟨fun _ _ h => h.done hla⟩
  have hT : As (∀ r out k, DivInv a d (k + 1) r out → k < a.length → ∀ t, t = r * 4294967296 + a.getD k 0 → _) := ⟨fun _ _ _ h hk t ht => h.step hk hla ht⟩
  have hlx := As.mk hla
  have hS := As.mk (DivInv.start a d h0)
  obtain ⟨P, hP⟩ : ∃ P, a.length = P := ⟨_, rfl⟩
  rw [hP] at ha hm hc hS ⊢
  replace hP := As.mk hP
  clear hr hla
  have hd0 : (d == 0) = false := beq_eq_false_iff_ne.2 (by omega)
  go_enter Try.func113, Try.ntmps113
  have hmk : ∀ W, (Instr.makeSlice 36 (.int .i64 (P : Int)) (.int .i64 (P : Int))).run Try.prog W = .ok (.slice (some ⟨W.heap.size, 0, none⟩) P P) (W.alloc (.cells (madeCells #[.int .u32 0] P) 100)) :=
    fun W => make_nums 36 Try.underlying36 (by kernel_rfl) P P (by omega) (by omega) W
  go_wp2_with fail
  clear hmk
  have HO := Own.made w w.heap.size P (Nat.le_refl _) (by omega)
  go_loopw [7, 8] (fun v7 v8 wr => ∃ (k : Nat) (r : Int) (out : List Int), k ≤ P ∧ v8 = .int .i64 ((k : Int) - 1) ∧ v7 = .int .u64 r ∧ As (DivInv a d k r out) ∧ Own wr w.heap.size (.slice (some ⟨w.heap.size, 0, none⟩) P P) out ∧ Below w.heap.size w wr) (fun _ v8 _ => (intOf v8 + 1).toNat)
  case atStart => exact ⟨P, 0, _, Nat.le_refl _, rfl, rfl, ⟨by rw [← hP.out]; rw [← hP.out] at hS; exact hS.out⟩, HO, (Below.refl _ _).alloc (Nat.le_refl _) _⟩
  case round =>
    obtain ⟨k, r, out, hk, rfl, rfl, HJ, hown, hbel⟩ := hrel
    have r0 := HJ.out.2.2.1
    have r1 := HJ.out.2.2.2.1
    cases k with
    | zero =>
      have hG := As.mk (hF.out _ _ HJ.out)
      have hnum := hown.num HJ.out.2.1
      have hlen2 : out.length = P := by have := hP.out; have := HJ.out.1; omega
      rw [← hlen2] at hnum hm
      clear hF HJ hown HO hT hS
      go_wp2_with fail
      rw [← hlen2]
      refine (nat_trim _ hnum (by omega)).mono ?_
      rintro e w' ⟨rfl, ⟨m4, rfl⟩⟩
      have hres := (hnum.trim.drewN m4).mono (T := fun k => w.heap.size ≤ k) (fun k hk _ => hk.1)
      rw [hG.out.1] at hres ⊢
      clear hlen2
      go_wp2_with fail
      go_ret2
      exact ⟨_, _, rfl, hres, hG.out.2, hbel.drewsN _⟩
    | succ k =>
      rw [show (((k + 1 : Nat) : Int) - 1) = (k : Int) from by omega]
      obtain ⟨ad, hA, hca⟩ := (ha.below hbel).at k (by have := hP.out; omega)
      subst hA
      have hX := hlx.out.get k
      obtain ⟨hcg, hfg⟩ := hown.cell k (by have := hP.out; have := HJ.out.1; omega)
      have HN := hT.out _ _ _ HJ.out (by have := hP.out; omega)
      have hst := As.mk (fun x => Own.store hown k x)
      generalize a.getD k 0 = X at *
      generalize out.getD k 0 = O at *
      obtain ⟨t, ht⟩ : ∃ t, r * 4294967296 + X = t := ⟨_, rfl⟩
      obtain ⟨HN, t0, t1, t2, t3⟩ := HN t ht.symm
      have hj : Go.bits .or .u64 (r * 4294967296) X = t := by rw [or_join _ _ (by omega) (by omega) (by omega) hX.1 hX.2, ht]
      have t4 : 0 ≤ t := by omega
      replace HN := As.mk HN
      replace ht := As.mk ht
      clear HJ hT hF hS
      go_wp2_with fail
      rw [show IntKind.u64.wrap (t.tdiv d) % 4294967296 = t / d from by rw [Int.tdiv_eq_ediv_of_nonneg t4, IntKind.wrap_u64]; omega]
      go_roundw
      case rel => exact ⟨k, _, _, by omega, rfl, rfl, HN, hst.out _, hbel.setCell (Nat.le_refl _) _⟩
      case measure => simp [intOf]

theorem guess_min {u2 u1 u0 v1 v0 d : Int} (h : GuessP u2 u1 u0 v1 v0 d) : 0 ≤ d ∧ d ≤ 4294967295 := ⟨h.1, h.2.1⟩
set_option maxHeartbeats 4000000 in
set_option maxRecDepth 100000 in
theorem nat_guess {u2 u1 u0 v1 v0 : Int} (w : World) (h2 : 0 ≤ u2) (h2' : u2 ≤ v1) (h1 : 0 ≤ u1) (h1' : u1 < 4294967296) (h0 : 0 ≤ u0) (h0' : u0 < 4294967296) (g1 : 2147483648 ≤ v1) (g1' : v1 < 4294967296) (g0 : 0 ≤ v0) (g0' : v0 < 4294967296) :
    Calls Try.prog 116 #[.int .u32 u2, .int .u32 u1, .int .u32 u0, .int .u32 v1, .int .u32 v0] w fun e w' => ∃ d, e = .returned (.int .u64 d) ∧ GuessP u2 u1 u0 v1 v0 d ∧ Drawn w w' := by
  have hS := GuessInv.start h2 h2' h1 h1' h0 h0' g1 g1' g0
  have hv1 : (v1 == 0) = false := beq_eq_false_iff_ne.2 (by omega)
  obtain ⟨H, hH⟩ : ∃ H, u2 * 4294967296 + u1 = H := ⟨_, rfl⟩
  have hj : Go.bits .or .u64 (u2 * 4294967296) u1 = H := by rw [or_join _ _ (by omega) (by omega) (by omega) h1 h1', hH]
  have H0 : 0 ≤ H := by omega
  rw [hH] at hS
  replace hS := As.mk hS
  replace hH := As.mk hH
  go_enter Try.func116, Try.ntmps116
  go_wp2_with fail
  have hq0 : 0 ≤ H % v1 := Int.emod_nonneg _ (by omega)
  have hq1 : H % v1 < v1 := Int.emod_lt_of_pos _ (by omega)
  go_loopw [12, 13] (fun v12 v13 wr => ∃ d r, v12 = .int .u64 d ∧ v13 = .int .u64 r ∧ As (GuessInv u2 u1 u0 v1 v0 d r) ∧ r ≤ 4294967295 ∧ Drawn w wr) (fun v12 _ _ => (intOf v12).toNat)
  case atStart => exact ⟨H / v1, H % v1, val_int (by rw [Int.tdiv_eq_ediv_of_nonneg H0, IntKind.wrap_u64]; have := hS.out.1; have := hS.out.2.1; omega), val_int (by first | rfl | rw [Int.tmod_eq_emod_of_nonneg H0]), hS, by omega, Drawn.refl _⟩
  case round =>
    clear hS hq0 hq1
    obtain ⟨d, r, rfl, rfl, HJ, hr, ⟨m, rfl⟩⟩ := hrel
    have d0 := HJ.out.1
    have d1 := HJ.out.2.1
    have r0 := HJ.out.2.2.1
    obtain ⟨Y, hY⟩ : ∃ Y, r * 4294967296 + u0 = Y := ⟨_, rfl⟩
    have hk : Go.bits .or .u64 (r * 4294967296) u0 = Y := by rw [or_join _ _ (by omega) (by omega) (by omega) h0 h0', hY]
    obtain ⟨Z, hZ⟩ : ∃ Z, d * v0 = Z := ⟨_, rfl⟩
    by_cases hd : 4294967295 < d
    · have HL := HJ.out.less g1 g0 h0 (.inl hd)
      replace hY := As.mk hY
      replace hZ := As.mk hZ
      by_cases hb : 4294967295 < r + v1
      · have HP := As.mk (HL.brk h2' h1' h0 g1 g1' g0 g0' hb (by omega))
        clear HL HJ
        go_wp2_with fail
        go_ret
        exact ⟨_, rfl, HP.out, (Drawn.refl _).step _⟩
      · replace HL := As.mk HL
        clear HJ
        go_wp2_with fail
        go_roundw
        case rel => exact ⟨_, _, rfl, rfl, HL, by omega, (Drawn.refl _).step _⟩
        case measure => simp [intOf]; omega
    · have z0 : 0 ≤ Z := by rw [← hZ]; exact Int.mul_nonneg d0 g0
      have z1 : Z ≤ 18446744065119617025 := by
        have := Int.mul_le_mul (show d ≤ 4294967295 by omega) (show v0 ≤ 4294967295 by omega) g0 (by omega)
        rw [hZ] at this; omega
      have hw : IntKind.u64.wrap (d * v0) = Z := by rw [hZ, IntKind.wrap_u64]; omega
      by_cases hc : Y < Z
      · have HL := HJ.out.less g1 g0 h0 (.inr (by rw [hY, hZ]; exact hc))
        replace hY := As.mk hY
        replace hZ := As.mk hZ
        by_cases hb : 4294967295 < r + v1
        · have HP := As.mk (HL.brk h2' h1' h0 g1 g1' g0 g0' hb (by omega))
          have hd1 : 1 ≤ d := by have := HL.1; omega
          clear HL HJ
          go_wp2_with fail
          go_ret
          exact ⟨_, rfl, HP.out, (Drawn.refl _).step _⟩
        · have hd1 : 1 ≤ d := by have := HL.1; omega
          replace HL := As.mk HL
          clear HJ
          go_wp2_with fail
          go_roundw
          case rel => exact ⟨_, _, rfl, rfl, HL, by omega, (Drawn.refl _).step _⟩
          case measure => simp [intOf]; omega
      · have HP := As.mk (HJ.out.stop (by omega) (by rw [hY, hZ]; omega))
        replace hY := As.mk hY
        replace hZ := As.mk hZ
        clear HJ
        go_wp2_with fail
        go_ret
        exact ⟨_, rfl, HP.out, (Drawn.refl _).step _⟩
end Go.Proofs.Ytdbpjnjgjmfomaa
