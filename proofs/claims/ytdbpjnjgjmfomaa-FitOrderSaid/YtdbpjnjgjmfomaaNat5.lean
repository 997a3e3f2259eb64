/- The program's natural numbers, fifth part: Mul. -/
import Derived.Test.YtdbpjnjgjmfomaaNat4
namespace Go.Proofs.Ytdbpjnjgjmfomaa
open Go.RowKit

theorem dig_nil_iff (n : Nat) : (dig n).length = 0 ↔ n = 0 := by
  constructor
  · intro h
    have := congrArg nv (List.length_eq_zero_iff.1 h)
    rwa [nv_dig] at this
  · rintro rfl
    rw [dig_zero]; rfl

set_option maxHeartbeats 4000000 in
set_option maxRecDepth 100000 in
theorem nat_Mul {S T : Nat → Prop} {v u : Value} {a b : List Int} (w : World) (ha : NumV S w v a) (hb : NumV T w u b) (hm : a.length + b.length ≤ 35184372088831) :
    Calls Try.prog 57 #[v, u] w fun e w' => ∃ r, e = .returned r ∧ NumV (fun k => w.heap.size ≤ k) w' r (dig (nv a * nv b)) ∧ Below w.heap.size w w' := by
  obtain ⟨hla, A, c, rfl, hc, hr⟩ := id ha
  obtain ⟨hlb, B, c', rfl, hc', hr'⟩ := id hb
  have HL := dig_len_le hla
  have HL' := dig_len_le hlb
  have HA := ha.trim
  have HB := hb.trim
  have hF : As (∀ out, MulOut (dig (nv a)) (dig (nv b)) (dig (nv a)).length out → dig (nv out) = dig (nv a * nv b)) := ⟨fun _ h => h.done⟩
  have hZ : As ((dig (nv a)).length = 0 ∨ (dig (nv b)).length = 0 → dig (nv a * nv b) = []) := ⟨fun h => by
    rw [dig_nil_iff, dig_nil_iff] at h
    rcases h with h | h <;> rw [h] <;> simp [dig_zero]⟩
  have hlx := As.mk (Lim_dig (nv a))
  have hly := As.mk (Lim_dig (nv b))
  go_enter Try.func57, Try.ntmps57
  go_wp2_with fail
  refine (nat_trim _ ha (by omega)).mono ?_
  rintro e w' ⟨rfl, ⟨m, rfl⟩⟩
  go_wp2_with fail
  refine (nat_trim _ (hb.drewN m) (by omega)).mono ?_
  rintro e w' ⟨rfl, ⟨m2, rfl⟩⟩
  rw [World.drewN_drewN]
  generalize m + m2 = m
  have HLL : (dig (nv a)).length + (dig (nv b)).length ≤ 35184372088831 := by omega
  generalize hx : dig (nv a) = x at *
  generalize hy : dig (nv b) = y at *
  clear ha hb hr hr' hx hy HL HL'
  obtain ⟨P, hP⟩ : ∃ P, x.length = P := ⟨_, rfl⟩
  obtain ⟨Q, hQ⟩ : ∃ Q, y.length = Q := ⟨_, rfl⟩
  rw [hP, hQ] at HLL hZ
  rw [hP] at HA hF ⊢
  rw [hQ] at HB ⊢
  replace hP := As.mk hP
  replace hQ := As.mk hQ
  rcases Nat.eq_zero_or_pos P with hp | hp
  · subst hp
    have hZ0 := As.mk (hZ.out (.inl rfl))
    clear hZ
    go_wp2_with fail
    go_ret
    exact ⟨_, rfl, by rw [hZ0.out]; exact NumV.nil _ _, (Below.refl _ _).drewsN _⟩
  rcases Nat.eq_zero_or_pos Q with hq | hq
  · subst hq
    have hZ0 := As.mk (hZ.out (.inr rfl))
    clear hZ
    go_wp2_with fail
    go_ret
    exact ⟨_, rfl, by rw [hZ0.out]; exact NumV.nil _ _, (Below.refl _ _).drewsN _⟩
  clear hZ
  have hmk : ∀ W, (Instr.makeSlice 36 (.int .i64 ((P : Int) + Q)) (.int .i64 ((P : Int) + Q))).run Try.prog W = .ok (.slice (some ⟨W.heap.size, 0, none⟩) (P + Q) (P + Q)) (W.alloc (.cells (madeCells #[.int .u32 0] (P + Q)) 100)) :=
    fun W => make_nums 36 Try.underlying36 (by kernel_rfl) (P + Q) (P + Q) (by omega) (by omega) W
  have hpb : ((P : Int) == 0) = false := beq_eq_false_iff_ne.2 (by omega)
  have hqb : ((Q : Int) == 0) = false := beq_eq_false_iff_ne.2 (by omega)
  go_wp2_with fail
  clear hmk
  have HO := Own.made (w.drewN m) w.heap.size (P + Q) (by simp) (by omega)
  rw [show (w.drewN m).heap.size = w.heap.size from rfl] at HO
  go_loopw [33] (fun v33 wr => ∃ (i : Nat) (out : List Int), i ≤ P ∧ v33 = .int .i64 i ∧ As (MulOut x y i out) ∧ Own wr w.heap.size (.slice (some ⟨w.heap.size, 0, none⟩) (P + Q) (P + Q)) out ∧ Below w.heap.size w wr) (fun v33 _ => P - (intOf v33).toNat)
  case atStart => exact ⟨0, _, by omega, rfl, ⟨by rw [← hP.out, ← hQ.out]; exact MulOut.zero _ _⟩, HO, ((Below.refl _ _).drewsN _).alloc (by simp) _⟩
  case round =>
    obtain ⟨i, out, hi, rfl, HJ, hown, hbel⟩ := hrel
    obtain ⟨wo, rfl⟩ : ∃ wo : World, wo = wr := ⟨_, rfl⟩
    by_cases hlt : i < P
    · obtain ⟨ad, hA, hca⟩ := (HA.below hbel).at i (by have := hP.out; omega)
      subst hA
      have hX := hlx.out.get i
      have HS := As.mk (HJ.out.start (by have := hP.out; omega) hlx.out hly.out)
      have hie := As.mk (show i < x.length by have := hP.out; omega)
      clear HJ HO
      obtain ⟨X, hXe⟩ : ∃ X, X = x.getD i 0 := ⟨_, rfl⟩
      rw [← hXe] at hca hX
      replace hXe := As.mk hXe
      go_wp2_with fail
      go_loopw [10, 40] (fun v10 v40 wr => ∃ (k : Nat) (z : Int) (out : List Int), k ≤ Q ∧ v40 = .int .i64 k ∧ v10 = .int .u64 z ∧ As (MulInv x y i k z out) ∧ Own wr w.heap.size (.slice (some ⟨w.heap.size, 0, none⟩) (P + Q) (P + Q)) out ∧ Below w.heap.size w wr) (fun _ v40 _ => Q - (intOf v40).toNat)
      case atStart => exact ⟨0, 0, out, by omega, rfl, rfl, HS, hown, hbel⟩
      case round =>
        clear HS hown hbel hca
        obtain ⟨k, z, out, hk, rfl, rfl, HJ, hown, hbel⟩ := hrel
        by_cases hlk : k < Q
        · obtain ⟨bd, hB, hcb⟩ := (HB.below hbel).at k (by have := hQ.out; omega)
          subst hB
          have hY := hly.out.get k
          obtain ⟨b1, b2, b3, b4, b5, b6⟩ := HJ.out.bound hlx.out hly.out
          obtain ⟨hcg, hfg⟩ := hown.cell (i + k) (by have := hP.out; have := hQ.out; have := HJ.out.1; omega)
          have HN := As.mk (fun t => HJ.out.step (t := t) hie.out (by have := hQ.out; omega))
          have hst := As.mk (fun x => Own.store hown (i + k) x)
          rw [← hXe.out] at b1 b2 HN
          generalize y.getD k 0 = Y at *
          generalize out.getD (i + k) 0 = O at *
          obtain ⟨Z, hZ⟩ : ∃ Z, X * Y = Z := ⟨_, rfl⟩
          rw [hZ] at b1 b2 HN
          have hw : IntKind.u64.wrap (X * Y) = Z := by rw [hZ, IntKind.wrap_u64]; omega
          replace hZ := As.mk hZ
          clear HJ
          go_wp2_with fail
          rw [and_mod _ (by omega) (by omega)]
          go_roundw
          case rel => exact ⟨k + 1, _, _, hlk, by go_num, rfl, ⟨HN.out _ rfl (by omega) (by omega)⟩, hst.out _, hbel.setCell (Nat.le_refl _) _⟩
          case measure => simp [intOf]; omega
        · obtain rfl : k = Q := by omega
          obtain ⟨hcg, hfg⟩ := hown.cell (i + k) (by have := hP.out; have := hQ.out; have := HJ.out.1; omega)
          have hst := As.mk (fun x => Own.store hown (i + k) x)
          have hz0 := HJ.out.2.2.1
          have hz1 := HJ.out.2.2.2.1
          have HN := As.mk (by have h := HJ.out; rw [← hQ.out] at h; exact h.stop hie.out)
          rw [hQ.out] at HN
          generalize out.getD (i + k) 0 = O at *
          clear HJ
          go_wp2_with fail
          go_roundw
          case rel => exact ⟨i + 1, _, hlt, by go_num, HN, hst.out _, hbel.setCell (Nat.le_refl _) _⟩
          case measure => simp [intOf]; omega
    · obtain rfl : i = P := by omega
      have hG := As.mk (hF.out out HJ.out)
      have hlim := As.mk HJ.out.2.1
      have hnum := hown.num hlim.out
      have hlen2 : out.length = i + Q := by have := hP.out; have := hQ.out; have := HJ.out.1; omega
      rw [← hlen2] at hnum HLL
      clear hF HJ hown HO
      go_wp2_with fail
      rw [← hlen2]
      refine (nat_trim _ hnum (by omega)).mono ?_
      rintro e w' ⟨rfl, ⟨m4, rfl⟩⟩
      have hres := (hnum.trim.drewN m4).mono (T := fun k => w.heap.size ≤ k) (fun k hk _ => hk.1)
      rw [hG.out] at hres ⊢
      clear hlen2
      go_wp2_with fail
      go_ret
      exact ⟨_, rfl, hres, hbel.drewsN _⟩
end Go.Proofs.Ytdbpjnjgjmfomaa
