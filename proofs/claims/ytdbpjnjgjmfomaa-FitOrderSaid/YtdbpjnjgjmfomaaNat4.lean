/- The program's natural numbers, fourth part: Sub, Mul. -/
import Derived.Test.YtdbpjnjgjmfomaaNat3
namespace Go.Proofs.Ytdbpjnjgjmfomaa
open Go.RowKit

theorem cmpI_nonneg {a b : Nat} (h : b ≤ a) : 0 ≤ cmpI a b := by unfold cmpI; rw [if_neg (by omega)]; split <;> omega
theorem cmpI_le (a b : Nat) : cmpI a b ≤ 1 ∧ -1 ≤ cmpI a b := by unfold cmpI; split <;> (try split) <;> omega
theorem cmpI_neg {a b : Nat} (h : a < b) : cmpI a b = -1 := by unfold cmpI; rw [if_pos h]

set_option maxHeartbeats 2000000 in
set_option maxRecDepth 100000 in
theorem nat_Sub_no {S T : Nat → Prop} {v u : Value} {a b : List Int} (w : World) (ha : NumV S w v a) (hb : NumV T w u b) (hm : a.length ≤ 35184372088831) (hm' : b.length ≤ 35184372088831) (hlt : nv a < nv b) :
    Calls Try.prog 92 #[v, u] w fun e w' => e = .returned (.tuple #[.slice none 0 0, .bool false]) ∧ Drawn w w' := by
  obtain ⟨hla, A, c, rfl, hc, hr⟩ := id ha
  obtain ⟨hlb, B, c', rfl, hc', hr'⟩ := id hb
  have HL : (dig (nv a)).length ≤ 35184372088831 := Nat.le_trans (dig_len_le hla) hm
  have HL' : (dig (nv b)).length ≤ 35184372088831 := Nat.le_trans (dig_len_le hlb) hm'
  have HA := ha.trim
  have HB := hb.trim
  have hC := As.mk (cmpI_neg hlt)
  clear hlt
  go_enter Try.func92, Try.ntmps92
  go_wp2_with fail
  refine (nat_trim _ ha (by omega)).mono ?_
  rintro e w' ⟨rfl, ⟨m, rfl⟩⟩
  go_wp2_with fail
  refine (nat_trim _ (hb.drewN m) (by omega)).mono ?_
  rintro e w' ⟨rfl, ⟨m2, rfl⟩⟩
  go_wp2_with fail
  refine (nat_Cmp _ (HA.drewN _) (HB.drewN _) (by omega) (by omega)).mono ?_
  rintro e w' ⟨rfl, ⟨m3, rfl⟩⟩
  rw [nv_dig, nv_dig, hC.out]
  go_wp2_with fail
  go_ret2
  exact ⟨rfl, by repeat (first | exact Drawn.refl _ | apply Drawn.step)⟩

set_option maxHeartbeats 2000000 in
set_option maxRecDepth 100000 in
theorem nat_Sub {S T : Nat → Prop} {v u : Value} {a b : List Int} (w : World) (ha : NumV S w v a) (hb : NumV T w u b) (hm : a.length ≤ 35184372088831) (hm' : b.length ≤ 35184372088831) (hle : nv b ≤ nv a) :
    Calls Try.prog 92 #[v, u] w fun e w' => ∃ r, e = .returned (.tuple #[r, .bool true]) ∧ NumV (fun k => w.heap.size ≤ k) w' r (dig (nv a - nv b)) ∧ Below w.heap.size w w' := by
  obtain ⟨hla, A, c, rfl, hc, hr⟩ := id ha
  obtain ⟨hlb, B, c', rfl, hc', hr'⟩ := id hb
  have HL : (dig (nv a)).length ≤ 35184372088831 := Nat.le_trans (dig_len_le hla) hm
  have HL' : (dig (nv b)).length ≤ 35184372088831 := Nat.le_trans (dig_len_le hlb) hm'
  have HA := ha.trim
  have HB := hb.trim
  have h1 := dig_len_mono hle
  have hC := cmpI_nonneg hle
  have hC' := (cmpI_le (nv a) (nv b)).1
  have hF : As (∀ b' out, SubInv (dig (nv a)) (dig (nv b)) (dig (nv a)).length b' out → dig (nv out) = dig (nv a - nv b)) := ⟨fun _ _ h => h.done hle⟩
  have hN := As.mk (And.intro (nv_dig (nv a)) (nv_dig (nv b)))
  clear hle
  go_enter Try.func92, Try.ntmps92
  go_wp2_with fail
  refine (nat_trim _ ha (by omega)).mono ?_
  rintro e w' ⟨rfl, ⟨m, rfl⟩⟩
  go_wp2_with fail
  refine (nat_trim _ (hb.drewN m) (by omega)).mono ?_
  rintro e w' ⟨rfl, ⟨m2, rfl⟩⟩
  go_wp2_with fail
  refine (nat_Cmp _ (HA.drewN _) (HB.drewN _) (by omega) (by omega)).mono ?_
  rintro e w' ⟨rfl, ⟨m3, rfl⟩⟩
  rw [hN.out.1, hN.out.2]
  obtain ⟨C, hCC⟩ : ∃ C, C = cmpI (nv a) (nv b) := ⟨_, rfl⟩
  rw [← hCC] at hC hC' ⊢
  have hlx := As.mk (Lim_dig (nv a))
  have hly := As.mk (Lim_dig (nv b))
  generalize hx : dig (nv a) = x at *
  generalize hy : dig (nv b) = y at *
  clear hCC ha hb hr hr' hN hx hy
  obtain ⟨P, hP⟩ : ∃ P, x.length = P := ⟨_, rfl⟩
  obtain ⟨Q, hQ⟩ : ∃ Q, y.length = Q := ⟨_, rfl⟩
  rw [hP, hQ] at h1
  rw [hP] at HL HA hF ⊢
  rw [hQ] at HL' HB ⊢
  have hP := As.mk hP
  have hQ := As.mk hQ
  rw [World.drewN_drewN]
  generalize m + m2 + m3 = m
  have hmk : ∀ W, (Instr.makeSlice 36 (.int .i64 (P : Int)) (.int .i64 (P : Int))).run Try.prog W = .ok (.slice (some ⟨W.heap.size, 0, none⟩) P P) (W.alloc (.cells (madeCells #[.int .u32 0] P) 100)) :=
    fun W => make_nums 36 Try.underlying36 (by kernel_rfl) P P (by omega) (by omega) W
  go_wp2_with fail
  clear hmk
  have HO := Own.made (w.drewN m) w.heap.size P (by simp) (by omega)
  rw [show (w.drewN m).heap.size = w.heap.size from rfl] at HO
  go_loopw [9, 27] (fun v9 v27 wr => ∃ (k : Nat) (x9 : Int) (out : List Int), k ≤ P ∧ v27 = .int .i64 k ∧ v9 = .int .u64 x9 ∧ As (SubInv x y k x9 out) ∧ Own wr w.heap.size (.slice (some ⟨w.heap.size, 0, none⟩) P P) out ∧ Below w.heap.size w wr) (fun _ v27 _ => P - (intOf v27).toNat)
  case atStart => exact ⟨0, 0, List.replicate P 0, by omega, rfl, rfl, ⟨by rw [← hP.out]; exact SubInv.zero _ _⟩, HO, ((Below.refl _ _).drewsN _).alloc (by simp) _⟩
  case round =>
    obtain ⟨k, z, out, hk, rfl, rfl, HJ, hown, hbel⟩ := hrel
    have hx0 := HJ.out.2.2.1
    have hx1 := HJ.out.2.2.2.1
    have hlen := As.mk HJ.out.1
    by_cases hlt : k < P
    · obtain ⟨ad, hA, hca⟩ := (HA.below hbel).at k (by have := hP.out; omega)
      subst hA
      have hX := hlx.out.get k
      obtain ⟨hcg, hfg⟩ := hown.cell k (by have := hP.out; have := hlen.out; omega)
      have HN := As.mk (HJ.out.step (by have := hP.out; omega))
      have hst := As.mk (fun x => Own.store hown k x)
      by_cases hq : k < Q
      · obtain ⟨bd, hB, hcb⟩ := (HB.below hbel).at k (by have := hQ.out; omega)
        subst hB
        have hY := hly.out.get k
        generalize x.getD k 0 = X at *
        generalize y.getD k 0 = Y at *
        generalize out.getD k 0 = O at *
        clear HJ
        by_cases hb : X < z + Y
        · go_wp2_with fail
          go_roundw
          case rel => exact ⟨k + 1, _, _, hlt, by go_num, rfl, ⟨HN.out (X + 4294967296 - (z + Y)) 1 (by omega) (by omega) (by omega) (by omega) (by omega)⟩, hst.out _, hbel.setCell (Nat.le_refl _) _⟩
          case measure => simp [intOf]; omega
        · go_wp2_with fail
          go_roundw
          case rel => exact ⟨k + 1, _, _, hlt, by go_num, rfl, ⟨HN.out (X - (z + Y)) 0 (by omega) (by omega) (by omega) (by omega) (by omega)⟩, hst.out _, hbel.setCell (Nat.le_refl _) _⟩
          case measure => simp [intOf]; omega
      · have hY : y.getD k 0 = 0 := getD_ge _ _ (by have := hQ.out; omega)
        rw [hY] at HN
        generalize x.getD k 0 = X at *
        generalize out.getD k 0 = O at *
        clear HJ hY
        by_cases hb : X < z
        · go_wp2_with fail
          go_roundw
          case rel => exact ⟨k + 1, _, _, hlt, by go_num, rfl, ⟨HN.out (X + 4294967296 - z) 1 (by omega) (by omega) (by omega) (by omega) (by omega)⟩, hst.out _, hbel.setCell (Nat.le_refl _) _⟩
          case measure => simp [intOf]; omega
        · go_wp2_with fail
          go_roundw
          case rel => exact ⟨k + 1, _, _, hlt, by go_num, rfl, ⟨HN.out (X - z) 0 (by omega) (by omega) (by omega) (by omega) (by omega)⟩, hst.out _, hbel.setCell (Nat.le_refl _) _⟩
          case measure => simp [intOf]; omega
    · obtain rfl : k = P := by omega
      have hG := As.mk (hF.out z out HJ.out)
      have hlim := As.mk HJ.out.2.1
      have hnum := hown.num hlim.out
      have hlen2 : out.length = k := by have := hP.out; have := hlen.out; omega
      rw [← hlen2] at hnum hk
      clear hF HJ
      go_wp2_with fail
      rw [← hlen2]
      refine (nat_trim _ hnum (by omega)).mono ?_
      rintro e w' ⟨rfl, ⟨m4, rfl⟩⟩
      have hres := (hnum.trim.drewN m4).mono (T := fun k => w.heap.size ≤ k) (fun k hk _ => hk.1)
      rw [hG.out] at hres ⊢
      clear hlen2
      go_wp2_with fail
      go_ret2
      exact ⟨_, rfl, hres, hbel.drewsN _⟩
end Go.Proofs.Ytdbpjnjgjmfomaa
