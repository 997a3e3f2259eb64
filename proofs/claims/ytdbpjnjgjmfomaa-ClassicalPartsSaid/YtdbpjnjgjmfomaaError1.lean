/- classical.Error. -/
import Derived.Test.YtdbpjnjgjmfomaaAlpha3
namespace Go.Proofs.Ytdbpjnjgjmfomaa
open Go.RowKit

set_option maxHeartbeats 8000000 in
set_option maxRecDepth 100000 in
theorem cls_Error {S : Nat → Prop} {v : Value} {rows : List (List Int)} (w : World) (hv : RowsV S w v rows) (hm : rows.length ≤ 140737488351232) (hr : ∀ i, (rows.getD i []).length ≤ 140737488351232) :
    Calls Try.prog 22 #[v] w fun e w' => ∃ s, e = .returned (.tuple #[s, .int .i64 (errR rows)]) ∧ RatV (New w) w' s (if errR rows = 0 then varR rows * (1 - alpR rows) else 0) ∧ Below w.heap.size w w' := by
  obtain ⟨A, c, rfl⟩ := hv.slice
  have HA : As (∀ W, Below w.heap.size w W → Calls Try.prog 48 #[.slice A rows.length c] W fun e w' => ∃ r s, e = .returned (.tuple #[r, s, .int .i64 (errR rows)]) ∧ RatV (New W) w' r (varR rows) ∧ RatV (New W) w' s (alpR rows) ∧ Below W.heap.size W w') := ⟨fun W hb => cls_alpha W (hv.below hb) hm hr⟩
  have hrv := rz_var rows
  have hra := rz_alp rows
  obtain ⟨E, hE⟩ : ∃ E, errR rows = E := ⟨_, rfl⟩
  obtain ⟨V, hV⟩ : ∃ V, varR rows = V := ⟨_, rfl⟩
  obtain ⟨Q, hQ⟩ : ∃ Q, alpR rows = Q := ⟨_, rfl⟩
  rw [hE, hV, hQ] at HA
  rw [hV] at hrv
  rw [hQ] at hra
  try rw [hE]
  try rw [hV]
  try rw [hQ]
  clear hv hm hr hE hV hQ
  generalize rows.length = n at *
  obtain ⟨X, hX0⟩ : ∃ X, (if E = 0 then V * (1 - Q) else 0) = X := ⟨_, rfl⟩
  rw [hX0]
  replace hX0 := As.mk hX0
  go_enter Try.func22, Try.ntmps22
  go_wp2_with fail
  obtain ⟨W, hW⟩ : ∃ W, (w.alloc (Obj.cells #[Value.bool false, Value.slice none 0 0, Value.slice none 0 0] 40)) = W := ⟨_, rfl⟩
  have hs : W.heap.size = w.heap.size + 1 := by rw [← hW]; simp
  have hB : Below w.heap.size w W := by rw [← hW]; exact ((Below.refl _ _).alloc (by simp <;> omega) _)
  have hR0 : Res W (w.heap.size) 3 := ⟨by omega, fun i hi => by
    subst hW
    rcases (by omega : i = 0 ∨ i = 1 ∨ i = 2) with rfl | rfl | rfl
    · exact ⟨⟨.bool false, by simp [go_sem]⟩, by simp [go_sem]⟩
    · exact ⟨⟨.slice none 0 0, by simp [go_sem]⟩, by simp [go_sem]⟩
    · exact ⟨⟨.slice none 0 0, by simp [go_sem]⟩, by simp [go_sem]⟩⟩
  rw [hW]
  clear hW
  have hS : Below w.heap.size w W ∧ Res W w.heap.size 3 := ⟨hB, hR0⟩
  clear hR0
  refine (HA.out _ hB).mono ?_
  rintro e w3 ⟨r, s, rfl, hM, hD, hb⟩
  replace hS := (keep_B Res.below) hS hb
  have hz3 := hb.size
  clear hB HA hb
  replace hM := hM.mono (T := fun b => w.heap.size + 1 ≤ b ∧ b < w3.heap.size) (fun b h1 h => ⟨by have : W.heap.size ≤ b := h1; omega, h⟩)
  replace hD := hD.mono (T := fun b => w.heap.size + 1 ≤ b ∧ b < w3.heap.size) (fun b h1 h => ⟨by have : W.heap.size ≤ b := h1; omega, h⟩)
  obtain ⟨A5, c5, B5, d5, rfl⟩ := hM.slice
  obtain ⟨A7, c7, B7, d7, rfl⟩ := hD.slice
  obtain ⟨V0, hV0⟩ : ∃ s, decide (V.num < 0) = s := ⟨_, rfl⟩
  obtain ⟨V1, hV1⟩ : ∃ s, sz V.num = s := ⟨_, rfl⟩
  obtain ⟨V2, hV2⟩ : ∃ s, (dig V.den).length = s := ⟨_, rfl⟩
  obtain ⟨D0, hD0⟩ : ∃ s, decide (Q.num < 0) = s := ⟨_, rfl⟩
  obtain ⟨D1, hD1⟩ : ∃ s, sz Q.num = s := ⟨_, rfl⟩
  obtain ⟨D2, hD2⟩ : ∃ s, (dig Q.den).length = s := ⟨_, rfl⟩
  rw [hV0, hV1, hV2] at hM ⊢
  rw [hD0, hD1, hD2] at hD ⊢
  clear hV0 hV1 hV2 hD0 hD1 hD2
  have hw4 : w.heap.size < w3.heap.size := by omega
  by_cases hE0 : E = 0
  · subst hE0
    have hsz1 : rz (((1 : Int) : Rat) / ((1 : Int) : Rat)) + rz Q ≤ 35184372088828 := by
      have := rz_small 1 1 (by decide) (by decide)
      omega
    have hsz2 : rz V + rz (((1 : Int) : Rat) / ((1 : Int) : Rat) - Q) ≤ 35184372088829 := by
      have h1 := rz_small 1 1 (by decide) (by decide)
      have h3 := rz_sub (((1 : Int) : Rat) / ((1 : Int) : Rat)) Q
      omega
    have hb4 := ((Below.refl w3.heap.size w3).alloc (Nat.le_refl _) (Obj.cells #[.bool V0, .slice A5 V1 c5, .slice B5 V2 d5] 40)).alloc (by simp) (Obj.cells #[.bool D0, .slice A7 D1 c7, .slice B7 D2 d7] 40)
    go_wp2_with fail
    obtain ⟨W8, hW8⟩ : ∃ W8, (w3.alloc (Obj.cells #[.bool V0, .slice A5 V1 c5, .slice B5 V2 d5] 40)).alloc (Obj.cells #[.bool D0, .slice A7 D1 c7, .slice B7 D2 d7] 40) = W8 := ⟨_, rfl⟩
    rw [hW8] at hb4 ⊢
    obtain ⟨N5, hN5⟩ : ∃ N5, w3.heap.size = N5 := ⟨_, rfl⟩
    obtain ⟨N7, hN7⟩ : ∃ N7, w3.heap.size + 1 = N7 := ⟨_, rfl⟩
    have hz8 : N7 < W8.heap.size := by subst hW8; simp; omega
    replace hS := (keep_B Res.below) hS hb4
    replace hM := hM.below hb4
    replace hD := hD.below hb4
    rw [hN5] at hM hD
    have E0 : W8.cell? ⟨N5, 0, none⟩ = some (.bool V0) := by subst hW8; subst hN5; simp [go_sem]
    have E1 : W8.cell? ⟨N5, 1, none⟩ = some (.slice A5 V1 c5) := by subst hW8; subst hN5; simp [go_sem]
    have E2 : W8.cell? ⟨N5, 2, none⟩ = some (.slice B5 V2 d5) := by subst hW8; subst hN5; simp [go_sem]
    have G0 : W8.cell? ⟨N7, 0, none⟩ = some (.bool D0) := by subst hW8; subst hN7; simp [go_sem]
    have G1 : W8.cell? ⟨N7, 1, none⟩ = some (.slice A7 D1 c7) := by subst hW8; subst hN7; simp [go_sem]
    have G2 : W8.cell? ⟨N7, 2, none⟩ = some (.slice B7 D2 d7) := by subst hW8; subst hN7; simp [go_sem]
    rw [hN7, hN5]
    have hlt1 : w.heap.size < N5 := by omega
    have hlt2 : N5 < N7 := by omega
    have hre : As (V * (((1 : Int) : Rat) / ((1 : Int) : Rat) - Q) = X) := ⟨by have := hX0.out; simp at this; rw [one_frac, this]⟩
    clear hW8 hb4 hN5 hN7 hrv hra hw4 hz3
    go_region_held3 (fun w' => w'.cell? ⟨N5, 0, none⟩ = some ((.bool V0)) ∧ w'.cell? ⟨N5, 1, none⟩ = some ((.slice A5 V1 c5)) ∧ w'.cell? ⟨N5, 2, none⟩ = some ((.slice B5 V2 d5)) ∧ w'.cell? ⟨N7, 0, none⟩ = some ((.bool D0)) ∧ w'.cell? ⟨N7, 1, none⟩ = some ((.slice A7 D1 c7)) ∧ w'.cell? ⟨N7, 2, none⟩ = some ((.slice B7 D2 d7)) ∧ RatV (fun b => w.heap.size + 1 ≤ b ∧ b < N5) w' (.agg #[.bool V0, .slice A5 V1 c5, .slice B5 V2 d5]) V ∧ RatV (fun b => w.heap.size + 1 ≤ b ∧ b < N5) w' (.agg #[.bool D0, .slice A7 D1 c7, .slice B7 D2 d7]) Q ∧ Below w.heap.size w w' ∧ Res w' w.heap.size 3)
      ((first
        | with_reducible exact (set_held (by simp <;> omega) (set_held (by simp <;> omega) (set_held (by simp <;> omega) (set_held (by simp <;> omega) (set_held (by simp <;> omega) (set_held (by simp <;> omega) (set_p (RatV.setc (by simp <;> omega)) (set_p (RatV.setc (by simp <;> omega)) (set_B (by simp <;> omega) (set_R1)))))))))) ((set_held (by simp <;> omega) (set_held (by simp <;> omega) (set_held (by simp <;> omega) (set_held (by simp <;> omega) (set_held (by simp <;> omega) (set_held (by simp <;> omega) (set_p (RatV.setc (by simp <;> omega)) (set_p (RatV.setc (by simp <;> omega)) (set_B (by simp <;> omega) (set_R1)))))))))) ((set_held (by simp <;> omega) (set_held (by simp <;> omega) (set_held (by simp <;> omega) (set_held (by simp <;> omega) (set_held (by simp <;> omega) (set_held (by simp <;> omega) (set_p (RatV.setc (by simp <;> omega)) (set_p (RatV.setc (by simp <;> omega)) (set_B (by simp <;> omega) (set_R1)))))))))) (by with_reducible assumption)))
        | exact (keep_and (keep_and (keep_and (keep_and (keep_and (keep_and (keep_p RatV.below (keep_p RatV.below (keep_B (Res.below)))))))))) ⟨E0, E1, E2, G0, G1, G2, hM, hD, hS.1, hS.2⟩ (below_drew _)
        | with_reducible exact (keep_and (keep_and (keep_and (keep_and (keep_and (keep_and (keep_p RatV.below (keep_p RatV.below (keep_B (Res.below)))))))))) (by with_reducible assumption) (below_drew _)
        | with_reducible exact (keep_and (keep_and (keep_and (keep_and (keep_and (keep_and (keep_p RatV.below (keep_p RatV.below (keep_B (Res.below)))))))))) (by with_reducible assumption) (by with_reducible assumption)))
      (first
        | (go_at_call 50; obtain ⟨_, _, _, _, _, _, hM1, hD1, hB1, hRg9⟩ := ‹(_ = some _) ∧ (_ = some _) ∧ (_ = some _) ∧ (_ = some _) ∧ (_ = some _) ∧ (_ = some _) ∧ RatV _ _ _ V ∧ RatV _ _ _ Q ∧ Below _ _ _ ∧ Res _ _ _›; refine (cls_fraction _ 1 1 (by omega) (by omega) (by omega) (by omega)).mono ?_; rintro e w9 ⟨u1, rfl, hF1, hb⟩)
        | (go_at_call 29; obtain ⟨_, _, _, _, _, _, hM1, hD1, hB1, hRg9⟩ := ‹(_ = some _) ∧ (_ = some _) ∧ (_ = some _) ∧ (_ = some _) ∧ (_ = some _) ∧ (_ = some _) ∧ RatV _ _ _ V ∧ RatV _ _ _ Q ∧ Below _ _ _ ∧ Res _ _ _›; refine (rat_Sub _ hF1.i hD1.i (rz_pos _) (rz_pos _) hsz1).mono ?_; rintro e w9 ⟨u2, rfl, hL, hb⟩)
        | (go_at_call 28; obtain ⟨_, _, _, _, _, _, hM1, hD1, hB1, hRg9⟩ := ‹(_ = some _) ∧ (_ = some _) ∧ (_ = some _) ∧ (_ = some _) ∧ (_ = some _) ∧ (_ = some _) ∧ RatV _ _ _ V ∧ RatV _ _ _ Q ∧ Below _ _ _ ∧ Res _ _ _›; refine (rat_Mul _ hM1.i hL.i (rz_pos _) (rz_pos _) hsz2).mono ?_; rw [hre.out]; rintro e w9 ⟨u3, rfl, hX, hb⟩; obtain ⟨X0, A9, X1, c9, B9, X2, d9, rfl⟩ := hX.letters; obtain ⟨⟨x0, g0⟩, ⟨x1, g1⟩, ⟨x2, g2⟩, f0, f1, f2⟩ := (hRg9.below hb).cells3))
    all_goals
      go_wp2_with fail
      refine bodyPost_ret (v := .tuple #[.agg #[.bool X0, .slice A9 X1 c9, .slice B9 X2 d9], .int .i64 0]) (by simp [results, Try.results22, go_sem, g0, g1, g2]) rfl ?_
      have hst := fun x y z => RatV.stored (x := x) (y := y) (z := z) (Nat.le_refl w.heap.size) hRg9 hX
      have hB9 := hB1.after hB1.size hb
      exact ⟨_, rfl, hst _ _ _, Below.set3 hB9 (Nat.le_refl _)⟩
  · have hEb : (E == 0) = false := beq_eq_false_iff_ne.2 hE0
    have h0X : As ((0 : Rat) = X) := ⟨by rw [← hX0.out, if_neg hE0]⟩
    have hb4 := ((Below.refl w3.heap.size w3).alloc (Nat.le_refl _) (Obj.cells #[.bool V0, .slice A5 V1 c5, .slice B5 V2 d5] 40)).alloc (by simp) (Obj.cells #[.bool D0, .slice A7 D1 c7, .slice B7 D2 d7] 40)
    replace hS := (keep_B Res.below) hS hb4
    clear hM hD hb4 hX0
    go_wp2_with fail
    refine (cls_zero _).mono ?_
    rw [h0X.out]
    rintro e w5 ⟨r, rfl, hz, hb⟩
    obtain ⟨X0, A9, X1, c9, B9, X2, d9, rfl⟩ := hz.letters
    have hst := As.mk (fun x y z => RatV.stored (x := x) (y := y) (z := z) (Nat.le_refl w.heap.size) hS.2 hz)
    replace hS := (keep_B Res.below) hS hb
    obtain ⟨⟨x0, g0⟩, ⟨x1, g1⟩, ⟨x2, g2⟩, f0, f1, f2⟩ := hS.2.cells3
    have hB9 := As.mk (fun x y z => Below.set3 (x := x) (y := y) (z := z) hS.1 (Nat.le_refl _))
    clear hS hz hb
    go_wp2_with fail
    refine bodyPost_ret (v := .tuple #[.agg #[.bool X0, .slice A9 X1 c9, .slice B9 X2 d9], .int .i64 E]) (by simp [results, Try.results22, go_sem, g0, g1, g2]) rfl ?_
    exact ⟨_, rfl, hst.out _ _ _, hB9.out _ _ _⟩
end Go.Proofs.Ytdbpjnjgjmfomaa
