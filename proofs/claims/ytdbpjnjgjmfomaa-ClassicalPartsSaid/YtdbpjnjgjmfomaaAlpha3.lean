/- classical.alpha at any rows; Alpha. -/
import Derived.Test.YtdbpjnjgjmfomaaAlpha2
namespace Go.Proofs.Ytdbpjnjgjmfomaa
open Go.RowKit

def kR (rows : List (List Int)) : Nat := (rows.getD 0 []).length
def errR (rows : List (List Int)) : Int := if tableE rows = 0 then (if allR rows (kR rows) = 0 then 20 else 0) else tableE rows
def varR (rows : List (List Int)) : Rat := if tableE rows = 0 then allR rows (kR rows) else 0
def alpR (rows : List (List Int)) : Rat := if tableE rows = 0 then (if allR rows (kR rows) = 0 then 0 else ((kR rows : Int) : Rat) / (((kR rows : Int) - 1 : Int) : Rat) * (1 - partR rows (kR rows) / allR rows (kR rows))) else 0
theorem rz_zero : rz 0 ≤ 1 := by
  have e : ((0 : Int) : Rat) / ((1 : Int) : Rat) = 0 := by simp [Rat.div_def]
  have h1 := rz_int 0 1
  rw [e] at h1
  have h2 : sz (0 : Int) = 0 := (dig_nil_iff 0).2 rfl
  have h3 : sz (1 : Int) ≤ 1 := dig_one_len
  omega
theorem one_frac : ((1 : Int) : Rat) / ((1 : Int) : Rat) = 1 := by grind
theorem rz_one : rz 1 ≤ 2 := by rw [← one_frac]; exact rz_small 1 1 (by decide) (by decide)
theorem rz_var (rows : List (List Int)) : rz (varR rows) ≤ 1000 := by
  unfold varR
  split
  · next h =>
    have hI := table_zero h
    have := rz_covR (totp rows (kR rows)) (totp rows (kR rows)) (hI.totmod _ hI.sixty) (hI.totmod _ hI.sixty) (by rw [totp_length]; exact hI.few)
    unfold allR
    omega
  · have := rz_zero; omega
theorem rz_alp (rows : List (List Int)) : rz (alpR rows) ≤ 1000 := by
  unfold alpR
  split
  · next h =>
    have hI := table_zero h
    split
    · have := rz_zero; omega
    · have h0 := rz_covR (totp rows (kR rows)) (totp rows (kR rows)) (hI.totmod _ hI.sixty) (hI.totmod _ hI.sixty) (by rw [totp_length]; exact hI.few)
      have h1 := rz_part hI (kR rows)
      have h2 := rz_div (partR rows (kR rows)) (allR rows (kR rows))
      have h3 := rz_sub 1 (partR rows (kR rows) / allR rows (kR rows))
      have h4 := rz_mul (((kR rows : Int) : Rat) / (((kR rows : Int) - 1 : Int) : Rat)) (1 - partR rows (kR rows) / allR rows (kR rows))
      have h5 := hI.sixty
      have h6 : kR rows ≤ 60 := h5
      have h7 := rz_small (kR rows : Int) ((kR rows : Int) - 1) (by omega) (by have := hI.two; have e : (rows.getD 0 []).length = kR rows := rfl; omega)
      have h8 := rz_one
      have h9 : rz (allR rows (kR rows)) ≤ 7 := h0
      omega
  · have := rz_zero; omega

theorem cls_alpha {S : Nat → Prop} {v : Value} {rows : List (List Int)} (w : World) (hv : RowsV S w v rows) (hm : rows.length ≤ 140737488351232) (hr : ∀ i, (rows.getD i []).length ≤ 140737488351232) :
    Calls Try.prog 48 #[v] w fun e w' => ∃ r s, e = .returned (.tuple #[r, s, .int .i64 (errR rows)]) ∧ RatV (New w) w' r (varR rows) ∧ RatV (New w) w' s (alpR rows) ∧ Below w.heap.size w w' := by
  by_cases h : tableE rows = 0
  · unfold errR varR alpR
    rw [if_pos h, if_pos h, if_pos h]
    exact cls_alpha_ok w hv h rfl
  · unfold errR varR alpR
    rw [if_neg h, if_neg h, if_neg h]
    exact cls_alpha_no w hv hm hr h

set_option maxHeartbeats 8000000 in
set_option maxRecDepth 100000 in
theorem cls_Alpha {S : Nat → Prop} {v : Value} {rows : List (List Int)} (w : World) (hv : RowsV S w v rows) (hm : rows.length ≤ 140737488351232) (hr : ∀ i, (rows.getD i []).length ≤ 140737488351232) :
    Calls Try.prog 21 #[v] w fun e w' => ∃ s, e = .returned (.tuple #[s, .int .i64 (errR rows)]) ∧ RatV (New w) w' s (alpR rows) ∧ Below w.heap.size w w' := by
  obtain ⟨A, c, rfl⟩ := hv.slice
  have HA : As (∀ W, Below w.heap.size w W → Calls Try.prog 48 #[.slice A rows.length c] W fun e w' => ∃ r s, e = .returned (.tuple #[r, s, .int .i64 (errR rows)]) ∧ RatV (New W) w' r (varR rows) ∧ RatV (New W) w' s (alpR rows) ∧ Below W.heap.size W w') := ⟨fun W hb => cls_alpha W (hv.below hb) hm hr⟩
  have hrv := rz_var rows
  have hra := rz_alp rows
  obtain ⟨E, hE⟩ : ∃ E, errR rows = E := ⟨_, rfl⟩
  obtain ⟨V, hV⟩ : ∃ V, varR rows = V := ⟨_, rfl⟩
  obtain ⟨Q, hQ⟩ : ∃ Q, alpR rows = Q := ⟨_, rfl⟩
  rw [hE, hV, hQ] at HA
  rw [hV] at hrv
  rw [hQ] at hra
  try rw [hE]
  try rw [hV]
  try rw [hQ]
  clear hv hm hr hE hV hQ
  generalize rows.length = n at *
  go_enter Try.func21, Try.ntmps21
  go_wp2_with fail
  obtain ⟨W, hW⟩ : ∃ W, (w.alloc (Obj.cells #[Value.bool false, Value.slice none 0 0, Value.slice none 0 0] 40)) = W := ⟨_, rfl⟩
  have hs : W.heap.size = w.heap.size + 1 := by rw [← hW]; simp
  have hB : Below w.heap.size w W := by rw [← hW]; exact ((Below.refl _ _).alloc (by simp <;> omega) _)
  have hR0 : Res W (w.heap.size) 3 := ⟨by omega, fun i hi => by
    subst hW
    rcases (by omega : i = 0 ∨ i = 1 ∨ i = 2) with rfl | rfl | rfl
    · exact ⟨⟨.bool false, by simp [go_sem]⟩, by simp [go_sem]⟩
    · exact ⟨⟨.slice none 0 0, by simp [go_sem]⟩, by simp [go_sem]⟩
    · exact ⟨⟨.slice none 0 0, by simp [go_sem]⟩, by simp [go_sem]⟩⟩
  rw [hW]
  clear hW
  have hS : Below w.heap.size w W ∧ Res W w.heap.size 3 := ⟨hB, hR0⟩
  clear hR0
  refine (HA.out _ hB).mono ?_
  rintro e w3 ⟨r, s, rfl, hM, hD, hb⟩
  replace hS := (keep_B Res.below) hS hb
  have hz3 := hb.size
  clear hB HA hb
  replace hM := hM.mono (T := fun b => w.heap.size + 1 ≤ b ∧ b < w3.heap.size) (fun b h1 h => ⟨by have : W.heap.size ≤ b := h1; omega, h⟩)
  replace hD := hD.mono (T := fun b => w.heap.size + 1 ≤ b ∧ b < w3.heap.size) (fun b h1 h => ⟨by have : W.heap.size ≤ b := h1; omega, h⟩)
  obtain ⟨A5, c5, B5, d5, rfl⟩ := hM.slice
  obtain ⟨A7, c7, B7, d7, rfl⟩ := hD.slice
  obtain ⟨V0, hV0⟩ : ∃ s, decide (V.num < 0) = s := ⟨_, rfl⟩
  obtain ⟨V1, hV1⟩ : ∃ s, sz V.num = s := ⟨_, rfl⟩
  obtain ⟨V2, hV2⟩ : ∃ s, (dig V.den).length = s := ⟨_, rfl⟩
  obtain ⟨D0, hD0⟩ : ∃ s, decide (Q.num < 0) = s := ⟨_, rfl⟩
  obtain ⟨D1, hD1⟩ : ∃ s, sz Q.num = s := ⟨_, rfl⟩
  obtain ⟨D2, hD2⟩ : ∃ s, (dig Q.den).length = s := ⟨_, rfl⟩
  rw [hV0, hV1, hV2] at hM ⊢
  rw [hD0, hD1, hD2] at hD ⊢
  clear hV0 hV1 hV2 hD0 hD1 hD2
  have hw4 : w.heap.size < w3.heap.size := by omega
  have hw5 : w.heap.size < w3.heap.size + 1 := by omega
  have hne1 : w.heap.size ≠ w3.heap.size := by omega
  have hne2 : w.heap.size ≠ w3.heap.size + 1 := by omega
  obtain ⟨⟨x0, g0⟩, ⟨x1, g1⟩, ⟨x2, g2⟩, f0, f1, f2⟩ := hS.2.cells3
  have hst : As (∀ x y z o1 o2, RatV (New w) (((((w3.setCell ⟨w.heap.size, 0, none⟩ x).setCell ⟨w.heap.size, 1, none⟩ y).setCell ⟨w.heap.size, 2, none⟩ z).alloc o1).alloc o2) (.agg #[.bool D0, .slice A7 D1 c7, .slice B7 D2 d7]) Q) := ⟨fun x y z o1 o2 =>
    (((hD.set3 (fun h => by have := h.1; omega)).below ((Below.refl _ _).alloc (Nat.le_refl _) _)).below ((Below.refl _ _).alloc (Nat.le_refl _) _)).mono (fun k hk _ => by show w.heap.size ≤ k; omega)⟩
  have hB9 : As (∀ x y z o1 o2, Below w.heap.size w (((((w3.setCell ⟨w.heap.size, 0, none⟩ x).setCell ⟨w.heap.size, 1, none⟩ y).setCell ⟨w.heap.size, 2, none⟩ z).alloc o1).alloc o2)) := ⟨fun x y z o1 o2 =>
    ((Below.set3 hS.1 (Nat.le_refl _)).alloc (by simp [World.setCell]; omega) _).alloc (by simp [World.setCell]; omega) _⟩
  clear hS hM hD
  go_wp2_with fail
  refine bodyPost_ret (v := .tuple #[.agg #[.bool D0, .slice A7 D1 c7, .slice B7 D2 d7], .int .i64 E]) (by simp [results, Try.results21, go_sem, g0, g1, g2, hw4, hw5, hne1, hne2]) rfl ?_
  exact ⟨_, rfl, hst.out _ _ _ _ _, hB9.out _ _ _ _ _⟩
end Go.Proofs.Ytdbpjnjgjmfomaa
