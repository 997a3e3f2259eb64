/- Whatever list of ratios comes in, FitModel answers true, and the list reads afterwards as before: the distribution of the Guttman errors is that of the model, each probability being the sum over all patterns (at most 6 responses). No condition. -/
import Derived.Test.YtdbpjnjgjmfomaaJFitModel6
import Derived.Test.YtdbpjnjgjmfomaaRows
import Derived.WalkKit
import Derived.ProofKit
import Derived.OpenShut
import Derived.ChangeOld
import Derived.Below
import Derived.SizedLaws
import Derived.Deep.Grids
namespace Go.Proofs.Ytdbpjnjgjmfomaa.fitModel
open Go.ChangeShapes Go.WideShapes Go.ChangeAt Go.RowKit Go.Deep
theorem own : ownKnob Try.prog.godebug = none := by kernel_rfl
theorem laidOut : laidOutB Try.prog = true := by kernel_rfl

set_option maxRecDepth 100000 in
theorem lifted (os : Os) (started : os.Started) (H : Type) (enc : TypeId × Value → H) :
    ReturnsInHanded {} Try.checked os 8 .any (Rows.fitModelSpec.pre6 enc Try.prog Try.f8 Rows.fitModelRow.domain false) (Rows.fitModelSpec.post enc Try.prog Try.f8 false true false false) := by
  refine returnsInHanded_of_change_sized (C := Try.checked) own started (by kernel_rfl) Try.func8
    (ChangeSpec.witness6 (enc := enc) (C := Try.checked) false ⟨#[], #[.slice none 0 0], []⟩ 8 (by kernel_rfl) (by kernel_rfl) (by kernel_rfl) (by kernel_rfl)) ?_
  intro W base args ds gs before hval0 hW hcnd hsz0 _
  have hsz : (DataW.weightsEach Try.prog (Try.f8.params.toList ++ Rows.fitModelSpec.plain.varTypes Try.prog) (ds ++ gs)).all (· ≤ reachBytes) = true := hsz0
  have hval : ∀ (j : Nat) t v, Try.f8.params[j]? = some t → args[j]? = some v → Value.okWide Try.prog W .any base t v := hval0
  have hW' := hW
  obtain ⟨p, q, hA0, hV, rfl, hfz, hnd⟩ := hW
  have hA : DataW.TrodAll enc Try.prog W 0 (fun _ => true) true Try.f8.params.toList args.toList ds p := hA0
  rw [Try.params8] at hA hval hsz
  obtain ⟨v0, vs0, d0, ds0, p0, q0, hargs, rfl, rfl, h0, r0⟩ := trodAll_cons hA
  obtain ⟨rfl, rfl, rfl⟩ := trodAll_nil r0
  obtain rfl : args = #[v0] := by cases args; simp_all
  obtain ⟨rfl, rfl⟩ := trodVars_none hV
  obtain ⟨a0, len0, cap0, rfl⟩ := okWide_slice Try.underlying49 (hval 0 49 v0 rfl rfl)
  have k0 := h0
  have lt0 : ∀ x ∈ p0, x.block < W.heap.size := by obtain ⟨m, hm⟩ := k0; exact DataW.trod_lt m _ _ _ hm
  obtain ⟨z0, hx0, hv0, hm0⟩ : ∃ z0 : List Rt, len0 = z0.length ∧ RsV (fun _ => True) W a0 z0 ∧ z0.length ≤ 140737488351232 := by
    obtain ⟨fuel, hf⟩ := h0
    have hreach : reachBytes = 140737488351232 := rfl
    obtain ⟨A, es, c, hcs, hv, hsize⟩ := open_rats hf
    simp [Value.cells] at hcs
    obtain ⟨rfl, rfl, rfl⟩ := hcs
    refine ⟨es, rfl, hv, ?_⟩
    rcases hsize with rfl | ⟨ds, ss, hd, hl⟩
    · simp
    · have hd : d0 = .slice ds ss := hd
      subst hd
      have z := sized_slice hsz (j := 0) (t := 49) (e := 40) rfl rfl Try.underlying49
      rw [show Try.prog.bytesOf 40 = 56 by kernel_rfl] at z
      omega
  subst hx0
  clear hA0 hval0 hsz0 hsz
  refine (law_Model W hv0 hm0).mono fun e W' ⟨he, bel⟩ => ?_
  subst he
  exact ⟨_, rfl, _, _, _, [], _, [], hW', trodAll_mk1 (shut_bool Try.underlying4 _), (trodAll_cons_mk (Below.trod laidOut (by kernel_rfl) (of_decide_eq_true (by kernel_rfl)) k0 bel lt0) trodAll_mk0), rfl, bel.frame _, fun h => by cases h⟩

theorem over : Rows.fitModelRow.holds Try.pinned (OpenSpec.ofChange Rows.fitModelSpec) :=
  OpenClaim.holds_of_wide 8 Try.f8 rfl rfl rfl rfl rfl rfl rfl ⟨rfl, rfl, rfl, rfl, rfl⟩ rfl rfl rfl rfl rfl (by kernel_rfl) Try.func8 (by kernel_rfl)
    (of_decide_eq_true (by kernel_rfl)) (by unfold Func.isWrapper; first | (rw [if_pos (by decide +kernel)]; kernel_rfl) | (rw [if_neg (by decide +kernel)]; exact ⟨rfl, rfl⟩))
    (fun os started H enc _ => lifted os started H enc)
theorem proved : Rows.FitModelSaid := over
#print axioms proved
end Go.Proofs.Ytdbpjnjgjmfomaa.fitModel
namespace Go.Proofs.Ytdbpjnjgjmfomaa
/-- The row, under a short name, for the claim. -/
theorem fitModel_holds : Rows.FitModelSaid := fitModel.proved
end Go.Proofs.Ytdbpjnjgjmfomaa
