/- Whatever list of ratios comes in, FitOrder answers true, and the list reads afterwards as before: the order of the probabilities is a permutation along which they do not rise, equal ones in their order; or the two functions give the same error. No condition. -/
import Derived.Test.YtdbpjnjgjmfomaaRows
import Derived.Test.YtdbpjnjgjmfomaaLawFO
import Derived.Test.YtdbpjnjgjmfomaaRatsOpen
import Derived.WalkKit
import Derived.ProofKit
import Derived.OpenShut
import Derived.ChangeOld
import Derived.Below
import Derived.SizedLaws
import Derived.Deep.Grids
namespace Go.Proofs.Ytdbpjnjgjmfomaa.fitOrder
open Go.ChangeShapes Go.WideShapes Go.ChangeAt Go.RowKit Go.Deep
theorem own : ownKnob Try.prog.godebug = none := by kernel_rfl
theorem laidOut : laidOutB Try.prog = true := by kernel_rfl

set_option maxRecDepth 100000 in
theorem lifted (os : Os) (started : os.Started) (H : Type) (enc : TypeId × Value → H) :
    ReturnsInHanded {} Try.checked os 11 .any (Rows.fitOrderSpec.pre6 enc Try.prog Try.f11 Rows.fitOrderRow.domain false) (Rows.fitOrderSpec.post enc Try.prog Try.f11 false true false false) := by
  refine returnsInHanded_of_change_sized (C := Try.checked) own started (by kernel_rfl) Try.func11
    (ChangeSpec.witness6 (enc := enc) (C := Try.checked) false ⟨#[], #[.slice none 0 0], []⟩ 8 (by kernel_rfl) (by kernel_rfl) (by kernel_rfl) (by kernel_rfl)) ?_
  intro W base args ds gs before hval0 hW hcnd hsz0 _
  have hsz : (DataW.weightsEach Try.prog (Try.f11.params.toList ++ Rows.fitOrderSpec.plain.varTypes Try.prog) (ds ++ gs)).all (· ≤ reachBytes) = true := hsz0
  have hval : ∀ (j : Nat) t v, Try.f11.params[j]? = some t → args[j]? = some v → Value.okWide Try.prog W .any base t v := hval0
  have hW' := hW
  obtain ⟨p, q, hA0, hV, rfl, hfz, hnd⟩ := hW
  have hA : DataW.TrodAll enc Try.prog W 0 (fun _ => true) true Try.f11.params.toList args.toList ds p := hA0
  rw [Try.params11] at hA hval hsz
  obtain ⟨v0, vs0, d0, ds0, p0, q0, hargs, rfl, rfl, h0, r0⟩ := trodAll_cons hA
  obtain ⟨rfl, rfl, rfl⟩ := trodAll_nil r0
  obtain rfl : args = #[v0] := by cases args; simp_all
  obtain ⟨rfl, rfl⟩ := trodVars_none hV
  obtain ⟨a0, len0, cap0, rfl⟩ := okWide_slice Try.underlying49 (hval 0 49 v0 rfl rfl)
  have k0 := h0
  have lt0 : ∀ x ∈ p0, x.block < W.heap.size := by obtain ⟨m, hm⟩ := k0; exact DataW.trod_lt m _ _ _ hm
  obtain ⟨es, hx, hv, hm⟩ : ∃ es : List Rt, len0 = es.length ∧ RsV (fun _ => True) W a0 es ∧ es.length ≤ 140737488351232 := by
    obtain ⟨fuel, hf⟩ := h0
    have hreach : reachBytes = 140737488351232 := rfl
    obtain ⟨A, es, c, hcs, hv, hsize⟩ := open_rats hf
    simp [Value.cells] at hcs
    obtain ⟨rfl, rfl, rfl⟩ := hcs
    refine ⟨es, rfl, hv, ?_⟩
    rcases hsize with rfl | ⟨ds, ss, hd, hl⟩
    · simp
    · have hd : d0 = .slice ds ss := hd
      subst hd
      have z := sized_slice hsz (j := 0) (t := 49) (e := 40) rfl rfl Try.underlying49
      rw [show Try.prog.bytesOf 40 = 56 by kernel_rfl] at z
      omega
  subst hx
  clear hA0 hval0 hsz0 hsz
  refine (law_Order W hv hm).mono fun e W' ⟨he, bel⟩ => ?_
  subst he
  exact ⟨_, rfl, _, _, _, [], _, [], hW', trodAll_mk1 (shut_bool Try.underlying4 _), (trodAll_cons_mk (Below.trod laidOut (by kernel_rfl) (of_decide_eq_true (by kernel_rfl)) k0 bel lt0) trodAll_mk0), rfl, bel.frame _, fun h => by cases h⟩

theorem over : Rows.fitOrderRow.holds Try.pinned (OpenSpec.ofChange Rows.fitOrderSpec) :=
  OpenClaim.holds_of_wide 11 Try.f11 rfl rfl rfl rfl rfl rfl rfl ⟨rfl, rfl, rfl, rfl, rfl⟩ rfl rfl rfl rfl rfl (by kernel_rfl) Try.func11 (by kernel_rfl)
    (of_decide_eq_true (by kernel_rfl)) (by unfold Func.isWrapper; first | (rw [if_pos (by decide +kernel)]; kernel_rfl) | (rw [if_neg (by decide +kernel)]; exact ⟨rfl, rfl⟩))
    (fun os started H enc _ => lifted os started H enc)
theorem proved : Rows.FitOrderSaid := over
#print axioms proved
end Go.Proofs.Ytdbpjnjgjmfomaa.fitOrder
namespace Go.Proofs.Ytdbpjnjgjmfomaa
/-- The row, under a short name, for the claim. -/
theorem fitOrder_holds : Rows.FitOrderSaid := fitOrder.proved
end Go.Proofs.Ytdbpjnjgjmfomaa
