/- Whatever options, totals and numbers come in, ClassicalCounted answers true, and the lists read afterwards as before: every person with a countable option is counted once, and the sizes of two groups differ by at most 1 (up to 40 persons). No condition. -/
import Derived.Test.YtdbpjnjgjmfomaaJClassicalCounted5
import Derived.Test.YtdbpjnjgjmfomaaRows
import Derived.WalkKit
import Derived.ProofKit
import Derived.OpenShut
import Derived.ChangeOld
import Derived.Below
import Derived.SizedLaws
import Derived.Deep.Grids
namespace Go.Proofs.Ytdbpjnjgjmfomaa.classicalCounted
open Go.ChangeShapes Go.WideShapes Go.ChangeAt Go.RowKit Go.Deep
theorem own : ownKnob Try.prog.godebug = none := by kernel_rfl
theorem laidOut : laidOutB Try.prog = true := by kernel_rfl

set_option maxRecDepth 100000 in
theorem lifted (os : Os) (started : os.Started) (H : Type) (enc : TypeId × Value → H) :
    ReturnsInHanded {} Try.checked os 6 .any (Rows.classicalCountedSpec.pre6 enc Try.prog Try.f6 Rows.classicalCountedRow.domain false) (Rows.classicalCountedSpec.post enc Try.prog Try.f6 false true false false) := by
  refine returnsInHanded_of_change_sized (C := Try.checked) own started (by kernel_rfl) Try.func6
    (ChangeSpec.witness6 (enc := enc) (C := Try.checked) false ⟨#[], #[.slice none 0 0, .slice none 0 0, .int .i64 0, .int .i64 0], []⟩ 8 (by kernel_rfl) (by kernel_rfl) (by kernel_rfl) (by kernel_rfl)) ?_
  intro W base args ds gs before hval0 hW hcnd hsz0 _
  have hsz : (DataW.weightsEach Try.prog (Try.f6.params.toList ++ Rows.classicalCountedSpec.plain.varTypes Try.prog) (ds ++ gs)).all (· ≤ reachBytes) = true := hsz0
  have hval : ∀ (j : Nat) t v, Try.f6.params[j]? = some t → args[j]? = some v → Value.okWide Try.prog W .any base t v := hval0
  have hW' := hW
  obtain ⟨p, q, hA0, hV, rfl, hfz, hnd⟩ := hW
  have hA : DataW.TrodAll enc Try.prog W 0 (fun _ => true) true Try.f6.params.toList args.toList ds p := hA0
  rw [Try.params6] at hA hval hsz
  obtain ⟨v0, vs0, d0, ds0, p0, q0, hargs, rfl, rfl, h0, r0⟩ := trodAll_cons hA
  obtain ⟨v1, vs1, d1, ds1, p1, q1, rfl, rfl, rfl, h1, r1⟩ := trodAll_cons r0
  obtain ⟨v2, vs2, d2, ds2, p2, q2, rfl, rfl, rfl, h2, r2⟩ := trodAll_cons r1
  obtain ⟨v3, vs3, d3, ds3, p3, q3, rfl, rfl, rfl, h3, r3⟩ := trodAll_cons r2
  obtain ⟨rfl, rfl, rfl⟩ := trodAll_nil r3
  obtain rfl : args = #[v0, v1, v2, v3] := by cases args; simp_all
  obtain ⟨rfl, rfl⟩ := trodVars_none hV
  obtain ⟨a0, len0, cap0, rfl⟩ := okWide_slice Try.underlying28 (hval 0 28 v0 rfl rfl)
  have k0 := h0
  have lt0 : ∀ x ∈ p0, x.block < W.heap.size := by obtain ⟨m, hm⟩ := k0; exact DataW.trod_lt m _ _ _ hm
  obtain ⟨z0, hx0, hv0, hm0⟩ : ∃ z0 : List Int, len0 = z0.length ∧ IntsV (fun _ => True) W (.slice a0 len0 cap0) z0 ∧ z0.length ≤ 140737488351232 := by
    obtain ⟨fuel, hf⟩ := h0
    have hreach : reachBytes = 140737488351232 := rfl
    obtain ⟨A, es, c, hcs, hv, hsize⟩ := open_intsV hf
    simp [Value.cells] at hcs
    obtain ⟨rfl, rfl, rfl⟩ := hcs
    refine ⟨es, rfl, hv, ?_⟩
    rcases hsize with rfl | ⟨ds, ss, hd, hl⟩
    · simp
    · have hd : d0 = .slice ds ss := hd
      subst hd
      have z := sized_slice hsz (j := 0) (t := 28) (e := 3) rfl rfl Try.underlying28
      rw [show Try.prog.bytesOf 3 = 8 by kernel_rfl] at z
      omega
  subst hx0
  obtain ⟨a1, len1, cap1, rfl⟩ := okWide_slice Try.underlying28 (hval 1 28 v1 rfl rfl)
  have k1 := h1
  have lt1 : ∀ x ∈ p1, x.block < W.heap.size := by obtain ⟨m, hm⟩ := k1; exact DataW.trod_lt m _ _ _ hm
  obtain ⟨z1, hx1, hv1, hm1⟩ : ∃ z1 : List Int, len1 = z1.length ∧ IntsV (fun _ => True) W (.slice a1 len1 cap1) z1 ∧ z1.length ≤ 140737488351232 := by
    obtain ⟨fuel, hf⟩ := h1
    have hreach : reachBytes = 140737488351232 := rfl
    obtain ⟨A, es, c, hcs, hv, hsize⟩ := open_intsV hf
    simp [Value.cells] at hcs
    obtain ⟨rfl, rfl, rfl⟩ := hcs
    refine ⟨es, rfl, hv, ?_⟩
    rcases hsize with rfl | ⟨ds, ss, hd, hl⟩
    · simp
    · have hd : d1 = .slice ds ss := hd
      subst hd
      have z := sized_slice hsz (j := 1) (t := 28) (e := 3) rfl rfl Try.underlying28
      rw [show Try.prog.bytesOf 3 = 8 by kernel_rfl] at z
      omega
  subst hx1
  obtain ⟨a2, rfl, rfl, rfl, w2⟩ := open_int Try.underlying3 (hval 2 3 v2 rfl rfl) h2
  obtain ⟨a3, rfl, rfl, rfl, w3⟩ := open_int Try.underlying3 (hval 3 3 v3 rfl rfl) h3
  clear hA0 hval0 hsz0 hsz
  refine (law_Counted W a2 a3 hv0 hv1 hm0 hm1).mono fun e W' ⟨he, bel⟩ => ?_
  subst he
  exact ⟨_, rfl, _, _, _, [], _, [], hW', trodAll_mk1 (shut_bool Try.underlying4 _), (trodAll_cons_mk (Below.trod laidOut (by kernel_rfl) (of_decide_eq_true (by kernel_rfl)) k0 bel lt0) (trodAll_cons_mk (Below.trod laidOut (by kernel_rfl) (of_decide_eq_true (by kernel_rfl)) k1 bel lt1) (trodAll_cons_mk (shut_int Try.underlying3 w2) (trodAll_cons_mk (shut_int Try.underlying3 w3) trodAll_mk0)))), rfl, bel.frame _, fun h => by cases h⟩

theorem over : Rows.classicalCountedRow.holds Try.pinned (OpenSpec.ofChange Rows.classicalCountedSpec) :=
  OpenClaim.holds_of_wide 6 Try.f6 rfl rfl rfl rfl rfl rfl rfl ⟨rfl, rfl, rfl, rfl, rfl⟩ rfl rfl rfl rfl rfl (by kernel_rfl) Try.func6 (by kernel_rfl)
    (of_decide_eq_true (by kernel_rfl)) (by unfold Func.isWrapper; first | (rw [if_pos (by decide +kernel)]; kernel_rfl) | (rw [if_neg (by decide +kernel)]; exact ⟨rfl, rfl⟩))
    (fun os started H enc _ => lifted os started H enc)
theorem proved : Rows.ClassicalCountedSaid := over
#print axioms proved
end Go.Proofs.Ytdbpjnjgjmfomaa.classicalCounted
namespace Go.Proofs.Ytdbpjnjgjmfomaa
/-- The row, under a short name, for the claim. -/
theorem classicalCounted_holds : Rows.ClassicalCountedSaid := classicalCounted.proved
end Go.Proofs.Ytdbpjnjgjmfomaa
