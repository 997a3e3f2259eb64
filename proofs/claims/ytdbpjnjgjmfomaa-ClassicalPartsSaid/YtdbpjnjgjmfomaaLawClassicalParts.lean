/- Whatever rows of scores come in, ClassicalParts answers true, and the rows read afterwards as before: the variance of the totals is the sum of the covariances of all pairs of items, and the reliability coefficient and the error of measurement are built of it as the law says. No condition. -/
import Derived.Test.YtdbpjnjgjmfomaaRows
import Derived.Test.YtdbpjnjgjmfomaaLawPc
import Derived.WalkKit
import Derived.ProofKit
import Derived.OpenShut
import Derived.ChangeOld
import Derived.Below
import Derived.SizedLaws
import Derived.Deep.Matrix
namespace Go.Proofs.Ytdbpjnjgjmfomaa.classicalParts
open Go.ChangeShapes Go.WideShapes Go.ChangeAt Go.RowKit Go.Deep
theorem weights_mem_all {H : Type} {P : Program} {e : TypeId} : ∀ {elems : List (DataW H)} {d : DataW H}, d ∈ elems → ∀ {n : Nat}, n ∈ d.weights P e → n ∈ DataW.weightsAll P e elems
  | d0 :: r, d, hd, n, hn => by
    simp only [DataW.weightsAll, List.mem_append]
    rcases List.mem_cons.1 hd with rfl | hd
    · exact .inl hn
    · exact .inr (weights_mem_all hd hn)
theorem own : ownKnob Try.prog.godebug = none := by kernel_rfl
theorem laidOut : laidOutB Try.prog = true := by kernel_rfl

set_option maxRecDepth 100000 in
theorem lifted (os : Os) (started : os.Started) (H : Type) (enc : TypeId × Value → H) :
    ReturnsInHanded {} Try.checked os 7 .any (Rows.classicalPartsSpec.pre6 enc Try.prog Try.f7 Rows.classicalPartsRow.domain false) (Rows.classicalPartsSpec.post enc Try.prog Try.f7 false true false false) := by
  refine returnsInHanded_of_change_sized (C := Try.checked) own started (by kernel_rfl) Try.func7
    (ChangeSpec.witness6 (enc := enc) (C := Try.checked) false ⟨#[], #[.slice none 0 0], []⟩ 8 (by kernel_rfl) (by kernel_rfl) (by kernel_rfl) (by kernel_rfl)) ?_
  intro W base args ds gs before hval0 hW hcnd hsz0 _
  have hsz : (DataW.weightsEach Try.prog (Try.f7.params.toList ++ Rows.classicalPartsSpec.plain.varTypes Try.prog) (ds ++ gs)).all (· ≤ reachBytes) = true := hsz0
  have hval : ∀ (j : Nat) t v, Try.f7.params[j]? = some t → args[j]? = some v → Value.okWide Try.prog W .any base t v := hval0
  have hW' := hW
  obtain ⟨p, q, hA0, hV, rfl, hfz, hnd⟩ := hW
  have hA : DataW.TrodAll enc Try.prog W 0 (fun _ => true) true Try.f7.params.toList args.toList ds p := hA0
  rw [Try.params7] at hA hval hsz
  obtain ⟨v0, vs0, d0, ds0, p0, q0, hargs, rfl, rfl, h0, r0⟩ := trodAll_cons hA
  obtain ⟨rfl, rfl, rfl⟩ := trodAll_nil r0
  obtain rfl : args = #[v0] := by cases args; simp_all
  obtain ⟨rfl, rfl⟩ := trodVars_none hV
  obtain ⟨a0, len0, cap0, rfl⟩ := okWide_slice Try.underlying30 (hval 0 30 v0 rfl rfl)
  have k0 := h0
  have lt0 : ∀ x ∈ p0, x.block < W.heap.size := by obtain ⟨m, hm⟩ := k0; exact DataW.trod_lt m _ _ _ hm
  obtain ⟨x, hx, hm, hr⟩ : ∃ x : List (List Int), RowsV (fun _ => True) W (.slice a0 len0 cap0) x ∧ x.length ≤ 140737488351232 ∧ ∀ i, (x.getD i []).length ≤ 140737488351232 := by
    obtain ⟨fuel, hf⟩ := h0
    have hreach : reachBytes = 140737488351232 := rfl
    rcases open_int_rows Try.underlying30 Try.underlying28 Try.underlying3 (by kernel_rfl) (by kernel_rfl) hf with ⟨hcs, _⟩ | ⟨a, l, c, A, L, C, Z, hcs, _, hl, hmx, hd, hrow⟩
    · simp [Value.cells] at hcs
      obtain ⟨rfl, rfl, rfl⟩ := hcs
      exact ⟨[], ⟨none, 0, rfl, Nat.le_refl _, fun h => absurd rfl h⟩, by simp, by simp⟩
    · simp [Value.cells] at hcs
      obtain ⟨rfl, rfl, rfl⟩ := hcs
      obtain ⟨hd, _⟩ := Prod.mk.inj hd
      subst hd
      have hw := List.all_eq_true.1 hsz
      have z := sized_slice hsz (j := 0) (t := 30) (e := 28) rfl rfl Try.underlying30
      rw [show Try.prog.bytesOf 28 = 24 by kernel_rfl] at z
      simp at z
      have hL : ∀ r, r < len0 → L r ≤ 140737488351232 := fun r hr => by
        obtain ⟨_, h1, _, h3, _, h5, _⟩ := hrow r (by omega)
        cases hA : A r with
        | none => have := h5 hA; omega
        | some a' =>
          have hmem : ((lits .i64 ((Z r).take (L r)) : List (DataW H)).length + (lits .i64 ((Z r).drop (L r)) : List (DataW H)).length) * Try.prog.bytesOf 3 ≤ reachBytes := by
            have := hw _ (DataW.weights_mem_each (P := Try.prog) (j := 0) (t := 30) rfl rfl _ (by
              simp only [DataW.weights, Try.underlying30]
              exact List.mem_cons_of_mem _ (List.mem_append_left _ (weights_mem_all (d := intRow .i64 (A r) (L r) (Z r)) (List.mem_map.2 ⟨r, List.mem_range.2 hr, rfl⟩) (n := ((lits .i64 ((Z r).take (L r)) : List (DataW H)).length + (lits .i64 ((Z r).drop (L r)) : List (DataW H)).length) * Try.prog.bytesOf 3) (by rw [hA]; show _ ∈ DataW.weights _ _ (DataW.slice _ _); simp [DataW.weights, Try.underlying28])))))
            simpa using this
          rw [show Try.prog.bytesOf 3 = 8 by kernel_rfl] at hmem
          simp [lits] at hmem
          omega
      have hget : ∀ i, i < len0 → (((List.range len0).map fun r => (Z r).take (L r)).getD i []) = (Z i).take (L i) := fun i hi => by
        rw [List.getD_eq_getElem?_getD, List.getElem?_map, List.getElem?_range hi]; rfl
      have htl : ∀ i, i < len0 → ((Z i).take (L i)).length = L i := fun i hi => by
        obtain ⟨_, h1, _, h3, _⟩ := hrow i (by omega)
        rw [List.length_take]; omega
      refine ⟨(List.range len0).map fun r => (Z r).take (L r), ⟨some a, cap0, by simp, by simpa using hl, fun _ => ⟨a, rfl, trivial, fun i hi => ?_⟩⟩, by simp; omega, fun i => ?_⟩
      · simp at hi
        obtain ⟨h0, h1, h2, h3, h4, h5, h6⟩ := hrow i (by omega)
        refine ⟨_, h0, A i, C i, ?_, ?_, ?_⟩
        · rw [hget i hi, htl i hi]
        · rw [hget i hi, htl i hi]; exact h1
        · rw [hget i hi]
          intro hne
          cases hA : A i with
          | none =>
            have := h5 hA
            exact absurd (by rw [show (Z i).take (L i) = [] from List.length_eq_zero_iff.1 (by rw [htl i hi]; omega)]; rfl) hne
          | some a' =>
            refine ⟨a', rfl, trivial, fun j v hj => ?_⟩
            have hjl : j < L i := by
              have := (List.getElem?_eq_some_iff.1 hj).1
              rw [i64s_length, htl i hi] at this
              exact this
            rw [i64s_get _ j (by rw [htl i hi]; exact hjl)] at hj
            injection hj with hj
            rw [(h6 a' hA).2 j (by omega), ← hj]
            congr 2
            rw [List.getD_eq_getElem?_getD, List.getD_eq_getElem?_getD, List.getElem?_take, if_pos hjl]
      · rcases Nat.lt_or_ge i len0 with hi | hi
        · rw [hget i hi, htl i hi]; exact hL i hi
        · rw [List.getD_eq_getElem?_getD, List.getElem?_eq_none (by simpa using hi)]; simp
  clear hA0 hval0 hsz0 hsz
  refine (law_Parts W hx hm hr).mono fun e W' ⟨he, bel⟩ => ?_
  subst he
  exact ⟨_, rfl, _, _, _, [], _, [], hW', trodAll_mk1 (shut_bool Try.underlying4 _), (trodAll_cons_mk (Below.trod laidOut (by kernel_rfl) (of_decide_eq_true (by kernel_rfl)) k0 bel lt0) trodAll_mk0), rfl, bel.frame _, fun h => by cases h⟩

theorem over : Rows.classicalPartsRow.holds Try.pinned (OpenSpec.ofChange Rows.classicalPartsSpec) :=
  OpenClaim.holds_of_wide 7 Try.f7 rfl rfl rfl rfl rfl rfl rfl ⟨rfl, rfl, rfl, rfl, rfl⟩ rfl rfl rfl rfl rfl (by kernel_rfl) Try.func7 (by kernel_rfl)
    (of_decide_eq_true (by kernel_rfl)) (by unfold Func.isWrapper; first | (rw [if_pos (by decide +kernel)]; kernel_rfl) | (rw [if_neg (by decide +kernel)]; exact ⟨rfl, rfl⟩))
    (fun os started H enc _ => lifted os started H enc)
theorem proved : Rows.ClassicalPartsSaid := over
#print axioms proved
end Go.Proofs.Ytdbpjnjgjmfomaa.classicalParts
namespace Go.Proofs.Ytdbpjnjgjmfomaa
/-- The row, under a short name, for the claim. -/
theorem classicalParts_holds : Rows.ClassicalPartsSaid := classicalParts.proved
end Go.Proofs.Ytdbpjnjgjmfomaa
