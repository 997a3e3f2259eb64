/- A list of ratios, opened. -/
import Derived.Test.YtdbpjnjgjmfomaaRsV
import Derived.ChangeArms
import Derived.ChangeSame
import Derived.ChangeSlices
import Derived.Deep.Slices
namespace Go.Proofs.Ytdbpjnjgjmfomaa
open Go.RowKit Go.Deep Go.ChangeShapes

section
variable {H : Type} {enc : TypeId × Value → H} {W : World} {held : Bool} {fuel : Nat}
theorem open_nat {c : Value} {x : DataW H × List MemPlace} (h : DataW.trod enc Try.prog W 0 (fun _ => true) held fuel 36 [c] = some x) :
    ∃ U l d, c = .slice U l.length d ∧ NumV (fun _ => True) W (.slice U l.length d) l := by
  rcases open_ints Try.underlying36 Try.underlying100 (by kernel_rfl) h with ⟨hcs, _⟩ | ⟨a, len, cap, zs, hcs, _, hl, hm, hz, _, hcell, hwf⟩
  · refine ⟨none, [], 0, by simpa using hcs, fun y hy => by simp at hy, none, 0, rfl, Nat.le_refl _, Rd.nil _ _ _⟩
  · simp only [if_true] at hz
    have hlen : (zs.take len).length = len := by rw [List.length_take]; omega
    refine ⟨some a, zs.take len, cap, by rw [hlen]; simpa using hcs, fun y hy => ?_, some a, cap, rfl, by omega, fun _ => ⟨a, rfl, trivial, fun j v hj => ?_⟩⟩
    · have h1 := hwf y (List.mem_of_mem_take hy)
      simp [Lit.wf, IntKind.min, IntKind.max, IntKind.bits, IntKind.signed] at h1
      omega
    · have hjl : j < len := by
        have := (List.getElem?_eq_some_iff.1 hj).1
        rw [u32s_length, hlen] at this
        exact this
      rw [u32s_get _ j (by omega)] at hj
      injection hj with hj
      rw [hcell j (by omega), ← hj]
      congr 2
      rw [List.getD_eq_getElem?_getD, List.getD_eq_getElem?_getD, List.getElem?_take, if_pos hjl]
/-- One ratio's three cells. -/
theorem open_rat {c0 c1 c2 : Value} {x : DataW H × List MemPlace} (h : DataW.trod enc Try.prog W 0 (fun _ => true) held fuel 40 [c0, c1, c2] = some x) :
    ∃ e : Rt, ∃ U c B d, c0 = .bool e.1 ∧ c1 = .slice U e.2.1.length c ∧ c2 = .slice B e.2.2.length d ∧ NumV (fun _ => True) W (.slice U e.2.1.length c) e.2.1 ∧ NumV (fun _ => True) W (.slice B e.2.2.length d) e.2.2 := by
  obtain ⟨y0, y1, n1, _, _, t0, t1⟩ := trod_struct2 Try.underlying40 h
  rw [show Try.prog.cellsOf 38 = 2 by kernel_rfl] at t0
  rw [show Try.prog.cellsOf 36 = 1 by kernel_rfl] at t1
  obtain ⟨z0, z1, n2, _, _, s0, s1⟩ := trod_struct2 Try.underlying38 t0
  rw [show Try.prog.cellsOf 4 = 1 by kernel_rfl] at s0
  rw [show Try.prog.cellsOf 36 = 1 by kernel_rfl] at s1
  simp at s0 s1 t1
  obtain ⟨b, hb, _⟩ := DataW.trod_bool Try.underlying4 s0
  obtain ⟨U, l, c, rfl, hU⟩ := open_nat s1
  obtain ⟨B, t, d, rfl, hB⟩ := open_nat t1
  exact ⟨(b, l, t), U, c, B, d, by simpa using hb, rfl, rfl, hU, hB⟩
theorem open_rats {cs : List Value} {x : DataW H × List MemPlace} (h : DataW.trod enc Try.prog W 0 (fun _ => true) held fuel 49 cs = some x) :
    ∃ A es c, cs = [.slice A es.length c] ∧ RsV (fun _ => True) W A es ∧ (es = [] ∨ ∃ ds ss, x.1 = .slice ds ss ∧ ds.length = es.length) := by
  rcases open_slice Try.underlying49 h with ⟨hcs, _⟩ | ⟨a, len, cap, m, n, D, Pl, hcs, _, hl, _, hm, hx, hel⟩
  · exact ⟨none, [], 0, hcs, fun h => absurd rfl h, .inl rfl⟩
  · simp only [if_true] at hm
    subst hm
    rw [show Try.prog.cellsOf 40 = 3 by kernel_rfl] at hel
    have each : ∀ i, i < m → ∃ e : Rt, ∃ U c B d, W.cell? (a.add (i * 3)) = some (.bool e.1) ∧ W.cell? ⟨(a.add (i * 3)).block, (a.add (i * 3)).off + 1, none⟩ = some (.slice U e.2.1.length c) ∧ W.cell? ⟨(a.add (i * 3)).block, (a.add (i * 3)).off + 2, none⟩ = some (.slice B e.2.2.length d) ∧ NumV (fun _ => True) W (.slice U e.2.1.length c) e.2.1 ∧ NumV (fun _ => True) W (.slice B e.2.2.length d) e.2.2 := fun i hi => by
      obtain ⟨cs', hc, ht⟩ := hel i hi
      obtain ⟨_, hlen, hget⟩ := World.cells?_some hc
      match cs', hlen with
      | [c0, c1, c2], _ =>
        obtain ⟨e, U, c, B, d, rfl, rfl, rfl, hU, hB⟩ := open_rat ht
        have g0 := hget 0 (by omega)
        have g1 := hget 1 (by omega)
        have g2 := hget 2 (by omega)
        rw [addr_zero] at g0
        exact ⟨e, U, c, B, d, g0, g1, g2, hU, hB⟩
    obtain ⟨f, hf⟩ := choose_lt each
    have hfg : ∀ i, i < len → ((List.range len).map f).getD i rt0 = f i := fun i hi => by
      rw [List.getD_eq_getElem?_getD, List.getElem?_map, List.getElem?_range hi]; rfl
    refine ⟨some a, (List.range len).map f, m, by simpa using hcs, fun _ => ⟨a, rfl, trivial, fun i hi => ?_⟩, .inr ⟨_, _, by rw [hx], by simp⟩⟩
    simp at hi
    obtain ⟨U, c, B, d, h0, h1, h2, h3, h4⟩ := hf i (by omega)
    rw [hfg i hi]
    exact ⟨U, c, B, d, h0, h1, h2, h3, h4⟩
end
end Go.Proofs.Ytdbpjnjgjmfomaa
