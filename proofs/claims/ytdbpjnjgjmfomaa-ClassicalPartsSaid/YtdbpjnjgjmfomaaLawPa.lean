/- The law's own helpers over chapter 25: limbs and same say yes at two values of one ratio; much. -/
import Derived.Test.YtdbpjnjgjmfomaaMix
namespace Go.Proofs.Ytdbpjnjgjmfomaa
open Go.RowKit

set_option maxHeartbeats 4000000 in
set_option maxRecDepth 100000 in
theorem law_limbs {S T : Nat → Prop} {u v : Value} {l : List Int} (w : World) (hu : NumV S w u l) (hv : NumV T w v l) (hm : l.length ≤ 35184372088832) :
    Calls Try.prog 60 #[u, v] w fun e w' => e = .returned (.bool true) ∧ Drawn w w' := by
  obtain ⟨A, c, rfl⟩ := hu.slice
  obtain ⟨B, d, rfl⟩ := hv.slice
  obtain ⟨n, hn⟩ : ∃ n, l.length = n := ⟨_, rfl⟩
  rw [hn] at hm ⊢
  have hcell : As (∀ W, Drawn w W → ∀ k, k < n → ∃ ad bd, A = some ad ∧ B = some bd ∧ W.cell? (ad.add k) = some (.int .u32 (l.getD k 0)) ∧ W.cell? (bd.add k) = some (.int .u32 (l.getD k 0))) := ⟨fun W hd k hk => by
    obtain ⟨ad, e1, h1⟩ := (hu.below hd.below).at k (by omega)
    obtain ⟨bd, e2, h2⟩ := (hv.below hd.below).at k (by omega)
    exact ⟨ad, bd, e1, e2, h1, h2⟩⟩
  clear hu hv hn
  go_enter Try.func60, Try.ntmps60
  go_wp2_with fail
  go_loopw [5] (fun v5 wr => ∃ k : Nat, k ≤ n ∧ v5 = .int .i64 k ∧ Drawn w wr) (fun v5 _ => (n - intOf v5).toNat)
  case atStart => exact ⟨0, by omega, rfl, by repeat (first | exact Drawn.refl _ | apply Drawn.step)⟩
  case round =>
    obtain ⟨k, hk, rfl, hd⟩ := hrel
    by_cases hlt : k < n
    · obtain ⟨ad, bd, rfl, rfl, h1, h2⟩ := hcell.out _ hd k hlt
      clear hcell
      generalize l.getD k 0 = X at *
      have p1 := eq_true (show 0 ≤ (k : Int) by omega)
      have p2 := eq_true (show (k : Int) < (n : Int) by omega)
      go_wp2_with fail
      go_quiet (fail)
      go_wp2_with fail
      go_roundw
      case rel => exact ⟨k + 1, by omega, by go_num, by repeat (first | exact hd | apply Drawn.step)⟩
      case measure => simp [intOf]; omega
    · obtain rfl : k = n := by omega
      clear hcell
      go_wp2_with fail
      go_ret
      exact ⟨rfl, by repeat (first | exact hd | apply Drawn.step)⟩

theorem RatV.nums {S : Nat → Prop} {w : World} {v : Value} {q : Rat} (h : RatV S w v q) : ∃ A c B d, v = .agg #[.bool (decide (q.num < 0)), .slice A (sz q.num) c, .slice B (dig q.den).length d] ∧ NumV S w (.slice A (sz q.num) c) (dig q.num.natAbs) ∧ NumV S w (.slice B (dig q.den).length d) (dig q.den) := by
  obtain ⟨u, d, rfl, hu, hd⟩ := h
  obtain ⟨A, c, rfl⟩ := hu.slice
  obtain ⟨B, e, rfl⟩ := hd.slice
  exact ⟨A, c, B, e, rfl, hu, hd⟩

set_option maxHeartbeats 4000000 in
set_option maxRecDepth 100000 in
theorem law_same {S T : Nat → Prop} {u v : Value} {q : Rat} (w : World) (hu : RatV S w u q) (hv : RatV T w v q) (hm : rz q ≤ 35184372088832) :
    Calls Try.prog 27 #[u, v] w fun e w' => e = .returned (.bool true) ∧ Below w.heap.size w w' := by
  obtain ⟨A, c, B, d, rfl, hA, hB⟩ := hu.nums
  obtain ⟨A2, c2, B2, d2, rfl, hA2, hB2⟩ := hv.nums
  have hz := rz_parts q
  have H1 : As (∀ W, Below w.heap.size w W → Calls Try.prog 60 #[.slice A (sz q.num) c, .slice A2 (sz q.num) c2] W fun e w' => e = .returned (.bool true) ∧ Drawn W w') := ⟨fun W hb => law_limbs W (hA.below hb) (hA2.below hb) (by show sz q.num ≤ _; omega)⟩
  have H2 : As (∀ W, Below w.heap.size w W → Calls Try.prog 60 #[.slice B (dig q.den).length d, .slice B2 (dig q.den).length d2] W fun e w' => e = .returned (.bool true) ∧ Drawn W w') := ⟨fun W hb => law_limbs W (hB.below hb) (hB2.below hb) (by omega)⟩
  clear hu hv hA hA2 hB hB2 hm hz
  generalize decide (q.num < 0) = N at *
  generalize sz q.num = z1 at *
  generalize (dig q.den).length = z2 at *
  go_enter Try.func27, Try.ntmps27
  go_wp2_with fail
  have hb2 := ((Below.refl w.heap.size w).alloc (Nat.le_refl _) (Obj.cells #[.bool N, .slice A z1 c, .slice B z2 d] 40)).alloc (by simp) (Obj.cells #[.bool N, .slice A2 z1 c2, .slice B2 z2 d2] 40)
  refine (H1.out _ hb2).mono ?_
  rintro e w3 ⟨rfl, ⟨m1, rfl⟩⟩
  go_wp2_with fail
  refine (H2.out _ (hb2.drewsN _)).mono ?_
  rintro e w4 ⟨rfl, ⟨m2, rfl⟩⟩
  have hb4 := As.mk ((hb2.drewsN m1).drewsN m2)
  clear hb2
  go_wp2_with fail
  go_ret
  exact ⟨rfl, by have := hb4.out; simpa using this⟩

end Go.Proofs.Ytdbpjnjgjmfomaa
