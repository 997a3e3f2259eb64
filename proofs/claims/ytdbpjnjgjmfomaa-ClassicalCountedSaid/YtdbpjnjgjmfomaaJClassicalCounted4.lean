/- Joined texts: LessG, RefRank, GroupsPure, GroupsPure2, Groups1, Idl, Sym2, SymSplit, Sym3, Sym4, InsG, StG, TabI, TabG, Groups2, CountPure, LawGa. -/
import Derived.Test.YtdbpjnjgjmfomaaJClassicalCounted3
/- classical.Groups' closure: it compares two totals by their indexes. -/
namespace Go.Proofs.Ytdbpjnjgjmfomaa
open Go.RowKit

set_option maxHeartbeats 4000000 in
set_option maxRecDepth 100000 in
theorem cmp_isNaN (w : World) (x : Int) : Calls Try.prog 81 #[.int .i64 x] w fun e w' => e = .returned (.bool false) ∧ Drawn w w' := by
  go_enter Try.func81, Try.ntmps81
  go_wp2_with fail
  try (go_quiet (fail))
  try (go_wp2_with fail)
  go_ret
  exact ⟨by simp, by repeat (first | exact Drawn.refl _ | apply Drawn.step)⟩

set_option maxHeartbeats 4000000 in
set_option maxRecDepth 100000 in
theorem cmp_Compare (w : World) (x y : Int) : Calls Try.prog 45 #[.int .i64 x, .int .i64 y] w fun e w' => e = .returned (.int .i64 (cmpZ x y)) ∧ Drawn w w' := by
  have H := As.mk (fun W z => cmp_isNaN W z)
  rcases Int.lt_trichotomy x y with h | h | h
  · have hz : As (cmpZ x y = -1) := ⟨by unfold cmpZ; rw [if_pos h]⟩
    have b1 : (x < y) = True := eq_true h
    go_enter Try.func45, Try.ntmps45
    go_wp2_with fail
    refine (H.out _ _).mono ?_
    rintro e w1 ⟨rfl, h1⟩
    go_wp2_with fail
    refine (H.out _ _).mono ?_
    rintro e w2 ⟨rfl, h2⟩
    go_wp2_with fail
    go_ret
    exact ⟨ret_int hz.out.symm, by obtain ⟨m1, rfl⟩ := h1; obtain ⟨m2, rfl⟩ := h2; exact ⟨⟨m1 + m2, World.drewN_drewN ..⟩⟩⟩
  · subst h
    have hz : As (cmpZ x x = 0) := ⟨by unfold cmpZ; rw [if_neg (by omega), if_pos rfl]⟩
    go_enter Try.func45, Try.ntmps45
    go_wp2_with fail
    refine (H.out _ _).mono ?_
    rintro e w1 ⟨rfl, h1⟩
    go_wp2_with fail
    refine (H.out _ _).mono ?_
    rintro e w2 ⟨rfl, h2⟩
    go_wp2_with fail
    go_ret
    exact ⟨ret_int hz.out.symm, by obtain ⟨m1, rfl⟩ := h1; obtain ⟨m2, rfl⟩ := h2; exact ⟨⟨m1 + m2, World.drewN_drewN ..⟩⟩⟩
  · have hz : As (cmpZ x y = 1) := ⟨by unfold cmpZ; rw [if_neg (by omega), if_neg (by omega)]⟩
    have b1 : (x < y) = False := eq_false (by omega)
    have b2 : (y < x) = True := eq_true h
    go_enter Try.func45, Try.ntmps45
    go_wp2_with fail
    refine (H.out _ _).mono ?_
    rintro e w1 ⟨rfl, h1⟩
    go_wp2_with fail
    refine (H.out _ _).mono ?_
    rintro e w2 ⟨rfl, h2⟩
    go_wp2_with fail
    go_ret
    exact ⟨ret_int hz.out.symm, by obtain ⟨m1, rfl⟩ := h1; obtain ⟨m2, rfl⟩ := h2; exact ⟨⟨m1 + m2, World.drewN_drewN ..⟩⟩⟩

theorem cmpZ_lt0 {x y : Int} : cmpZ x y < 0 ↔ x < y := by unfold cmpZ; split <;> (try split) <;> omega
/-- The total at an index. -/
def tv (l : List Int) (x : Int) : Int := l.getD x.toNat 0
theorem tv_sw (l : List Int) : SW (fun x y => tv l x < tv l y) := ⟨fun x => by omega, fun x y z h1 h2 => by omega, fun x y z h1 h2 => by omega⟩

set_option maxHeartbeats 8000000 in
set_option maxRecDepth 100000 in
theorem less_G {w0 : World} {G pb c : Nat} {T : Option Addr} {l : List Int} (hpb : pb < G) (hp0 : w0.cell? ⟨pb, 0, none⟩ = some (.slice T l.length c)) (hv : IntsV (fun k => k < G) w0 (.slice T l.length c) l) :
    LessC (fun x y => tv l x < tv l y) w0 G pb l.length := fun W hW x y hx0 hx1 hy0 hy1 => by
  have hp : W.cell? ⟨pb, 0, none⟩ = some (.slice T l.length c) := (World.cell?_of_block (hW.block _ hpb)).trans hp0
  obtain ⟨ad, hT, hc⟩ := (hv.step (w1 := W) (fun k hk _ => hW.block k hk)).cells (by omega)
  subst hT
  obtain ⟨i, hi⟩ : ∃ i : Nat, x = (i : Int) := ⟨x.toNat, by omega⟩
  obtain ⟨j, hj⟩ : ∃ j : Nat, y = (j : Int) := ⟨y.toNat, by omega⟩
  subst hi hj
  have hxc := hc i (by omega)
  have hyc := hc j (by omega)
  have e1 : tv l (i : Int) = l.getD i 0 := by simp [tv]
  have e2 : tv l (j : Int) = l.getD j 0 := by simp [tv]
  dsimp only
  rw [e1, e2]
  clear hc hv hW hp0 e1 e2
  generalize l.getD i 0 = X at *
  generalize l.getD j 0 = Y at *
  generalize l.length = n at *
  have hlt := cmpZ_lt0 (x := X) (y := Y)
  obtain ⟨s, hs⟩ : ∃ s, cmpZ X Y = s := ⟨_, rfl⟩
  rw [hs] at hlt
  have HC : As (∀ W, Calls Try.prog 45 #[.int .i64 X, .int .i64 Y] W fun e w' => e = .returned (.int .i64 s) ∧ ∃ n, w' = W.drewN n) := ⟨fun W => by rw [← hs]; exact (cmp_Compare W X Y).mono fun _ _ ⟨h1, h2⟩ => ⟨h1, h2.out⟩⟩
  replace hlt := As.mk hlt
  have hin : i < n := by omega
  have hjn : j < n := by omega
  have p1 := eq_true (show (i : Int) < (n : Int) by omega)
  have p2 := eq_true (show (j : Int) < (n : Int) by omega)
  have p3 := eq_true (show 0 ≤ (i : Int) by omega)
  have p4 := eq_true (show 0 ≤ (j : Int) by omega)
  clear hs hx0 hx1 hy0 hy1
  go_enter Try.func44, Try.ntmps44
  go_wp2_with fail
  go_quiet ((go_at_call 45; refine Calls.quiet_of (HC.out _)))
  go_wp2_with fail
  go_ret
  exact ⟨s, rfl, hlt.out, (Below.refl _ _).drewsN _⟩
end Go.Proofs.Ytdbpjnjgjmfomaa

/- The reference's rank of a person: how many come before. -/
namespace Go.Proofs.Ytdbpjnjgjmfomaa
open Go.RowKit

/-- How many of the first k come before i. -/
def rk (l : List Int) (i : Nat) : Nat → Nat
  | 0 => 0
  | k + 1 => rk l i k + if l.getD k 0 < l.getD i 0 ∨ (l.getD k 0 = l.getD i 0 ∧ k < i) then 1 else 0
theorem rk_le (l : List Int) (i k : Nat) : rk l i k ≤ k := by
  induction k with
  | zero => exact Nat.le_refl _
  | succ k ih => rw [rk]; split <;> omega

set_option maxHeartbeats 8000000 in
set_option maxRecDepth 100000 in
theorem ref_rank {S : Nat → Prop} {v : Value} {l : List Int} (w : World) (hv : IntsV S w v l) (i : Nat) (hi : i < l.length) (hm : l.length ≤ 1000000) :
    Calls Try.prog 47 #[v, .int .i64 i] w fun e w' => e = .returned (.int .i64 (rk l i l.length)) ∧ Drawn w w' := by
  obtain ⟨A, c, rfl⟩ := hv.slice
  obtain ⟨n, hn⟩ : ∃ n, l.length = n := ⟨_, rfl⟩
  have HR : As (∀ W, Drawn w W → ∃ ad, A = some ad ∧ ∀ k, k < n → W.cell? (ad.add k) = some (.int .i64 (l.getD k 0))) := ⟨fun W hd => by
    obtain ⟨ad, e, h⟩ := (hv.below hd.below).cells (by omega)
    exact ⟨ad, e, fun k hk => h k (by omega)⟩⟩
  rw [hn] at hi hm ⊢
  clear hv hn
  go_enter Try.func47, Try.ntmps47
  go_wp2_with fail
  go_loopw [5, 6] (fun v5 v6 wr => ∃ k : Nat, k ≤ n ∧ v6 = .int .i64 k ∧ v5 = .int .i64 (rk l i k) ∧ Drawn w wr) (fun _ v6 _ => (n - intOf v6).toNat)
  case atStart => exact ⟨0, by omega, rfl, rfl, by repeat (first | exact Drawn.refl _ | apply Drawn.step)⟩
  case round =>
    obtain ⟨k, hk, rfl, rfl, hd⟩ := hrel
    have hle := rk_le l i k
    by_cases hlt : k < n
    · obtain ⟨ad, hA, hc⟩ := HR.out _ hd
      subst hA
      have hck := hc k hlt
      have hci := hc i hi
      have hstep : rk l i (k + 1) = rk l i k + if l.getD k 0 < l.getD i 0 ∨ (l.getD k 0 = l.getD i 0 ∧ k < i) then 1 else 0 := rfl
      generalize rk l i k = R at *
      generalize l.getD k 0 = X at *
      generalize l.getD i 0 = Y at *
      have b1 : ((k : Int) < (n : Int)) = True := eq_true (by omega)
      have b2 : ((i : Int) < (n : Int)) = True := eq_true (by omega)
      have b3 : (0 ≤ (k : Int)) = True := eq_true (by omega)
      have b4 : (0 ≤ (i : Int)) = True := eq_true (by omega)
      clear hc
      by_cases hxy : X < Y
      · have hs : As (rk l i (k + 1) = R + 1) := ⟨by rw [hstep, if_pos (.inl hxy)]⟩
        have c1 : (X < Y) = True := eq_true hxy
        clear hstep
        go_wp2_with fail
        go_quiet (fail)
        go_wp2_with fail
        go_roundw
        case rel => exact ⟨k + 1, by omega, by go_num, by rw [hs.out]; go_num, by repeat (first | exact hd | apply Drawn.step)⟩
        case measure => simp [intOf]; omega
      · have c1 : (X < Y) = False := eq_false hxy
        by_cases he : X = Y
        · subst he
          by_cases hki : k < i
          · have hs : As (rk l i (k + 1) = R + 1) := ⟨by rw [hstep, if_pos (.inr ⟨rfl, hki⟩)]⟩
            have c2 : ((k : Int) < (i : Int)) = True := eq_true (by omega)
            have c2n : (k < i) = True := eq_true hki
            clear hstep hxy
            go_wp2_with fail
            go_quiet (fail)
            go_wp2_with fail
            go_roundw
            case rel => exact ⟨k + 1, by omega, by go_num, by rw [hs.out]; go_num, by repeat (first | exact hd | apply Drawn.step)⟩
            case measure => simp [intOf]; omega
          · have hs : As (rk l i (k + 1) = R) := ⟨by rw [hstep, if_neg (by omega)]; rfl⟩
            have c2 : ((k : Int) < (i : Int)) = False := eq_false (by omega)
            have c2n : (k < i) = False := eq_false hki
            clear hstep hxy
            go_wp2_with fail
            go_quiet (fail)
            go_wp2_with fail
            go_roundw
            case rel => exact ⟨k + 1, by omega, by go_num, by rw [hs.out], by repeat (first | exact hd | apply Drawn.step)⟩
            case measure => simp [intOf]; omega
        · have hs : As (rk l i (k + 1) = R) := ⟨by rw [hstep, if_neg (by omega)]; rfl⟩
          have c3 : (X = Y) = False := eq_false he
          have c3b : (X == Y) = false := beq_eq_false_iff_ne.2 he
          clear hstep hxy
          go_wp2_with fail
          go_quiet (fail)
          go_wp2_with fail
          go_roundw
          case rel => exact ⟨k + 1, by omega, by go_num, by rw [hs.out], by repeat (first | exact hd | apply Drawn.step)⟩
          case measure => simp [intOf]; omega
    · obtain rfl : k = n := by omega
      clear HR
      go_wp2_with fail
      go_ret
      exact ⟨rfl, by repeat (first | exact hd | apply Drawn.step)⟩
end Go.Proofs.Ytdbpjnjgjmfomaa

/- The rank of a person is its place in the stable order. -/
namespace Go.Proofs.Ytdbpjnjgjmfomaa
open Go.RowKit

/-- j comes before i. -/
def bef (l : List Int) (i j : Nat) : Bool := decide (l.getD j 0 < l.getD i 0 ∨ (l.getD j 0 = l.getD i 0 ∧ j < i))
theorem rk_count (l : List Int) (i k : Nat) : rk l i k = (List.range k).countP (bef l i) := by
  induction k with
  | zero => rfl
  | succ k ih =>
    rw [rk, ih, List.range_succ, List.countP_append, List.countP_singleton]
    unfold bef
    simp only [decide_eq_true_eq]
/-- The order of the closure, said of indexes. -/
theorem bef_ro (l : List Int) (i j : Nat) : bef l i j = true ↔ Ro (fun x y => tv l x < tv l y) (j : Int) (i : Int) := by
  unfold bef Ro
  rw [decide_eq_true_eq]
  have e1 : tv l (i : Int) = l.getD i 0 := by simp [tv]
  have e2 : tv l (j : Int) = l.getD j 0 := by simp [tv]
  dsimp only
  rw [e1, e2]
  constructor
  · rintro (h | ⟨h1, h2⟩)
    · exact .inl h
    · exact .inr ⟨by omega, by omega⟩
  · rintro (h | ⟨h1, h2⟩)
    · exact .inl h
    · by_cases h3 : l.getD j 0 < l.getD i 0
      · exact .inl h3
      · exact .inr ⟨by omega, by omega⟩
/-- In an ordered list as many stand before a place as come before what stands there. -/
theorem count_at {p : Int → Bool} {R : Int → Int → Prop} {C : List Int} (hC : C.Pairwise R) (k : Nat) (hk : k < C.length) (h1 : ∀ z ∈ C, R z (C.getD k 0) → p z = true) (h2 : p (C.getD k 0) = false) (h3 : ∀ z ∈ C, R (C.getD k 0) z → p z = false) : C.countP p = k := by
  have e : C.getD k 0 = C[k] := by rw [List.getD_eq_getElem?_getD, List.getElem?_eq_getElem hk]; rfl
  rw [e] at h1 h2 h3
  have hs : C = C.take k ++ C[k] :: C.drop (k + 1) := by rw [List.getElem_cons_drop, List.take_append_drop]
  have hC' := hC
  rw [hs] at hC'
  obtain ⟨_, q2, q3⟩ := List.pairwise_append.1 hC'
  have a1 : (C.take k).countP p = k := by
    rw [List.countP_eq_length.2 (fun z hz => h1 z (List.mem_of_mem_take hz) (q3 z hz _ List.mem_cons_self)), List.length_take]
    omega
  have a2 : (C.drop (k + 1)).countP p = 0 := List.countP_eq_zero.2 (fun z hz => by
    rw [h3 z (List.mem_of_mem_drop hz) ((List.pairwise_cons.1 q2).1 z hz)]; simp)
  rw [hs, List.countP_append, List.countP_cons, a1, a2, h2]
  simp
/-- The rank of the person at place k of the order is k. -/
theorem rank_at {l : List Int} {n : Nat} {C : List Int} (_hl : l.length = n) (hC : Mrg (fun x y => tv l x < tv l y) ((List.range n).map (fun t : Nat => (t : Int))) C) (k : Nat) (hk : k < n) : ∃ i : Nat, i < n ∧ C.getD k 0 = (i : Int) ∧ rk l i n = k := by
  have hw := tv_sw l
  have hlen : C.length = n := by rw [hC.perm.length_eq]; simp
  have hm : C.getD k 0 ∈ C := getD_mem (by omega)
  obtain ⟨i, hi, e⟩ := List.mem_map.1 (hC.perm.mem_iff.1 hm)
  rw [List.mem_range] at hi
  refine ⟨i, hi, e.symm, ?_⟩
  rw [rk_count]
  have h1 : (List.range n).countP (bef l i) = ((List.range n).map (fun t : Nat => (t : Int))).countP (fun z => bef l i z.toNat) := by
    rw [List.countP_map]; rfl
  rw [h1, ← hC.perm.countP_eq]
  have hz : ∀ z ∈ C, ∃ j : Nat, z = (j : Int) := fun z hz => by
    obtain ⟨j, _, rfl⟩ := List.mem_map.1 (hC.perm.mem_iff.1 hz)
    exact ⟨j, rfl⟩
  refine count_at hC.srt k (by omega) (fun z hz' hR => ?_) ?_ (fun z hz' hR => ?_)
  · obtain ⟨j, rfl⟩ := hz z hz'
    rw [← e] at hR
    exact (bef_ro l i j).2 hR
  · rw [← e]
    cases hb : bef l i i with
    | false => simpa using hb
    | true => exact absurd ((bef_ro l i i).1 hb) (Ro.irr hw)
  · obtain ⟨j, rfl⟩ := hz z hz'
    rw [← e] at hR
    cases hb : bef l i j with
    | false => simpa using hb
    | true => exact (Ro.asymm hw ((bef_ro l i j).1 hb) hR).elim
end Go.Proofs.Ytdbpjnjgjmfomaa

/- The counts of the options by groups: along the order, and person by person. -/
namespace Go.Proofs.Ytdbpjnjgjmfomaa
open Go.RowKit

/-- One more at row g, place x. -/
def bump (T : Nat → List Int) (g x : Nat) : Nat → List Int := fun r => if r = g then (T g).set x ((T g).getD x 0 + 1) else T r
/-- The table behind the first k steps. -/
def runT (m : Nat) (st : Nat → Option (Nat × Nat)) : Nat → Nat → List Int
  | 0 => fun _ => List.replicate m 0
  | k + 1 => match st k with
    | some (g, x) => bump (runT m st k) g x
    | none => runT m st k
theorem runT_len (m : Nat) (st : Nat → Option (Nat × Nat)) (k r : Nat) : (runT m st k r).length = m := by
  induction k generalizing r with
  | zero => simp [runT]
  | succ k ih =>
    cases h : st k with
    | none =>
      have e : runT m st (k + 1) r = runT m st k r := by simp only [runT, h]
      rw [e]; exact ih r
    | some gx =>
      have e : runT m st (k + 1) r = bump (runT m st k) gx.1 gx.2 r := by simp only [runT, h]
      rw [e]
      unfold bump
      split
      · rw [List.length_set]; exact ih gx.1
      · exact ih r
theorem runT_get {m : Nat} {st : Nat → Option (Nat × Nat)} (hst : ∀ j g y, st j = some (g, y) → y < m) (k r x : Nat) (hx : x < m) : (runT m st k r).getD x 0 = ((List.range k).countP (fun j => st j == some (r, x)) : Nat) := by
  induction k with
  | zero => simp [runT, List.getD_eq_getElem?_getD, hx]
  | succ k ih =>
    rw [List.range_succ, List.countP_append, List.countP_singleton, runT]
    cases h : st k with
    | none => simpa using ih
    | some gy =>
      obtain ⟨g, y⟩ := gy
      have hy := hst k g y h
      have hl := runT_len m st k g
      show (bump (runT m st k) g y r).getD x 0 = _
      unfold bump
      by_cases hg : r = g
      · subst hg
        rw [if_pos rfl, List.getD_eq_getElem?_getD, List.getElem?_set]
        by_cases hxy : y = x
        · subst hxy
          rw [if_pos rfl, if_pos (by omega)]
          simp
          rw [← List.getD_eq_getElem?_getD, ih]
        · rw [if_neg hxy, ← List.getD_eq_getElem?_getD, ih]
          simp [hxy]
      · rw [if_neg hg, ih]
        have : ¬ (some (g, y) == some (r, x)) = true := by simp; intro e; exact absurd e.symm hg
        simp [this]
/-- The steps along the order and person by person lead to the same table. -/
theorem runT_perm {m n : Nat} {C : List Int} {sp sr : Nat → Option (Nat × Nat)} (hp : C.Perm ((List.range n).map (fun t : Nat => (t : Int)))) (hs : ∀ k, k < n → sp k = sr (C.getD k 0).toNat) (h1 : ∀ j g y, sp j = some (g, y) → y < m) (h2 : ∀ j g y, sr j = some (g, y) → y < m) (r : Nat) : runT m sp n r = runT m sr n r := by
  have hlen : C.length = n := by rw [hp.length_eq]; simp
  refine ext_getD (by rw [runT_len, runT_len]) (fun x hx => ?_)
  rw [runT_len] at hx
  rw [runT_get h1 n r x hx, runT_get h2 n r x hx]
  congr 1
  have hC : C = (List.range n).map (fun k => C.getD k 0) := by
    refine ext_getD (by simp [hlen]) (fun t ht => ?_)
    simp at ht
    rw [List.getD_eq_getElem?_getD (l := List.map _ _), List.getElem?_map, List.getElem?_range ht]; rfl
  have e1 : (List.range n).countP (fun j => sp j == some (r, x)) = C.countP (fun z => sr z.toNat == some (r, x)) := by
    rw [hC, List.countP_map]
    refine List.countP_congr (fun k hk => ?_)
    rw [List.mem_range] at hk
    simp only [Function.comp]
    rw [hs k hk]
  rw [e1, hp.countP_eq, List.countP_map]
  rfl
end Go.Proofs.Ytdbpjnjgjmfomaa

/- classical.Groups where it refuses. -/
namespace Go.Proofs.Ytdbpjnjgjmfomaa
open Go.RowKit

/-- The first error of the arguments of Groups. -/
def grpE (os ts : List Int) (n m : Int) : Int :=
  if n < 1 ∨ 5 < n ∨ m < 1 ∨ 10 < m then 3 else if 200 < os.length ∨ 200 < ts.length then 5 else if okScores ts = false then 3 else if os.length ≠ ts.length then 1 else if os.length = 0 then 20 else 0

set_option maxHeartbeats 8000000 in
set_option maxRecDepth 100000 in
theorem cls_Groups_no {S T : Nat → Prop} {u v : Value} {os ts : List Int} (w : World) (n m : Int) (hu : IntsV S w u os) (hv : IntsV T w v ts) (ho : os.length ≤ 140737488351232) (ht : ts.length ≤ 140737488351232) (hE : grpE os ts n m ≠ 0) :
    Calls Try.prog 17 #[u, v, .int .i64 n, .int .i64 m] w fun e w' => e = .returned (.tuple #[.slice none 0 0, .int .i64 (grpE os ts n m)]) ∧ Below w.heap.size w w' := by
  obtain ⟨A, c, rfl⟩ := hu.slice
  obtain ⟨B, d, rfl⟩ := hv.slice
  have hEe : grpE os ts n m = if n < 1 ∨ 5 < n ∨ m < 1 ∨ 10 < m then 3 else if 200 < os.length ∨ 200 < ts.length then 5 else if okScores ts = false then 3 else if os.length ≠ ts.length then 1 else if os.length = 0 then 20 else 0 := rfl
  have HS : As (∀ W, Below w.heap.size w W → Calls Try.prog 42 #[.slice B ts.length d] W fun e w' => e = .returned (.bool (okScores ts)) ∧ Drawn W w') := ⟨fun W hb => cls_scores W (hv.below hb) ht⟩
  generalize grpE os ts n m = E at *
  generalize okScores ts = O at *
  generalize os.length = L1 at *
  generalize ts.length = L2 at *
  clear hu hv
  have hb1 := (Below.refl w.heap.size w).alloc (Nat.le_refl _) (Obj.cells #[.slice B L2 d] 28)
  by_cases h1 : n < 1 ∨ 5 < n ∨ m < 1 ∨ 10 < m
  · have R := As.mk (show E = 3 by rw [hEe, if_pos h1])
    clear hEe hE HS
    go_enter Try.func17, Try.ntmps17
    by_cases a1 : n < 1
    · go_wp2_with fail
      go_ret2
      exact ⟨by rw [R.out]; rfl, hb1⟩
    · by_cases a2 : 5 < n
      · go_wp2_with fail
        go_ret2
        exact ⟨by rw [R.out]; rfl, hb1⟩
      · by_cases a3 : m < 1
        · go_wp2_with fail
          go_ret2
          exact ⟨by rw [R.out]; rfl, hb1⟩
        · have a4 : 10 < m := by omega
          go_wp2_with fail
          go_ret2
          exact ⟨by rw [R.out]; rfl, hb1⟩
  · rw [if_neg h1] at hEe
    have a1 : ¬ n < 1 := by omega
    have a2 : ¬ 5 < n := by omega
    have a3 : ¬ m < 1 := by omega
    have a4 : ¬ 10 < m := by omega
    clear h1
    by_cases h2 : 200 < L1 ∨ 200 < L2
    · have R := As.mk (show E = 5 by rw [hEe, if_pos h2])
      clear hEe hE HS
      go_enter Try.func17, Try.ntmps17
      by_cases c1 : 200 < L1
      · go_wp2_with fail
        go_ret2
        exact ⟨by rw [R.out]; rfl, hb1⟩
      · have c2 : 200 < L2 := by omega
        go_wp2_with fail
        go_ret2
        exact ⟨by rw [R.out]; rfl, hb1⟩
    · rw [if_neg h2] at hEe
      have c1 : ¬ 200 < L1 := by omega
      have c2 : ¬ 200 < L2 := by omega
      clear h2
      have K := As.mk (HS.out _ hb1)
      clear HS
      cases O
      · have R := As.mk (show E = 3 by rw [hEe, if_pos rfl])
        clear hEe hE
        go_enter Try.func17, Try.ntmps17
        go_wp2_with fail
        refine K.out.mono ?_
        rintro e w1 ⟨rfl, h⟩
        have hb2 := hb1.after (by simp) h.below
        clear h hb1 K
        go_wp2_with fail
        go_ret2
        exact ⟨by rw [R.out]; rfl, hb2⟩
      · rw [if_neg (by simp)] at hEe
        by_cases h3 : L1 ≠ L2
        · have R := As.mk (show E = 1 by rw [hEe, if_pos h3])
          have hne : ((L1 : Int) = (L2 : Int)) = False := eq_false (by omega)
          have hneb : ((L1 : Int) == (L2 : Int)) = false := beq_eq_false_iff_ne.2 (by omega)
          clear hEe hE
          go_enter Try.func17, Try.ntmps17
          go_wp2_with fail
          refine K.out.mono ?_
          rintro e w1 ⟨rfl, h⟩
          have hp : w1.cell? ⟨w.heap.size, 0, none⟩ = some (.slice B L2 d) := cell_below (W := w.alloc (Obj.cells #[.slice B L2 d] 28)) (by simp [go_sem]) h.below
          have hb2 := hb1.after (by simp) h.below
          clear h hb1 K
          go_wp2_with fail
          go_ret2
          exact ⟨by rw [R.out]; rfl, hb2⟩
        · have h3 : L1 = L2 := by omega
          subst h3
          rw [if_neg (by simp)] at hEe
          by_cases h4 : L1 = 0
          · have R := As.mk (show E = 20 by rw [hEe, if_pos h4])
            subst h4
            clear hEe hE
            go_enter Try.func17, Try.ntmps17
            go_wp2_with fail
            refine K.out.mono ?_
            rintro e w1 ⟨rfl, h⟩
            have hp : w1.cell? ⟨w.heap.size, 0, none⟩ = some (.slice B 0 d) := cell_below (W := w.alloc (Obj.cells #[.slice B 0 d] 28)) (by simp [go_sem]) h.below
            have hb2 := hb1.after (by simp) h.below
            clear h hb1 K
            go_wp2_with fail
            go_ret2
            exact ⟨by rw [R.out]; rfl, hb2⟩
          · exact absurd (by rw [hEe, if_neg h4]) hE
end Go.Proofs.Ytdbpjnjgjmfomaa

/- The list of the first indexes, as it is filled. -/
namespace Go.Proofs.Ytdbpjnjgjmfomaa
open Go.RowKit

/-- The first k indexes, and zeros. -/
def idl (k n : Nat) : List Int := (List.range n).map (fun t => if t < k then (t : Int) else 0)
theorem idl_length (k n : Nat) : (idl k n).length = n := by simp [idl]
theorem idl_get (k n t : Nat) (h : t < n) : (idl k n).getD t 0 = if t < k then (t : Int) else 0 := by
  unfold idl
  rw [List.getD_eq_getElem?_getD, List.getElem?_map, List.getElem?_range h]; rfl
theorem idl_zero (n : Nat) : idl 0 n = List.replicate n 0 := by
  apply List.ext_getElem
  · simp [idl]
  · intro i h1 h2
    simp [idl]
theorem idl_set (k n : Nat) (_h : k < n) : (idl k n).set k (k : Int) = idl (k + 1) n := by
  apply List.ext_getElem?
  intro i
  rw [List.getElem?_set]
  by_cases hi : k = i
  · subst hi
    rw [if_pos rfl, if_pos (by rw [idl_length]; omega)]
    unfold idl
    rw [List.getElem?_map, List.getElem?_range (by omega)]
    simp
  · rw [if_neg hi]
    unfold idl
    rw [List.getElem?_map, List.getElem?_map]
    rcases Nat.lt_or_ge i n with h1 | h1
    · rw [List.getElem?_range h1]
      simp only [Option.map_some]
      congr 1
      by_cases h2 : i < k
      · rw [if_pos h2, if_pos (by omega)]
      · rw [if_neg h2, if_neg (by omega)]
    · rw [List.getElem?_eq_none (by simpa using h1)]; rfl
end Go.Proofs.Ytdbpjnjgjmfomaa

/- slices.symMerge where one element stands on the right. -/
namespace Go.Proofs.Ytdbpjnjgjmfomaa
open Go.RowKit

theorem swap_app' (P : List Int) (x y : Int) (S : List Int) : ((P ++ [x] ++ [y] ++ S).set (P.length + 1) x).set P.length y = P ++ [y] ++ [x] ++ S := by
  rw [List.set_comm _ _ (by omega)]; exact swap_app P x y S

set_option maxHeartbeats 8000000 in
set_option maxRecDepth 100000 in
theorem sl_sym_right {lt : Int → Int → Prop} (hw : SW lt) {w0 w : World} {G g cap n N pb a m b : Nat} {p A s : List Int} {y : Int} (hG : G ≤ w0.heap.size) (hg : G ≤ g) (hd0 : Below G w0 w) (hO0 : OwnI w G (.slice (some ⟨g, 0, none⟩) n cap) (p ++ A ++ [y] ++ s)) (hl : (p ++ A ++ [y] ++ s).length = n) (hn : n ≤ 200) (ha : p.length = a) (hm : a + A.length = m) (hb : m + 1 = b) (hA2 : 2 ≤ A.length)
    (hA : Srt lt A) (hAy : ∀ x ∈ A, x < y) (hr : ∀ z ∈ A ++ [y], 0 ≤ z ∧ z < (N : Int)) (HC0 : LessC lt w0 G pb N) :
    Calls Try.prog 110 #[.slice (some ⟨g, 0, none⟩) n cap, .int .i64 a, .int .i64 m, .int .i64 b, lessG pb] w fun e w' => e = .returned (.tuple #[]) ∧ Below G w0 w' ∧ ∃ C, OwnI w' G (.slice (some ⟨g, 0, none⟩) n cap) (p ++ C ++ s) ∧ Mrg lt (A ++ [y]) C := by
  have HC := As.mk HC0
  have hkG : ∀ {W W' : World}, Below G w0 W → Below W.heap.size W W' → Below G w0 W' := fun h hb => below_own hG h hb
  obtain ⟨la, hla0⟩ : ∃ la, A.length = la := ⟨_, rfl⟩
  have hw0 : IntKind.i64.wrap ((m : Int) - (a : Int)) = (la : Int) := by rw [show (m : Int) - (a : Int) = (la : Int) by omega]; exact IntWalk.i64_in _ (by simp only [List.length_append] at hl; omega)
  have hl1' : ((la : Int) = 1) = False := eq_false (by omega)
  have hl1b : ((la : Int) == 1) = false := beq_eq_false_iff_ne.2 (by omega)
  have hl1n : (la = 1) = False := eq_false (by omega)
  have hw1 : IntKind.i64.wrap ((b : Int) - (m : Int)) = 1 := by rw [show (b : Int) - (m : Int) = 1 by omega]; rfl
  obtain ⟨l, hll⟩ : ∃ l, p ++ A ++ [y] ++ s = l := ⟨_, rfl⟩
  rw [hll] at hO0 hl
  have hl1 : p.length + la + 1 + s.length = n := by rw [← hl, ← hll, ← hla0]; simp; omega
  have hlm : As (l.getD m 0 = y) := ⟨by
    rw [← hll, getD_app, getD_app]
    simp only [List.length_append, List.length_singleton]
    rw [if_pos (by omega), if_neg (by omega), show m - (p.length + A.length) = 0 by omega]; rfl⟩
  have hlb : As (∀ t, a ≤ t → t < m → l.getD t 0 = A.getD (t - a) 0) := ⟨fun t h1 h2 => by
    rw [← hll, getD_app, getD_app, getD_app]
    simp only [List.length_append, List.length_singleton]
    rw [if_pos (by omega), if_pos (by omega), if_neg (by omega)]
    congr 1; omega⟩
  have hbn : b ≤ 200 := by omega
  have ham : a + la = m := by omega
  replace hll := As.mk hll
  replace hla0 := As.mk hla0
  clear hm
  go_enter Try.func110, Try.ntmps110
  go_wp2_with fail
  go_loopw [14, 15, 16] (fun v14 v15 _ wr => ∃ i j : Nat, a ≤ i ∧ i ≤ j ∧ j ≤ m ∧ v14 = .int .i64 i ∧ v15 = .int .i64 j ∧ Below G w0 wr ∧ OwnI wr G (.slice (some ⟨g, 0, none⟩) n cap) l ∧ As ((i = a ∨ ¬ lt y (l.getD (i - 1) 0)) ∧ (j = m ∨ lt y (l.getD j 0)))) (fun v14 v15 _ _ => (intOf v15 - intOf v14).toNat)
  case atStart => exact ⟨a, m, by omega, by omega, by omega, rfl, rfl, hd0, hO0, ⟨.inl rfl, .inl rfl⟩⟩
  case round =>
    clear hO0 hd0
    obtain ⟨i, j, hmi, hij, hjb, rfl, rfl, hd, hO, hI⟩ := hrel
    by_cases hlt : i < j
    · have bij : ((i : Int) < (j : Int)) = True := eq_true (by omega)
      obtain ⟨h, hh⟩ : ∃ h, (i + j) / 2 = h := ⟨_, rfl⟩
      have hhb : a ≤ h ∧ h < m ∧ i ≤ h ∧ h < j := by omega
      obtain ⟨X, hX⟩ : ∃ X, l.getD h 0 = X := ⟨_, rfl⟩
      obtain ⟨Y, hY⟩ : ∃ Y, Y = y := ⟨_, rfl⟩
      obtain ⟨hcx, hfx⟩ := hO.cell h (by omega)
      obtain ⟨hcy, hfy⟩ := hO.cell m (by omega)
      rw [hX] at hcx
      rw [hlm.out, ← hY] at hcy
      have hXm : X ∈ A := by rw [← hX, hlb.out h (by omega) (by omega)]; exact getD_mem (by rw [hla0.out]; omega)
      obtain ⟨hX0, hX1⟩ := hr X (by simp [hXm])
      obtain ⟨hY0, hY1⟩ := hr Y (by simp [hY])
      have e2 : ((i : Int) + (j : Int)) / 2 = (h : Int) := by omega
      have hstep1 : lt Y X → As ((i = a ∨ ¬ lt y (l.getD (i - 1) 0)) ∧ (h = m ∨ lt y (l.getD h 0))) := fun h1 => ⟨hI.out.1, .inr (by rw [hX, ← hY]; exact h1)⟩
      have hstep2 : ¬ lt Y X → As ((h + 1 = a ∨ ¬ lt y (l.getD (h + 1 - 1) 0)) ∧ (j = m ∨ lt y (l.getD j 0))) := fun h1 => ⟨.inr (by rw [Nat.add_sub_cancel, hX, ← hY]; exact h1), hI.out.2⟩
      have bh1 : ((h : Int) < (n : Int)) = True := eq_true (by omega)
      have bh1n : h < n := by omega
      have bh0 : (0 ≤ (h : Int)) = True := eq_true (by omega)
      have ba1 : ((m : Int) < (n : Int)) = True := eq_true (by omega)
      have ba1n : m < n := by omega
      have ba0 : (0 ≤ (m : Int)) = True := eq_true (by omega)
      clear hI hXm hX
      replace hY := As.mk hY
      replace hh := As.mk hh
      by_cases hyx : lt Y X
      · have hst := hstep1 hyx
        clear hstep1 hstep2
        go_wp2_with fail
        try rw [e2]
        go_region_held3 (fun w' => w'.cell? ⟨g, m, none⟩ = some (.int .i64 Y) ∧ w'.cell? ⟨g, h, none⟩ = some (.int .i64 X) ∧ Below G w0 w' ∧ OwnI w' G (.slice (some ⟨g, 0, none⟩) n cap) l)
          ((first
            | with_reducible exact (keep_p cell_below (keep_p cell_below (keep_p hkG (OwnI.below)))) ⟨hcy, hcx, hd, hO⟩ (below_drew _)
            | with_reducible exact (keep_p cell_below (keep_p cell_below (keep_p hkG (OwnI.below)))) (by with_reducible assumption) (below_drew _)
            | with_reducible exact (keep_p cell_below (keep_p cell_below (keep_p hkG (OwnI.below)))) (by with_reducible assumption) (by with_reducible assumption)))
          (first
            | (go_at_call 44; obtain ⟨_, _, hG1, hO1⟩ := ‹(_ = some _) ∧ (_ = some _) ∧ Below _ _ _ ∧ OwnI _ _ _ _›; refine (HC.out _ hG1 Y X hY0 hY1 hX0 hX1).mono ?_; rintro e w9 ⟨sg, rfl, hsg, hb⟩; have hs0 : (sg < 0) = True := eq_true (hsg.2 hyx); clear hsg; have hd9 := below_own hG hG1 hb; have hO9 := hO1.below hb))
        all_goals
          go_wp2_with fail
          go_roundw
          case rel => exact ⟨i, h, by omega, by omega, by omega, rfl, rfl, hd9, hO9, hst⟩
          case measure => simp [intOf]; omega
      · have hst := hstep2 hyx
        clear hstep1 hstep2
        go_wp2_with fail
        try rw [e2]
        go_region_held3 (fun w' => w'.cell? ⟨g, m, none⟩ = some (.int .i64 Y) ∧ w'.cell? ⟨g, h, none⟩ = some (.int .i64 X) ∧ Below G w0 w' ∧ OwnI w' G (.slice (some ⟨g, 0, none⟩) n cap) l)
          ((first
            | with_reducible exact (keep_p cell_below (keep_p cell_below (keep_p hkG (OwnI.below)))) ⟨hcy, hcx, hd, hO⟩ (below_drew _)
            | with_reducible exact (keep_p cell_below (keep_p cell_below (keep_p hkG (OwnI.below)))) (by with_reducible assumption) (below_drew _)
            | with_reducible exact (keep_p cell_below (keep_p cell_below (keep_p hkG (OwnI.below)))) (by with_reducible assumption) (by with_reducible assumption)))
          (first
            | (go_at_call 44; obtain ⟨_, _, hG1, hO1⟩ := ‹(_ = some _) ∧ (_ = some _) ∧ Below _ _ _ ∧ OwnI _ _ _ _›; refine (HC.out _ hG1 Y X hY0 hY1 hX0 hX1).mono ?_; rintro e w9 ⟨sg, rfl, hsg, hb⟩; have hs0 : (sg < 0) = False := eq_false (fun e => hyx (hsg.1 e)); clear hsg; have hd9 := below_own hG hG1 hb; have hO9 := hO1.below hb))
        all_goals
          go_wp2_with fail
          go_roundw
          case rel => exact ⟨h + 1, j, by omega, by omega, by omega, by go_num, rfl, hd9, hO9, hst⟩
          case measure => simp [intOf]; omega
    · obtain rfl : i = j := by omega
      clear HC
      obtain ⟨A1, hA1⟩ : ∃ A1, A.take (i - a) = A1 := ⟨_, rfl⟩
      obtain ⟨A2, hA2e⟩ : ∃ A2, A.drop (i - a) = A2 := ⟨_, rfl⟩
      have hAe : A = A1 ++ A2 := by rw [← hA1, ← hA2e]; exact (List.take_append_drop _ _).symm
      have hA1l : A1.length = i - a := by rw [← hA1, List.length_take, hla0.out]; omega
      have hA2l : A2.length = m - i := by rw [← hA2e, List.length_drop, hla0.out]; omega
      have hhd : ∀ v, A2.head? = some v → lt y v := fun v hv => by
        have hib : i < m := by
          rcases Nat.lt_or_ge i m with h | h
          · exact h
          · rw [List.length_eq_zero_iff.1 (show A2.length = 0 by omega)] at hv; simp at hv
        have h1 := hlb.out i (by omega) hib
        have h2 : v = A.getD (i - a) 0 := by
          rw [← hA2e, List.head?_drop] at hv
          rw [List.getD_eq_getElem?_getD, hv]; rfl
        rw [h2, ← h1]
        rcases hI.out.2 with h3 | h3
        · omega
        · exact h3
      have hlt' : ∀ u, A1.getLast? = some u → ¬ lt y u := fun u hu => by
        have hne : A1 ≠ [] := fun e => by rw [e] at hu; simp at hu
        have hpos := List.length_pos_iff.2 hne
        have h1 := hlb.out (i - 1) (by omega) (by omega)
        have h2 : u = A.getD (i - 1 - a) 0 := by
          rw [List.getLast?_eq_getElem?, hA1l, ← hA1, List.getElem?_take] at hu
          rw [if_pos (by omega), show i - a - 1 = i - 1 - a by omega] at hu
          rw [List.getD_eq_getElem?_getD, hu]; rfl
        rw [h2, ← h1]
        rcases hI.out.1 with h3 | h3
        · omega
        · exact h3
      have hM : As (Mrg lt (A ++ [y]) (A1 ++ [y] ++ A2)) := ⟨by rw [hAe]; exact Mrg.eno hw (by rw [← hAe]; exact hA) (by rw [← hAe]; exact hAy) hlt' hhd⟩
      have hl0 : As (l = p ++ A1 ++ (A2 ++ [y] ++ []) ++ s) := ⟨by rw [← hll.out, hAe]; simp⟩
      have hii : ((i : Int) < (i : Int)) = False := eq_false (by omega)
      clear hhd hlt' hI hlb hlm hAe hA1 hA2e hA hAy hr hll hla0 hA2
      go_wp2_with fail
      go_loopw [17] (fun v17 wq => ∃ (k : Nat) (l' U V : List Int), i ≤ k ∧ k ≤ m ∧ v17 = .int .i64 k ∧ Below G w0 wq ∧ OwnI wq G (.slice (some ⟨g, 0, none⟩) n cap) l' ∧ As (l' = p ++ A1 ++ (U ++ [y] ++ V) ++ s ∧ A2 = U ++ V ∧ i + U.length = k)) (fun v17 _ => (intOf v17).toNat)
      case atStart => exact ⟨m, l, A2, [], by omega, by omega, rfl, hd, hO, ⟨hl0.out, by simp, by omega⟩⟩
      case round =>
        clear hO hd hl0 hl
        rename World => wq
        obtain ⟨k, l, U, V, hik, hkm, rfl, hd, hO, hI⟩ := hrel
        obtain ⟨hle, hAe, hUk⟩ := hI.out
        clear hI
        by_cases hki : i < k
        · rcases List.eq_nil_or_concat U with hU | ⟨U', x, hU⟩
          · subst hU; simp at hUk; omega
          · subst hU
            obtain ⟨kk, hkk⟩ : ∃ kk, k - 1 = kk := ⟨_, rfl⟩
            simp at hUk
            have hlen : l.length = p.length + A1.length + U'.length + 1 + 1 + V.length + s.length := by rw [hle]; simp; omega
            have hP : (p ++ A1 ++ U').length = kk := by simp; omega
            have hk1 : kk + 1 = k := by omega
            have hsw := swap_app' (p ++ A1 ++ U') x y (V ++ s)
            have hle2 : l = (p ++ A1 ++ U') ++ [x] ++ [y] ++ (V ++ s) := by rw [hle]; simp
            rw [← hle2, hP, hk1] at hsw
            have hgx := mid_x (p ++ A1 ++ U') x y (V ++ s)
            have hgy := mid_y (p ++ A1 ++ U') x y (V ++ s)
            rw [← hle2, hP] at hgx
            rw [← hle2, hP, hk1] at hgy
            have hkmn : k < n := by omega
            have kn' : k < n := by omega
            have kkn' : kk < n := by omega
            have hne1 : k ≠ kk := by omega
            have hne2 : kk ≠ k := by omega
            obtain ⟨hcx, hfx⟩ := hO.cell k (by omega)
            obtain ⟨hcy, hfy⟩ := hO.cell kk (by omega)
            have hdr := (Below.refl wq.heap.size wq).drew
            obtain ⟨hcx', hfx'⟩ := (hO.below hdr).cell k (by omega)
            obtain ⟨hcy', hfy'⟩ := (hO.below hdr).cell kk (by omega)
            rw [hgy] at hcx hcx'
            rw [hgx] at hcy hcy'
            have hO1 : As (OwnI ((wq.setCell ⟨g, k, none⟩ (.int .i64 x)).setCell ⟨g, kk, none⟩ (.int .i64 y)).drew G (.slice (some ⟨g, 0, none⟩) n cap) ((l.set k x).set kk y)) := ⟨((hO.store k x).store kk y).below (Below.refl _ _).drew⟩
            have hd1 : As (Below G w0 ((wq.setCell ⟨g, k, none⟩ (.int .i64 x)).setCell ⟨g, kk, none⟩ (.int .i64 y)).drew) := ⟨((hd.setCell (by exact hg) _).setCell (by exact hg) _).drew⟩
            clear hdr
            have hI1 : As ((l.set k x).set kk y = p ++ A1 ++ (U' ++ [y] ++ (x :: V)) ++ s ∧ A2 = U' ++ (x :: V) ∧ i + U'.length = kk) := ⟨by rw [hsw]; simp, by rw [hAe]; simp, by omega⟩
            have hw3 : IntKind.i64.wrap ((k : Int) - 1) = (kk : Int) := by rw [show (k : Int) - 1 = (kk : Int) by omega]; exact IntWalk.i64_in _ (by omega)
            have bk : ((i : Int) < (k : Int)) = True := eq_true (by omega)
            have hkki : i ≤ kk := by omega
            have hakk : kk ≤ m := by omega
            replace hkk := As.mk hkk
            clear hle hle2 hAe hUk hsw hgx hgy hO hd hlen hM hA1l hP hk1
            go_wp2_with fail
            go_region
            all_goals
              go_wp2_with fail
              go_roundw
              case rel => exact ⟨kk, (l.set k x).set kk y, U', x :: V, hkki, hakk, by first | rfl | go_num, hd1.out, hO1.out, hI1⟩
              case measure => have := hkk.out; simp [intOf]; omega
        · obtain rfl : i = k := by omega
          have hU0 : U = [] := List.length_eq_zero_iff.1 (by omega)
          subst hU0
          have hfin : As (l = p ++ (A1 ++ [y] ++ A2) ++ s) := ⟨by rw [hle, hAe]; simp⟩
          rw [hfin.out] at hO
          clear hle hAe hUk hA1l hfin
          go_wp2_with fail
          (try simp only [Exit.inBlock, Exit.then]); refine bodyPost_ret (results_none rfl _ _ _) rfl ?_
          exact ⟨rfl, hd, A1 ++ [y] ++ A2, hO, by simpa using hM.out⟩
end Go.Proofs.Ytdbpjnjgjmfomaa

/- How a merge by halves parts the two stretches. -/
namespace Go.Proofs.Ytdbpjnjgjmfomaa
open Go.RowKit

theorem last_get {l : List Int} {t : Nat} {u : Int} (h : (l.take t).getLast? = some u) (ht : t ≤ l.length) : 0 < t ∧ u = l.getD (t - 1) 0 := by
  rcases Nat.eq_zero_or_pos t with h0 | h0
  · subst h0; simp at h
  · refine ⟨h0, ?_⟩
    rw [List.getLast?_eq_getElem?, List.length_take, Nat.min_eq_left ht, List.getElem?_take, if_pos (by omega)] at h
    rw [List.getD_eq_getElem?_getD, h]; rfl
theorem head_get {l : List Int} {t : Nat} {u : Int} (h : (l.drop t).head? = some u) : t < l.length ∧ u = l.getD t 0 := by
  rw [List.head?_drop] at h
  exact ⟨(List.getElem?_eq_some_iff.1 h).1, by rw [List.getD_eq_getElem?_getD, h]; rfl⟩
theorem sym_split {lt : Int → Int → Prop} {l p A B s : List Int} {a m b mid st : Nat} (hl : p ++ A ++ B ++ s = l) (ha : p.length = a) (hm : a + A.length = m) (hb : m + B.length = b) (hst1 : a ≤ st) (hst2 : st ≤ m) (hsm : st ≤ mid) (he : mid + m - st ≤ b)
    (hI1 : a < st → mid + m - st < b → ¬ lt (l.getD (mid + m - st) 0) (l.getD (st - 1) 0)) (hI2 : st < m → st < mid → lt (l.getD (mid + m - st - 1) 0) (l.getD st 0)) :
    ∃ A1 A2 B1 B2 : List Int, A = A1 ++ A2 ∧ B = B1 ++ B2 ∧ A1.length = st - a ∧ A2.length = m - st ∧ B1.length = mid - st ∧ B2.length = b - (mid + m - st) ∧
      (∀ u v, A1.getLast? = some u → B2.head? = some v → ¬ lt v u) ∧ (∀ u v, B1.getLast? = some u → A2.head? = some v → lt u v) := by
  have hA : ∀ t, a ≤ t → t < m → l.getD t 0 = A.getD (t - a) 0 := fun t h1 h2 => by
    rw [← hl, getD_app, getD_app, getD_app]
    simp only [List.length_append]
    rw [if_pos (by omega), if_pos (by omega), if_neg (by omega), ha]
  have hB : ∀ t, m ≤ t → t < b → l.getD t 0 = B.getD (t - m) 0 := fun t h1 h2 => by
    rw [← hl, getD_app, getD_app]
    simp only [List.length_append]
    rw [if_pos (by omega), if_neg (by omega)]
    congr 1; omega
  refine ⟨A.take (st - a), A.drop (st - a), B.take (mid - st), B.drop (mid - st), (List.take_append_drop _ _).symm, (List.take_append_drop _ _).symm, by rw [List.length_take]; omega, by rw [List.length_drop]; omega, by rw [List.length_take]; omega, by rw [List.length_drop]; omega, fun u v hu hv => ?_, fun u v hu hv => ?_⟩
  · obtain ⟨h1, rfl⟩ := last_get hu (by omega)
    obtain ⟨h2, rfl⟩ := head_get hv
    have := hI1 (by omega) (by omega)
    rw [hB _ (by omega) (by omega), hA _ (by omega) (by omega)] at this
    rwa [show mid + m - st - m = mid - st by omega, show st - 1 - a = st - a - 1 by omega] at this
  · obtain ⟨h1, rfl⟩ := last_get hu (by omega)
    obtain ⟨h2, rfl⟩ := head_get hv
    have := hI2 (by omega) (by omega)
    rw [hB _ (by omega) (by omega), hA _ (by omega) (by omega)] at this
    rwa [show mid + m - st - 1 - m = mid - st - 1 by omega] at this
end Go.Proofs.Ytdbpjnjgjmfomaa

/- slices.symMerge. -/
namespace Go.Proofs.Ytdbpjnjgjmfomaa
open Go.RowKit

set_option maxHeartbeats 16000000 in
set_option maxRecDepth 100000 in
theorem sl_sym_step {lt : Int → Int → Prop} (hw : SW lt) {w0 w : World} {G g cap n N pb a m b d : Nat} {p A B s : List Int} (hG : G ≤ w0.heap.size) (hg : G ≤ g) (hn : n ≤ 200) (HC0 : LessC lt w0 G pb N)
    (HI : As (∀ (W : World) (p A B s : List Int) (a m b : Nat), Below G w0 W → OwnI W G (.slice (some ⟨g, 0, none⟩) n cap) (p ++ A ++ B ++ s) → (p ++ A ++ B ++ s).length = n → p.length = a → a + A.length = m → m + B.length = b → 0 < A.length → 0 < B.length → A.length + B.length < d → Srt lt A → Srt lt B → (∀ x ∈ A, ∀ y ∈ B, x < y) → (∀ z ∈ A ++ B, 0 ≤ z ∧ z < (N : Int)) →
      Calls Try.prog 110 #[.slice (some ⟨g, 0, none⟩) n cap, .int .i64 a, .int .i64 m, .int .i64 b, lessG pb] W fun e w' => e = .returned (.tuple #[]) ∧ Below G w0 w' ∧ ∃ C, OwnI w' G (.slice (some ⟨g, 0, none⟩) n cap) (p ++ C ++ s) ∧ Mrg lt (A ++ B) C))
    (hd0 : Below G w0 w) (hO0 : OwnI w G (.slice (some ⟨g, 0, none⟩) n cap) (p ++ A ++ B ++ s)) (hl : (p ++ A ++ B ++ s).length = n) (ha : p.length = a) (hm : a + A.length = m) (hb : m + B.length = b) (hA2 : 2 ≤ A.length) (hB2 : 2 ≤ B.length) (hdl : A.length + B.length ≤ d) (hA0 : Srt lt A) (hB0 : Srt lt B) (hAB : ∀ x ∈ A, ∀ y ∈ B, x < y) (hr : ∀ z ∈ A ++ B, 0 ≤ z ∧ z < (N : Int)) :
    Calls Try.prog 110 #[.slice (some ⟨g, 0, none⟩) n cap, .int .i64 a, .int .i64 m, .int .i64 b, lessG pb] w fun e w' => e = .returned (.tuple #[]) ∧ Below G w0 w' ∧ ∃ C, OwnI w' G (.slice (some ⟨g, 0, none⟩) n cap) (p ++ C ++ s) ∧ Mrg lt (A ++ B) C := by
  have HC := As.mk HC0
  have hkG : ∀ {W W' : World}, Below G w0 W → Below W.heap.size W W' → Below G w0 W' := fun h hb => below_own hG h hb
  have hln : p.length + A.length + B.length + s.length = n := by rw [← hl]; simp; omega
  obtain ⟨la, hla⟩ : ∃ la, A.length = la := ⟨_, rfl⟩
  obtain ⟨lb, hlb⟩ : ∃ lb, B.length = lb := ⟨_, rfl⟩
  have hw1 : IntKind.i64.wrap ((m : Int) - (a : Int)) = (la : Int) := by rw [show (m : Int) - (a : Int) = (la : Int) by omega]; exact IntWalk.i64_in _ (by omega)
  have hw2 : IntKind.i64.wrap ((b : Int) - (m : Int)) = (lb : Int) := by rw [show (b : Int) - (m : Int) = (lb : Int) by omega]; exact IntWalk.i64_in _ (by omega)
  have c1 : ((la : Int) = 1) = False := eq_false (by omega)
  have c1n : (la = 1) = False := eq_false (by omega)
  have c1b : ((la : Int) == 1) = false := beq_eq_false_iff_ne.2 (by omega)
  have c2 : ((lb : Int) = 1) = False := eq_false (by omega)
  have c2n : (lb = 1) = False := eq_false (by omega)
  have c2b : ((lb : Int) == 1) = false := beq_eq_false_iff_ne.2 (by omega)
  have hbn : b ≤ n := by omega
  obtain ⟨mid, hmid⟩ : ∃ mid, (a + b) / 2 = mid := ⟨_, rfl⟩
  have hmd : 2 * mid ≤ a + b ∧ a + b ≤ 2 * mid + 1 := by omega
  have emid : ((a : Int) + (b : Int)) / 2 = (mid : Int) := by omega
  obtain ⟨nn, hnn⟩ : ∃ nn, mid + m = nn := ⟨_, rfl⟩
  have hw3 : IntKind.i64.wrap ((mid : Int) + (m : Int)) = (nn : Int) := by rw [show (mid : Int) + (m : Int) = (nn : Int) by omega]; exact IntWalk.i64_in _ (by omega)
  obtain ⟨p1, hp1⟩ : ∃ p1, nn - 1 = p1 := ⟨_, rfl⟩
  have hw4 : IntKind.i64.wrap ((nn : Int) - 1) = (p1 : Int) := by rw [show (nn : Int) - 1 = (p1 : Int) by omega]; exact IntWalk.i64_in _ (by omega)
  have hrl : As (∀ t, a ≤ t → t < b → 0 ≤ (p ++ A ++ B ++ s).getD t 0 ∧ (p ++ A ++ B ++ s).getD t 0 < (N : Int)) := ⟨fun t h1 h2 => hr _ (by
    rw [show p ++ A ++ B ++ s = p ++ ((A ++ B) ++ s) by simp, getD_app, if_neg (by omega), getD_app, if_pos (by simp; omega)]
    exact getD_mem (by simp; omega))⟩
  obtain ⟨l, hll⟩ : ∃ l, p ++ A ++ B ++ s = l := ⟨_, rfl⟩
  rw [hll] at hO0 hl hrl
  replace hll := As.mk hll
  go_enter Try.func110, Try.ntmps110
  have hnn1 : mid + m ≤ nn ∧ nn ≤ mid + m := by omega
  have hp11 : nn ≤ p1 + 1 ∧ p1 + 1 ≤ nn := by omega
  replace hnn := As.mk hnn
  replace hp1 := As.mk hp1
  replace hmid := As.mk hmid
  replace hla := As.mk hla
  replace hlb := As.mk hlb
  by_cases hcase : mid < m
  · obtain ⟨S0, hS0⟩ : ∃ S0, nn - b = S0 := ⟨_, rfl⟩
    have hw5 : IntKind.i64.wrap ((nn : Int) - (b : Int)) = (S0 : Int) := by rw [show (nn : Int) - (b : Int) = (S0 : Int) by omega]; exact IntWalk.i64_in _ (by omega)
    have hS01 : nn ≤ S0 + b ∧ S0 + b ≤ nn := by omega
    replace hS0 := As.mk hS0
    have bc : ((mid : Int) < (m : Int)) = True := eq_true (by omega)
    go_wp2_with fail
    go_loopw [20, 21, 23] (fun v20 v21 _ wr => ∃ i j : Nat, S0 ≤ i ∧ i ≤ j ∧ j ≤ mid ∧ v20 = .int .i64 i ∧ v21 = .int .i64 j ∧ Below G w0 wr ∧ OwnI wr G (.slice (some ⟨g, 0, none⟩) n cap) l ∧ As ((i = S0 ∨ ¬ lt (l.getD (mid + m - i) 0) (l.getD (i - 1) 0)) ∧ (j = mid ∨ lt (l.getD (mid + m - 1 - j) 0) (l.getD j 0)))) (fun v20 v21 _ _ => (intOf v21 - intOf v20).toNat)
    case atStart => exact ⟨S0, mid, by omega, by omega, by omega, rfl, rfl, hd0, hO0, ⟨.inl rfl, .inl rfl⟩⟩
    case round =>
      clear hO0 hd0
      obtain ⟨i, j, hSi, hij, hjR, rfl, rfl, hd, hO, hI⟩ := hrel
      by_cases hlt : i < j
      · have bij : ((i : Int) < (j : Int)) = True := eq_true (by omega)
        obtain ⟨h, hh⟩ : ∃ h, (i + j) / 2 = h := ⟨_, rfl⟩
        have hhb : S0 ≤ h ∧ h < mid ∧ i ≤ h ∧ h < j := by omega
        obtain ⟨pc, hpc⟩ : ∃ pc, mid + m - 1 - h = pc := ⟨_, rfl⟩
        obtain ⟨ha1, ha2, hp1, hp2⟩ : a ≤ h ∧ h < m ∧ m ≤ pc ∧ pc < b := by omega
        obtain ⟨X, hX⟩ : ∃ X, l.getD h 0 = X := ⟨_, rfl⟩
        obtain ⟨Y, hY⟩ : ∃ Y, l.getD pc 0 = Y := ⟨_, rfl⟩
        obtain ⟨hcx, hfx⟩ := hO.cell h (by omega)
        obtain ⟨hcy, hfy⟩ := hO.cell pc (by omega)
        rw [hX] at hcx
        rw [hY] at hcy
        obtain ⟨hX0, hX1⟩ := hrl.out h (by omega) (by omega)
        obtain ⟨hY0, hY1⟩ := hrl.out pc (by omega) (by omega)
        rw [hX] at hX0 hX1
        rw [hY] at hY0 hY1
        have e2 : ((i : Int) + (j : Int)) / 2 = (h : Int) := by omega
        have hstep1 : lt Y X → As ((i = S0 ∨ ¬ lt (l.getD (mid + m - i) 0) (l.getD (i - 1) 0)) ∧ (h = mid ∨ lt (l.getD (mid + m - 1 - h) 0) (l.getD h 0))) := fun h1 => ⟨hI.out.1, .inr (by rw [hpc, hX, hY]; exact h1)⟩
        have hstep2 : ¬ lt Y X → As ((h + 1 = S0 ∨ ¬ lt (l.getD (mid + m - (h + 1)) 0) (l.getD (h + 1 - 1) 0)) ∧ (j = mid ∨ lt (l.getD (mid + m - 1 - j) 0) (l.getD j 0))) := fun h1 => ⟨.inr (by rw [Nat.add_sub_cancel, show mid + m - (h + 1) = pc by omega, hX, hY]; exact h1), hI.out.2⟩
        have bh1 : ((h : Int) < (n : Int)) = True := eq_true (by omega)
        have bh1n : h < n := by omega
        have bh0 : (0 ≤ (h : Int)) = True := eq_true (by omega)
        have bp1 : ((pc : Int) < (n : Int)) = True := eq_true (by omega)
        have bp1n : pc < n := by omega
        have bp0 : (0 ≤ (pc : Int)) = True := eq_true (by omega)
        have hwp : IntKind.i64.wrap ((p1 : Int) - (h : Int)) = (pc : Int) := by rw [show (p1 : Int) - (h : Int) = (pc : Int) by omega]; exact IntWalk.i64_in _ (by omega)
        have hm1 : S0 ≤ h + 1 := by omega
        have hm2 : h + 1 ≤ j := by omega
        have hm3 : i ≤ h := by omega
        have hm4 : h ≤ mid := by omega
        clear hI hX hY
        replace hpc := As.mk hpc
        replace hh := As.mk hh
        by_cases hyx : lt Y X
        · have hst := hstep1 hyx
          clear hstep1 hstep2
          go_wp2_with fail
          try rw [e2]
          go_region_held3 (fun w' => w'.cell? ⟨g, pc, none⟩ = some (.int .i64 Y) ∧ w'.cell? ⟨g, h, none⟩ = some (.int .i64 X) ∧ Below G w0 w' ∧ OwnI w' G (.slice (some ⟨g, 0, none⟩) n cap) l)
            ((first
              | with_reducible exact (keep_p cell_below (keep_p cell_below (keep_p hkG (OwnI.below)))) ⟨hcy, hcx, hd, hO⟩ (below_drew _)
              | with_reducible exact (keep_p cell_below (keep_p cell_below (keep_p hkG (OwnI.below)))) (by with_reducible assumption) (below_drew _)
              | with_reducible exact (keep_p cell_below (keep_p cell_below (keep_p hkG (OwnI.below)))) (by with_reducible assumption) (by with_reducible assumption)))
            (first
              | (go_at_call 44; obtain ⟨_, _, hG1, hO1⟩ := ‹(_ = some _) ∧ (_ = some _) ∧ Below _ _ _ ∧ OwnI _ _ _ _›; refine (HC.out _ hG1 Y X hY0 hY1 hX0 hX1).mono ?_; rintro e w9 ⟨sg, rfl, hsg, hb⟩; have hs0 : (sg < 0) = True := eq_true (hsg.2 hyx); clear hsg; have hd9 := below_own hG hG1 hb; have hO9 := hO1.below hb))
          all_goals
            go_wp2_with fail
            go_roundw
            case rel => exact ⟨i, h, hSi, hm3, hm4, rfl, rfl, hd9, hO9, hst⟩
            case measure => simp [intOf]; omega
        · have hst := hstep2 hyx
          clear hstep1 hstep2
          go_wp2_with fail
          try rw [e2]
          go_region_held3 (fun w' => w'.cell? ⟨g, pc, none⟩ = some (.int .i64 Y) ∧ w'.cell? ⟨g, h, none⟩ = some (.int .i64 X) ∧ Below G w0 w' ∧ OwnI w' G (.slice (some ⟨g, 0, none⟩) n cap) l)
            ((first
              | with_reducible exact (keep_p cell_below (keep_p cell_below (keep_p hkG (OwnI.below)))) ⟨hcy, hcx, hd, hO⟩ (below_drew _)
              | with_reducible exact (keep_p cell_below (keep_p cell_below (keep_p hkG (OwnI.below)))) (by with_reducible assumption) (below_drew _)
              | with_reducible exact (keep_p cell_below (keep_p cell_below (keep_p hkG (OwnI.below)))) (by with_reducible assumption) (by with_reducible assumption)))
            (first
              | (go_at_call 44; obtain ⟨_, _, hG1, hO1⟩ := ‹(_ = some _) ∧ (_ = some _) ∧ Below _ _ _ ∧ OwnI _ _ _ _›; refine (HC.out _ hG1 Y X hY0 hY1 hX0 hX1).mono ?_; rintro e w9 ⟨sg, rfl, hsg, hb⟩; have hs0 : (sg < 0) = False := eq_false (fun e => hyx (hsg.1 e)); clear hsg; have hd9 := below_own hG hG1 hb; have hO9 := hO1.below hb))
          all_goals
            go_wp2_with fail
            go_roundw
            case rel => exact ⟨h + 1, j, hm1, hm2, hjR, by go_num, rfl, hd9, hO9, hst⟩
            case measure => simp [intOf]; omega
      · obtain rfl : i = j := by omega
        clear HC
        obtain ⟨en, hen⟩ : ∃ en, mid + m - i = en := ⟨_, rfl⟩
        obtain ⟨A1, A2, B1, B2, hAe, hBe, hA1, hA2, hB1, hB2, hx1, hx2⟩ := sym_split (mid := mid) (st := i) hll.out ha hm hb (by omega) (by omega) (by omega) (by omega)
          (fun h1 h2 => by
            rcases hI.out.1 with h3 | h3
            · omega
            · exact h3)
          (fun h1 h2 => by
            rcases hI.out.2 with h3 | h3
            · omega
            · rwa [show mid + m - i - 1 = mid + m - 1 - i by omega])
        rw [hen] at hB2
        have hien : en - mid = m - i := by omega
        obtain ⟨hi1, hi2, hi3, he1, he2⟩ : a ≤ i ∧ i ≤ m ∧ i ≤ mid ∧ m ≤ en ∧ en ≤ b := by omega
        have hsA := hA0
        have hsB := hB0
        rw [hAe] at hsA
        rw [hBe] at hsB
        have hAB1 := hAB
        rw [hAe, hBe] at hAB1
        have hll1 : l = p ++ A1 ++ A2 ++ B1 ++ (B2 ++ s) := by rw [← hll.out, hAe, hBe]; simp
        have hgoal : As (∀ C1 C2, Mrg lt (A1 ++ B1) C1 → Mrg lt (A2 ++ B2) C2 → Mrg lt (A ++ B) (C1 ++ C2)) := ⟨fun C1 C2 h1 h2 => by rw [hAe, hBe]; exact Mrg.join hw hsA hsB hAB1 hx1 hx2 h1 h2⟩
        obtain ⟨q1, q2, q12⟩ := List.pairwise_append.1 hsA
        obtain ⟨q3, q4, q34⟩ := List.pairwise_append.1 hsB
        have hrC : As ((∀ z ∈ A1 ++ B1, 0 ≤ z ∧ z < (N : Int)) ∧ (∀ z ∈ A2 ++ B2, 0 ≤ z ∧ z < (N : Int))) := ⟨fun z hz => hr z (by rw [hAe, hBe]; simp only [List.mem_append] at hz ⊢; rcases hz with hz | hz <;> simp [hz]), fun z hz => hr z (by rw [hAe, hBe]; simp only [List.mem_append] at hz ⊢; rcases hz with hz | hz <;> simp [hz])⟩
        have hcr1 : ∀ x ∈ A1, ∀ y ∈ B1, x < y := fun x hx y hy => hAB1 x (List.mem_append_left _ hx) y (List.mem_append_left _ hy)
        have hcr2 : ∀ x ∈ A2, ∀ y ∈ B2, x < y := fun x hx y hy => hAB1 x (List.mem_append_right _ hx) y (List.mem_append_right _ hy)
        have hplen : p.length + A.length + B.length + s.length = n := by rw [← hl, ← hll.out]; simp; omega
        have hlenA : A.length = A1.length + A2.length := by rw [hAe]; simp
        have hlenB : B.length = B1.length + B2.length := by rw [hBe]; simp
        have hwe : IntKind.i64.wrap ((nn : Int) - (i : Int)) = (en : Int) := by rw [show (nn : Int) - (i : Int) = (en : Int) by omega]; exact IntWalk.i64_in _ (by omega)
        -- the two calls of itself
        have R1 : As (0 < A1.length → 0 < B1.length → ∀ W, Below G w0 W → OwnI W G (.slice (some ⟨g, 0, none⟩) n cap) (p ++ A1 ++ B1 ++ (A2 ++ B2 ++ s)) → Calls Try.prog 110 #[.slice (some ⟨g, 0, none⟩) n cap, .int .i64 a, .int .i64 i, .int .i64 mid, lessG pb] W fun e w' => e = .returned (.tuple #[]) ∧ Below G w0 w' ∧ ∃ C, OwnI w' G (.slice (some ⟨g, 0, none⟩) n cap) (p ++ C ++ (A2 ++ B2 ++ s)) ∧ Mrg lt (A1 ++ B1) C) := ⟨fun h1 h2 W hW hO => HI.out W p A1 B1 (A2 ++ B2 ++ s) a i mid hW hO (by simp only [List.length_append]; omega) ha (by omega) (by omega) h1 h2 (by omega) q1 q3 hcr1 hrC.out.1⟩
        have R2 : As (0 < A2.length → 0 < B2.length → ∀ W C1, C1.length = mid - a → Below G w0 W → OwnI W G (.slice (some ⟨g, 0, none⟩) n cap) (p ++ C1 ++ A2 ++ B2 ++ s) → Calls Try.prog 110 #[.slice (some ⟨g, 0, none⟩) n cap, .int .i64 mid, .int .i64 en, .int .i64 b, lessG pb] W fun e w' => e = .returned (.tuple #[]) ∧ Below G w0 w' ∧ ∃ C, OwnI w' G (.slice (some ⟨g, 0, none⟩) n cap) (p ++ C1 ++ C ++ s) ∧ Mrg lt (A2 ++ B2) C) := ⟨fun h1 h2 W C1 hC1 hW hO => HI.out W (p ++ C1) A2 B2 s mid en b hW hO (by simp only [List.length_append]; omega) (by simp only [List.length_append]; omega) (by omega) (by omega) h1 h2 (by omega) q2 q4 hcr2 hrC.out.2⟩
        have hE1 : As (¬ (0 < A1.length ∧ 0 < B1.length) → Mrg lt (A1 ++ B1) (A1 ++ B1)) := ⟨fun h => by
          rcases Nat.eq_zero_or_pos A1.length with h0 | h0
          · rw [List.length_eq_zero_iff.1 h0]; simpa using Mrg.right q3
          · rw [List.length_eq_zero_iff.1 (show B1.length = 0 by omega)]; simpa using Mrg.left q1⟩
        have hE2 : As (¬ (0 < A2.length ∧ 0 < B2.length) → Mrg lt (A2 ++ B2) (A2 ++ B2)) := ⟨fun h => by
          rcases Nat.eq_zero_or_pos A2.length with h0 | h0
          · rw [List.length_eq_zero_iff.1 h0]; simpa using Mrg.right q4
          · rw [List.length_eq_zero_iff.1 (show B2.length = 0 by omega)]; simpa using Mrg.left q2⟩
        have hcl : As (∀ C1, Mrg lt (A1 ++ B1) C1 → C1.length = mid - a) := ⟨fun C1 h => by have := h.perm.length_eq; rw [this]; simp; omega⟩
        have hRo : As (0 < A2.length → 0 < B1.length → ∀ W, OwnI W G (.slice (some ⟨g, 0, none⟩) n cap) l → Calls Try.prog 133 #[.slice (some ⟨g, 0, none⟩) n cap, .int .i64 i, .int .i64 m, .int .i64 en, lessG pb] W fun e w' => e = .returned (.tuple #[]) ∧ Below G W w' ∧ OwnI w' G (.slice (some ⟨g, 0, none⟩) n cap) (p ++ A1 ++ B1 ++ (A2 ++ B2 ++ s))) := ⟨fun h1 h2 W hO => by
          rw [hll1] at hO
          refine (sl_rotate (p := p ++ A1) (X := A2) (Y := B1) (s := B2 ++ s) (a := i) (m := m) (b := en) hg hO (by rw [← hll1]; exact hl) (by simp; omega) (by simp; omega) (by simp; omega) h1 h2 hn).mono ?_
          rintro e w' ⟨h3, h4, h5⟩
          exact ⟨h3, h4, by simpa using h5⟩⟩
        have hNo : As (¬ (0 < A2.length ∧ 0 < B1.length) → l = p ++ A1 ++ B1 ++ (A2 ++ B2 ++ s)) := ⟨fun h => by
          rw [hll1]
          rcases Nat.eq_zero_or_pos A2.length with h0 | h0
          · rw [List.length_eq_zero_iff.1 h0]; simp
          · rw [List.length_eq_zero_iff.1 (show B1.length = 0 by omega)]; simp⟩
        have hi0 : ((i : Int) < (i : Int)) = False := eq_false (by omega)
        clear hI hx1 hx2 hsA hsB hAB1 hll1 q1 q2 q12 q3 q4 q34 hrC hcr1 hcr2 HI hA0 hB0 hAB hr hrl hll hl hAe hBe
        by_cases hq0 : i < mid
        · have fim : ((i : Int) < (m : Int)) = True := eq_true (by omega)
          have fmen : ((m : Int) < (en : Int)) = True := eq_true (by omega)
          have fimid : ((i : Int) < (mid : Int)) = True := eq_true (by omega)
          have fmiden : ((mid : Int) < (en : Int)) = True := eq_true (by omega)
          by_cases hq1 : a < i
          · have fai : ((a : Int) < (i : Int)) = True := eq_true (by omega)
            by_cases hq2 : en < b
            · have feb : ((en : Int) < (b : Int)) = True := eq_true (by omega)
              have K1 := As.mk (hRo.out (by omega) (by omega) _ hO)
              go_wp2_with fail
              refine K1.out.mono ?_
              rintro e w1 ⟨rfl, hdr, hO1⟩
              have hd1 := hd.trans hdr
              clear K1 hdr
              have K2 := As.mk (R1.out (by omega) (by omega) _ hd1 hO1)
              go_wp2_with fail
              refine K2.out.mono ?_
              rintro e w2 ⟨rfl, hd2, C1, hO2, hM1⟩
              have hO2' : OwnI w2 G (.slice (some ⟨g, 0, none⟩) n cap) (p ++ C1 ++ A2 ++ B2 ++ s) := by simpa using hO2
              clear K2
              have K3 := As.mk (R2.out (by omega) (by omega) _ C1 (hcl.out _ hM1) hd2 hO2')
              go_wp2_with fail
              refine K3.out.mono ?_
              rintro e w3 ⟨rfl, hd3, C2, hO3, hM2⟩
              clear K3
              go_wp2_with fail
              go_end0
              exact ⟨rfl, hd3, C1 ++ C2, by simpa using hO3, hgoal.out _ _ hM1 hM2⟩
            · have feb : ((en : Int) < (b : Int)) = False := eq_false (by omega)
              have K1 := As.mk (hRo.out (by omega) (by omega) _ hO)
              go_wp2_with fail
              refine K1.out.mono ?_
              rintro e w1 ⟨rfl, hdr, hO1⟩
              have hd1 := hd.trans hdr
              clear K1 hdr
              have K2 := As.mk (R1.out (by omega) (by omega) _ hd1 hO1)
              go_wp2_with fail
              refine K2.out.mono ?_
              rintro e w2 ⟨rfl, hd2, C1, hO2, hM1⟩
              have hO2' : OwnI w2 G (.slice (some ⟨g, 0, none⟩) n cap) (p ++ C1 ++ A2 ++ B2 ++ s) := by simpa using hO2
              clear K2
              go_wp2_with fail
              have hM2 := hE2.out (by omega)
              go_end0
              exact ⟨rfl, hd2, C1 ++ (A2 ++ B2), by simpa using hO2', hgoal.out _ _ hM1 hM2⟩
          · have fai : ((a : Int) < (i : Int)) = False := eq_false (by omega)
            by_cases hq2 : en < b
            · have feb : ((en : Int) < (b : Int)) = True := eq_true (by omega)
              have K1 := As.mk (hRo.out (by omega) (by omega) _ hO)
              go_wp2_with fail
              refine K1.out.mono ?_
              rintro e w1 ⟨rfl, hdr, hO1⟩
              have hd1 := hd.trans hdr
              clear K1 hdr
              have hM1 := hE1.out (by omega)
              have hd2 := hd1
              have hO2' : OwnI w1 G (.slice (some ⟨g, 0, none⟩) n cap) (p ++ (A1 ++ B1) ++ A2 ++ B2 ++ s) := by simpa using hO1
              have K3 := As.mk (R2.out (by omega) (by omega) _ (A1 ++ B1) (hcl.out _ hM1) hd2 hO2')
              go_wp2_with fail
              refine K3.out.mono ?_
              rintro e w3 ⟨rfl, hd3, C2, hO3, hM2⟩
              clear K3
              go_wp2_with fail
              go_end0
              exact ⟨rfl, hd3, (A1 ++ B1) ++ C2, by simpa using hO3, hgoal.out _ _ hM1 hM2⟩
            · have feb : ((en : Int) < (b : Int)) = False := eq_false (by omega)
              have K1 := As.mk (hRo.out (by omega) (by omega) _ hO)
              go_wp2_with fail
              refine K1.out.mono ?_
              rintro e w1 ⟨rfl, hdr, hO1⟩
              have hd1 := hd.trans hdr
              clear K1 hdr
              have hM1 := hE1.out (by omega)
              have hd2 := hd1
              have hO2' : OwnI w1 G (.slice (some ⟨g, 0, none⟩) n cap) (p ++ (A1 ++ B1) ++ A2 ++ B2 ++ s) := by simpa using hO1
              go_wp2_with fail
              have hM2 := hE2.out (by omega)
              go_end0
              exact ⟨rfl, hd2, (A1 ++ B1) ++ (A2 ++ B2), by simpa using hO2', hgoal.out _ _ hM1 hM2⟩
        · have fim : ((i : Int) < (m : Int)) = True := eq_true (by omega)
          have fmen : ((m : Int) < (en : Int)) = False := eq_false (by omega)
          have fai : ((a : Int) < (i : Int)) = True := eq_true (by omega)
          have fimid : ((i : Int) < (mid : Int)) = False := eq_false (by omega)
          have fmiden : ((mid : Int) < (en : Int)) = True := eq_true (by omega)
          have fenb : ((en : Int) < (b : Int)) = True := eq_true (by omega)
          have hO1 := hO
          rw [hNo.out (by omega)] at hO1
          have hd1 := hd
          have hM1 := hE1.out (by omega)
          have hd2 := hd1
          have hO2' : OwnI wr G (.slice (some ⟨g, 0, none⟩) n cap) (p ++ (A1 ++ B1) ++ A2 ++ B2 ++ s) := by simpa using hO1
          have K3 := As.mk (R2.out (by omega) (by omega) _ (A1 ++ B1) (hcl.out _ hM1) hd2 hO2')
          go_wp2_with fail
          refine K3.out.mono ?_
          rintro e w3 ⟨rfl, hd3, C2, hO3, hM2⟩
          clear K3
          go_wp2_with fail
          go_end0
          exact ⟨rfl, hd3, (A1 ++ B1) ++ C2, by simpa using hO3, hgoal.out _ _ hM1 hM2⟩
  · have bc : ((mid : Int) < (m : Int)) = False := eq_false (by omega)
    go_wp2_with fail
    go_loopw [20, 21, 23] (fun v20 v21 _ wr => ∃ i j : Nat, a ≤ i ∧ i ≤ j ∧ j ≤ m ∧ v20 = .int .i64 i ∧ v21 = .int .i64 j ∧ Below G w0 wr ∧ OwnI wr G (.slice (some ⟨g, 0, none⟩) n cap) l ∧ As ((i = a ∨ ¬ lt (l.getD (mid + m - i) 0) (l.getD (i - 1) 0)) ∧ (j = m ∨ lt (l.getD (mid + m - 1 - j) 0) (l.getD j 0)))) (fun v20 v21 _ _ => (intOf v21 - intOf v20).toNat)
    case atStart => exact ⟨a, m, by omega, by omega, by omega, rfl, rfl, hd0, hO0, ⟨.inl rfl, .inl rfl⟩⟩
    case round =>
      clear hO0 hd0
      obtain ⟨i, j, hSi, hij, hjR, rfl, rfl, hd, hO, hI⟩ := hrel
      by_cases hlt : i < j
      · have bij : ((i : Int) < (j : Int)) = True := eq_true (by omega)
        obtain ⟨h, hh⟩ : ∃ h, (i + j) / 2 = h := ⟨_, rfl⟩
        have hhb : a ≤ h ∧ h < m ∧ i ≤ h ∧ h < j := by omega
        obtain ⟨pc, hpc⟩ : ∃ pc, mid + m - 1 - h = pc := ⟨_, rfl⟩
        obtain ⟨ha1, ha2, hp1, hp2⟩ : a ≤ h ∧ h < m ∧ m ≤ pc ∧ pc < b := by omega
        obtain ⟨X, hX⟩ : ∃ X, l.getD h 0 = X := ⟨_, rfl⟩
        obtain ⟨Y, hY⟩ : ∃ Y, l.getD pc 0 = Y := ⟨_, rfl⟩
        obtain ⟨hcx, hfx⟩ := hO.cell h (by omega)
        obtain ⟨hcy, hfy⟩ := hO.cell pc (by omega)
        rw [hX] at hcx
        rw [hY] at hcy
        obtain ⟨hX0, hX1⟩ := hrl.out h (by omega) (by omega)
        obtain ⟨hY0, hY1⟩ := hrl.out pc (by omega) (by omega)
        rw [hX] at hX0 hX1
        rw [hY] at hY0 hY1
        have e2 : ((i : Int) + (j : Int)) / 2 = (h : Int) := by omega
        have hstep1 : lt Y X → As ((i = a ∨ ¬ lt (l.getD (mid + m - i) 0) (l.getD (i - 1) 0)) ∧ (h = m ∨ lt (l.getD (mid + m - 1 - h) 0) (l.getD h 0))) := fun h1 => ⟨hI.out.1, .inr (by rw [hpc, hX, hY]; exact h1)⟩
        have hstep2 : ¬ lt Y X → As ((h + 1 = a ∨ ¬ lt (l.getD (mid + m - (h + 1)) 0) (l.getD (h + 1 - 1) 0)) ∧ (j = m ∨ lt (l.getD (mid + m - 1 - j) 0) (l.getD j 0))) := fun h1 => ⟨.inr (by rw [Nat.add_sub_cancel, show mid + m - (h + 1) = pc by omega, hX, hY]; exact h1), hI.out.2⟩
        have bh1 : ((h : Int) < (n : Int)) = True := eq_true (by omega)
        have bh1n : h < n := by omega
        have bh0 : (0 ≤ (h : Int)) = True := eq_true (by omega)
        have bp1 : ((pc : Int) < (n : Int)) = True := eq_true (by omega)
        have bp1n : pc < n := by omega
        have bp0 : (0 ≤ (pc : Int)) = True := eq_true (by omega)
        have hwp : IntKind.i64.wrap ((p1 : Int) - (h : Int)) = (pc : Int) := by rw [show (p1 : Int) - (h : Int) = (pc : Int) by omega]; exact IntWalk.i64_in _ (by omega)
        have hm1 : a ≤ h + 1 := by omega
        have hm2 : h + 1 ≤ j := by omega
        have hm3 : i ≤ h := by omega
        have hm4 : h ≤ m := by omega
        clear hI hX hY
        replace hpc := As.mk hpc
        replace hh := As.mk hh
        by_cases hyx : lt Y X
        · have hst := hstep1 hyx
          clear hstep1 hstep2
          go_wp2_with fail
          try rw [e2]
          go_region_held3 (fun w' => w'.cell? ⟨g, pc, none⟩ = some (.int .i64 Y) ∧ w'.cell? ⟨g, h, none⟩ = some (.int .i64 X) ∧ Below G w0 w' ∧ OwnI w' G (.slice (some ⟨g, 0, none⟩) n cap) l)
            ((first
              | with_reducible exact (keep_p cell_below (keep_p cell_below (keep_p hkG (OwnI.below)))) ⟨hcy, hcx, hd, hO⟩ (below_drew _)
              | with_reducible exact (keep_p cell_below (keep_p cell_below (keep_p hkG (OwnI.below)))) (by with_reducible assumption) (below_drew _)
              | with_reducible exact (keep_p cell_below (keep_p cell_below (keep_p hkG (OwnI.below)))) (by with_reducible assumption) (by with_reducible assumption)))
            (first
              | (go_at_call 44; obtain ⟨_, _, hG1, hO1⟩ := ‹(_ = some _) ∧ (_ = some _) ∧ Below _ _ _ ∧ OwnI _ _ _ _›; refine (HC.out _ hG1 Y X hY0 hY1 hX0 hX1).mono ?_; rintro e w9 ⟨sg, rfl, hsg, hb⟩; have hs0 : (sg < 0) = True := eq_true (hsg.2 hyx); clear hsg; have hd9 := below_own hG hG1 hb; have hO9 := hO1.below hb))
          all_goals
            go_wp2_with fail
            go_roundw
            case rel => exact ⟨i, h, hSi, hm3, hm4, rfl, rfl, hd9, hO9, hst⟩
            case measure => simp [intOf]; omega
        · have hst := hstep2 hyx
          clear hstep1 hstep2
          go_wp2_with fail
          try rw [e2]
          go_region_held3 (fun w' => w'.cell? ⟨g, pc, none⟩ = some (.int .i64 Y) ∧ w'.cell? ⟨g, h, none⟩ = some (.int .i64 X) ∧ Below G w0 w' ∧ OwnI w' G (.slice (some ⟨g, 0, none⟩) n cap) l)
            ((first
              | with_reducible exact (keep_p cell_below (keep_p cell_below (keep_p hkG (OwnI.below)))) ⟨hcy, hcx, hd, hO⟩ (below_drew _)
              | with_reducible exact (keep_p cell_below (keep_p cell_below (keep_p hkG (OwnI.below)))) (by with_reducible assumption) (below_drew _)
              | with_reducible exact (keep_p cell_below (keep_p cell_below (keep_p hkG (OwnI.below)))) (by with_reducible assumption) (by with_reducible assumption)))
            (first
              | (go_at_call 44; obtain ⟨_, _, hG1, hO1⟩ := ‹(_ = some _) ∧ (_ = some _) ∧ Below _ _ _ ∧ OwnI _ _ _ _›; refine (HC.out _ hG1 Y X hY0 hY1 hX0 hX1).mono ?_; rintro e w9 ⟨sg, rfl, hsg, hb⟩; have hs0 : (sg < 0) = False := eq_false (fun e => hyx (hsg.1 e)); clear hsg; have hd9 := below_own hG hG1 hb; have hO9 := hO1.below hb))
          all_goals
            go_wp2_with fail
            go_roundw
            case rel => exact ⟨h + 1, j, hm1, hm2, hjR, by go_num, rfl, hd9, hO9, hst⟩
            case measure => simp [intOf]; omega
      · obtain rfl : i = j := by omega
        clear HC
        obtain ⟨en, hen⟩ : ∃ en, mid + m - i = en := ⟨_, rfl⟩
        obtain ⟨A1, A2, B1, B2, hAe, hBe, hA1, hA2, hB1, hB2, hx1, hx2⟩ := sym_split (mid := mid) (st := i) hll.out ha hm hb (by omega) (by omega) (by omega) (by omega)
          (fun h1 h2 => by
            rcases hI.out.1 with h3 | h3
            · omega
            · exact h3)
          (fun h1 h2 => by
            rcases hI.out.2 with h3 | h3
            · omega
            · rwa [show mid + m - i - 1 = mid + m - 1 - i by omega])
        rw [hen] at hB2
        have hien : en - mid = m - i := by omega
        obtain ⟨hi1, hi2, hi3, he1, he2⟩ : a ≤ i ∧ i ≤ m ∧ i ≤ mid ∧ m ≤ en ∧ en ≤ b := by omega
        have hsA := hA0
        have hsB := hB0
        rw [hAe] at hsA
        rw [hBe] at hsB
        have hAB1 := hAB
        rw [hAe, hBe] at hAB1
        have hll1 : l = p ++ A1 ++ A2 ++ B1 ++ (B2 ++ s) := by rw [← hll.out, hAe, hBe]; simp
        have hgoal : As (∀ C1 C2, Mrg lt (A1 ++ B1) C1 → Mrg lt (A2 ++ B2) C2 → Mrg lt (A ++ B) (C1 ++ C2)) := ⟨fun C1 C2 h1 h2 => by rw [hAe, hBe]; exact Mrg.join hw hsA hsB hAB1 hx1 hx2 h1 h2⟩
        obtain ⟨q1, q2, q12⟩ := List.pairwise_append.1 hsA
        obtain ⟨q3, q4, q34⟩ := List.pairwise_append.1 hsB
        have hrC : As ((∀ z ∈ A1 ++ B1, 0 ≤ z ∧ z < (N : Int)) ∧ (∀ z ∈ A2 ++ B2, 0 ≤ z ∧ z < (N : Int))) := ⟨fun z hz => hr z (by rw [hAe, hBe]; simp only [List.mem_append] at hz ⊢; rcases hz with hz | hz <;> simp [hz]), fun z hz => hr z (by rw [hAe, hBe]; simp only [List.mem_append] at hz ⊢; rcases hz with hz | hz <;> simp [hz])⟩
        have hcr1 : ∀ x ∈ A1, ∀ y ∈ B1, x < y := fun x hx y hy => hAB1 x (List.mem_append_left _ hx) y (List.mem_append_left _ hy)
        have hcr2 : ∀ x ∈ A2, ∀ y ∈ B2, x < y := fun x hx y hy => hAB1 x (List.mem_append_right _ hx) y (List.mem_append_right _ hy)
        have hplen : p.length + A.length + B.length + s.length = n := by rw [← hl, ← hll.out]; simp; omega
        have hlenA : A.length = A1.length + A2.length := by rw [hAe]; simp
        have hlenB : B.length = B1.length + B2.length := by rw [hBe]; simp
        have hwe : IntKind.i64.wrap ((nn : Int) - (i : Int)) = (en : Int) := by rw [show (nn : Int) - (i : Int) = (en : Int) by omega]; exact IntWalk.i64_in _ (by omega)
        -- the two calls of itself
        have R1 : As (0 < A1.length → 0 < B1.length → ∀ W, Below G w0 W → OwnI W G (.slice (some ⟨g, 0, none⟩) n cap) (p ++ A1 ++ B1 ++ (A2 ++ B2 ++ s)) → Calls Try.prog 110 #[.slice (some ⟨g, 0, none⟩) n cap, .int .i64 a, .int .i64 i, .int .i64 mid, lessG pb] W fun e w' => e = .returned (.tuple #[]) ∧ Below G w0 w' ∧ ∃ C, OwnI w' G (.slice (some ⟨g, 0, none⟩) n cap) (p ++ C ++ (A2 ++ B2 ++ s)) ∧ Mrg lt (A1 ++ B1) C) := ⟨fun h1 h2 W hW hO => HI.out W p A1 B1 (A2 ++ B2 ++ s) a i mid hW hO (by simp only [List.length_append]; omega) ha (by omega) (by omega) h1 h2 (by omega) q1 q3 hcr1 hrC.out.1⟩
        have R2 : As (0 < A2.length → 0 < B2.length → ∀ W C1, C1.length = mid - a → Below G w0 W → OwnI W G (.slice (some ⟨g, 0, none⟩) n cap) (p ++ C1 ++ A2 ++ B2 ++ s) → Calls Try.prog 110 #[.slice (some ⟨g, 0, none⟩) n cap, .int .i64 mid, .int .i64 en, .int .i64 b, lessG pb] W fun e w' => e = .returned (.tuple #[]) ∧ Below G w0 w' ∧ ∃ C, OwnI w' G (.slice (some ⟨g, 0, none⟩) n cap) (p ++ C1 ++ C ++ s) ∧ Mrg lt (A2 ++ B2) C) := ⟨fun h1 h2 W C1 hC1 hW hO => HI.out W (p ++ C1) A2 B2 s mid en b hW hO (by simp only [List.length_append]; omega) (by simp only [List.length_append]; omega) (by omega) (by omega) h1 h2 (by omega) q2 q4 hcr2 hrC.out.2⟩
        have hE1 : As (¬ (0 < A1.length ∧ 0 < B1.length) → Mrg lt (A1 ++ B1) (A1 ++ B1)) := ⟨fun h => by
          rcases Nat.eq_zero_or_pos A1.length with h0 | h0
          · rw [List.length_eq_zero_iff.1 h0]; simpa using Mrg.right q3
          · rw [List.length_eq_zero_iff.1 (show B1.length = 0 by omega)]; simpa using Mrg.left q1⟩
        have hE2 : As (¬ (0 < A2.length ∧ 0 < B2.length) → Mrg lt (A2 ++ B2) (A2 ++ B2)) := ⟨fun h => by
          rcases Nat.eq_zero_or_pos A2.length with h0 | h0
          · rw [List.length_eq_zero_iff.1 h0]; simpa using Mrg.right q4
          · rw [List.length_eq_zero_iff.1 (show B2.length = 0 by omega)]; simpa using Mrg.left q2⟩
        have hcl : As (∀ C1, Mrg lt (A1 ++ B1) C1 → C1.length = mid - a) := ⟨fun C1 h => by have := h.perm.length_eq; rw [this]; simp; omega⟩
        have hRo : As (0 < A2.length → 0 < B1.length → ∀ W, OwnI W G (.slice (some ⟨g, 0, none⟩) n cap) l → Calls Try.prog 133 #[.slice (some ⟨g, 0, none⟩) n cap, .int .i64 i, .int .i64 m, .int .i64 en, lessG pb] W fun e w' => e = .returned (.tuple #[]) ∧ Below G W w' ∧ OwnI w' G (.slice (some ⟨g, 0, none⟩) n cap) (p ++ A1 ++ B1 ++ (A2 ++ B2 ++ s))) := ⟨fun h1 h2 W hO => by
          rw [hll1] at hO
          refine (sl_rotate (p := p ++ A1) (X := A2) (Y := B1) (s := B2 ++ s) (a := i) (m := m) (b := en) hg hO (by rw [← hll1]; exact hl) (by simp; omega) (by simp; omega) (by simp; omega) h1 h2 hn).mono ?_
          rintro e w' ⟨h3, h4, h5⟩
          exact ⟨h3, h4, by simpa using h5⟩⟩
        have hNo : As (¬ (0 < A2.length ∧ 0 < B1.length) → l = p ++ A1 ++ B1 ++ (A2 ++ B2 ++ s)) := ⟨fun h => by
          rw [hll1]
          rcases Nat.eq_zero_or_pos A2.length with h0 | h0
          · rw [List.length_eq_zero_iff.1 h0]; simp
          · rw [List.length_eq_zero_iff.1 (show B1.length = 0 by omega)]; simp⟩
        have hi0 : ((i : Int) < (i : Int)) = False := eq_false (by omega)
        clear hI hx1 hx2 hsA hsB hAB1 hll1 q1 q2 q12 q3 q4 q34 hrC hcr1 hcr2 HI hA0 hB0 hAB hr hrl hll hl hAe hBe
        by_cases hq0 : i < m
        · have fim : ((i : Int) < (m : Int)) = True := eq_true (by omega)
          have fmen : ((m : Int) < (en : Int)) = True := eq_true (by omega)
          have fimid : ((i : Int) < (mid : Int)) = True := eq_true (by omega)
          have fmiden : ((mid : Int) < (en : Int)) = True := eq_true (by omega)
          by_cases hq1 : a < i
          · have fai : ((a : Int) < (i : Int)) = True := eq_true (by omega)
            by_cases hq2 : en < b
            · have feb : ((en : Int) < (b : Int)) = True := eq_true (by omega)
              have K1 := As.mk (hRo.out (by omega) (by omega) _ hO)
              go_wp2_with fail
              refine K1.out.mono ?_
              rintro e w1 ⟨rfl, hdr, hO1⟩
              have hd1 := hd.trans hdr
              clear K1 hdr
              have K2 := As.mk (R1.out (by omega) (by omega) _ hd1 hO1)
              go_wp2_with fail
              refine K2.out.mono ?_
              rintro e w2 ⟨rfl, hd2, C1, hO2, hM1⟩
              have hO2' : OwnI w2 G (.slice (some ⟨g, 0, none⟩) n cap) (p ++ C1 ++ A2 ++ B2 ++ s) := by simpa using hO2
              clear K2
              have K3 := As.mk (R2.out (by omega) (by omega) _ C1 (hcl.out _ hM1) hd2 hO2')
              go_wp2_with fail
              refine K3.out.mono ?_
              rintro e w3 ⟨rfl, hd3, C2, hO3, hM2⟩
              clear K3
              go_wp2_with fail
              go_end0
              exact ⟨rfl, hd3, C1 ++ C2, by simpa using hO3, hgoal.out _ _ hM1 hM2⟩
            · have feb : ((en : Int) < (b : Int)) = False := eq_false (by omega)
              have K1 := As.mk (hRo.out (by omega) (by omega) _ hO)
              go_wp2_with fail
              refine K1.out.mono ?_
              rintro e w1 ⟨rfl, hdr, hO1⟩
              have hd1 := hd.trans hdr
              clear K1 hdr
              have K2 := As.mk (R1.out (by omega) (by omega) _ hd1 hO1)
              go_wp2_with fail
              refine K2.out.mono ?_
              rintro e w2 ⟨rfl, hd2, C1, hO2, hM1⟩
              have hO2' : OwnI w2 G (.slice (some ⟨g, 0, none⟩) n cap) (p ++ C1 ++ A2 ++ B2 ++ s) := by simpa using hO2
              clear K2
              go_wp2_with fail
              have hM2 := hE2.out (by omega)
              go_end0
              exact ⟨rfl, hd2, C1 ++ (A2 ++ B2), by simpa using hO2', hgoal.out _ _ hM1 hM2⟩
          · have fai : ((a : Int) < (i : Int)) = False := eq_false (by omega)
            by_cases hq2 : en < b
            · have feb : ((en : Int) < (b : Int)) = True := eq_true (by omega)
              have K1 := As.mk (hRo.out (by omega) (by omega) _ hO)
              go_wp2_with fail
              refine K1.out.mono ?_
              rintro e w1 ⟨rfl, hdr, hO1⟩
              have hd1 := hd.trans hdr
              clear K1 hdr
              have hM1 := hE1.out (by omega)
              have hd2 := hd1
              have hO2' : OwnI w1 G (.slice (some ⟨g, 0, none⟩) n cap) (p ++ (A1 ++ B1) ++ A2 ++ B2 ++ s) := by simpa using hO1
              have K3 := As.mk (R2.out (by omega) (by omega) _ (A1 ++ B1) (hcl.out _ hM1) hd2 hO2')
              go_wp2_with fail
              refine K3.out.mono ?_
              rintro e w3 ⟨rfl, hd3, C2, hO3, hM2⟩
              clear K3
              go_wp2_with fail
              go_end0
              exact ⟨rfl, hd3, (A1 ++ B1) ++ C2, by simpa using hO3, hgoal.out _ _ hM1 hM2⟩
            · have feb : ((en : Int) < (b : Int)) = False := eq_false (by omega)
              have K1 := As.mk (hRo.out (by omega) (by omega) _ hO)
              go_wp2_with fail
              refine K1.out.mono ?_
              rintro e w1 ⟨rfl, hdr, hO1⟩
              have hd1 := hd.trans hdr
              clear K1 hdr
              have hM1 := hE1.out (by omega)
              have hd2 := hd1
              have hO2' : OwnI w1 G (.slice (some ⟨g, 0, none⟩) n cap) (p ++ (A1 ++ B1) ++ A2 ++ B2 ++ s) := by simpa using hO1
              go_wp2_with fail
              have hM2 := hE2.out (by omega)
              go_end0
              exact ⟨rfl, hd2, (A1 ++ B1) ++ (A2 ++ B2), by simpa using hO2', hgoal.out _ _ hM1 hM2⟩
        · have fim : ((i : Int) < (m : Int)) = False := eq_false (by omega)
          have fai : ((a : Int) < (i : Int)) = True := eq_true (by omega)
          have fmiden : ((mid : Int) < (en : Int)) = False := eq_false (by omega)
          by_cases hq1 : i < mid
          · have fimid : ((i : Int) < (mid : Int)) = True := eq_true (by omega)
            have hO1 := hO
            rw [hNo.out (by omega)] at hO1
            have hd1 := hd
            have K2 := As.mk (R1.out (by omega) (by omega) _ hd1 hO1)
            go_wp2_with fail
            refine K2.out.mono ?_
            rintro e w2 ⟨rfl, hd2, C1, hO2, hM1⟩
            have hO2' : OwnI w2 G (.slice (some ⟨g, 0, none⟩) n cap) (p ++ C1 ++ A2 ++ B2 ++ s) := by simpa using hO2
            clear K2
            go_wp2_with fail
            have hM2 := hE2.out (by omega)
            go_end0
            exact ⟨rfl, hd2, C1 ++ (A2 ++ B2), by simpa using hO2', hgoal.out _ _ hM1 hM2⟩
          · have fimid : ((i : Int) < (mid : Int)) = False := eq_false (by omega)
            have hO1 := hO
            rw [hNo.out (by omega)] at hO1
            have hd1 := hd
            have hM1 := hE1.out (by omega)
            have hd2 := hd1
            have hO2' : OwnI wr G (.slice (some ⟨g, 0, none⟩) n cap) (p ++ (A1 ++ B1) ++ A2 ++ B2 ++ s) := by simpa using hO1
            go_wp2_with fail
            have hM2 := hE2.out (by omega)
            go_end0
            exact ⟨rfl, hd2, (A1 ++ B1) ++ (A2 ++ B2), by simpa using hO2', hgoal.out _ _ hM1 hM2⟩
end Go.Proofs.Ytdbpjnjgjmfomaa

/- slices.symMerge, whole: two ordered stretches are merged, stably. -/
namespace Go.Proofs.Ytdbpjnjgjmfomaa
open Go.RowKit

theorem sl_sym {lt : Int → Int → Prop} (hw : SW lt) {w0 : World} {G g cap n N pb : Nat} (hG : G ≤ w0.heap.size) (hg : G ≤ g) (hn : n ≤ 200) (HC0 : LessC lt w0 G pb N) :
    ∀ (d : Nat) (W : World) (p A B s : List Int) (a m b : Nat), Below G w0 W → OwnI W G (.slice (some ⟨g, 0, none⟩) n cap) (p ++ A ++ B ++ s) → (p ++ A ++ B ++ s).length = n → p.length = a → a + A.length = m → m + B.length = b → 0 < A.length → 0 < B.length → A.length + B.length < d → Srt lt A → Srt lt B → (∀ x ∈ A, ∀ y ∈ B, x < y) → (∀ z ∈ A ++ B, 0 ≤ z ∧ z < (N : Int)) →
      Calls Try.prog 110 #[.slice (some ⟨g, 0, none⟩) n cap, .int .i64 a, .int .i64 m, .int .i64 b, lessG pb] W fun e w' => e = .returned (.tuple #[]) ∧ Below G w0 w' ∧ ∃ C, OwnI w' G (.slice (some ⟨g, 0, none⟩) n cap) (p ++ C ++ s) ∧ Mrg lt (A ++ B) C := by
  intro d
  induction d with
  | zero => intro W p A B s a m b _ _ _ _ _ _ _ _ h; omega
  | succ d ih =>
    intro W p A B s a m b hd hO hl ha hm hb hA hB hlt hsA hsB hAB hr
    by_cases h1 : A.length = 1
    · obtain ⟨x, rfl⟩ := List.length_eq_one_iff.1 h1
      have e : m = a + 1 := by simp at hm; omega
      subst e
      exact sl_sym_left hw hG hg hd hO hl hn ha hb hB hsB (fun y hy => hAB x (by simp) y hy) hr HC0
    · by_cases h2 : B.length = 1
      · obtain ⟨y, rfl⟩ := List.length_eq_one_iff.1 h2
        exact sl_sym_right hw hG hg hd hO hl hn ha hm (by simpa using hb) (by omega) hsA (fun x hx => hAB x hx y (by simp)) hr HC0
      · exact sl_sym_step hw hG hg hn HC0 (As.mk ih) hd hO hl ha hm hb (by omega) (by omega) (by omega) hsA hsB hAB hr
end Go.Proofs.Ytdbpjnjgjmfomaa

/- slices.insertionSort over a stretch of indexes. -/
namespace Go.Proofs.Ytdbpjnjgjmfomaa
open Go.RowKit

set_option maxHeartbeats 16000000 in
set_option maxRecDepth 100000 in
theorem sl_ins {lt : Int → Int → Prop} (hw : SW lt) {w0 w : World} {G g cap n N pb a b : Nat} {p M s : List Int} (hG : G ≤ w0.heap.size) (hg : G ≤ g) (hn : n ≤ 200) (HC0 : LessC lt w0 G pb N)
    (hd0 : Below G w0 w) (hO0 : OwnI w G (.slice (some ⟨g, 0, none⟩) n cap) (p ++ M ++ s)) (hl : (p ++ M ++ s).length = n) (ha : p.length = a) (hb : a + M.length = b) (hM : M.Pairwise (· < ·)) (hr : ∀ z ∈ M, 0 ≤ z ∧ z < (N : Int)) :
    Calls Try.prog 109 #[.slice (some ⟨g, 0, none⟩) n cap, .int .i64 a, .int .i64 b, lessG pb] w fun e w' => e = .returned (.tuple #[]) ∧ Below G w0 w' ∧ ∃ C, OwnI w' G (.slice (some ⟨g, 0, none⟩) n cap) (p ++ C ++ s) ∧ Mrg lt M C := by
  have HC := As.mk HC0
  have hkG : ∀ {W W' : World}, Below G w0 W → Below W.heap.size W W' → Below G w0 W' := fun h hb => below_own hG h hb
  have hln : p.length + M.length + s.length = n := by rw [← hl]; simp; omega
  obtain ⟨a1, ha1⟩ : ∃ a1, a + 1 = a1 := ⟨_, rfl⟩
  have hw1 : IntKind.i64.wrap ((a : Int) + 1) = (a1 : Int) := by rw [show (a : Int) + 1 = (a1 : Int) by omega]; exact IntWalk.i64_in _ (by omega)
  have hst : As (∃ Q D R : List Int, p ++ M ++ s = p ++ D ++ R ++ s ∧ M = Q ++ R ∧ Mrg lt Q D ∧ (a1 = a + Q.length ∨ (a1 = a + 1 ∧ M = [] ∧ Q = []))) := by
    cases M with
    | nil => exact ⟨[], [], [], by simp, rfl, ⟨List.Perm.refl _, List.Pairwise.nil⟩, .inr ⟨ha1.symm, rfl, rfl⟩⟩
    | cons x M => exact ⟨[x], [x], M, by simp, by simp, ⟨List.Perm.refl _, by simp⟩, .inl (by simp; omega)⟩
  obtain ⟨l, hll⟩ : ∃ l, p ++ M ++ s = l := ⟨_, rfl⟩
  rw [hll] at hO0 hl hst
  have ha11 : a < a1 ∧ a1 ≤ a + 1 := by omega
  replace ha1 := As.mk ha1
  replace hb := As.mk hb
  have hb1 : a + M.length ≤ b ∧ b ≤ a + M.length := by have := hb.out; omega
  clear hll
  go_enter Try.func109, Try.ntmps109
  go_wp2_with fail
  go_loopw [8, 9] (fun v8 _ wr => ∃ (i : Nat) (l' : List Int), a < i ∧ i ≤ b + 1 ∧ v8 = .int .i64 i ∧ Below G w0 wr ∧ OwnI wr G (.slice (some ⟨g, 0, none⟩) n cap) l' ∧ As (∃ Q D R : List Int, l' = p ++ D ++ R ++ s ∧ M = Q ++ R ∧ Mrg lt Q D ∧ (i = a + Q.length ∨ (i = a + 1 ∧ M = [] ∧ Q = [])))) (fun v8 _ _ => (b - intOf v8).toNat)
  case atStart => exact ⟨a1, l, by omega, by omega, by first | rfl | rw [hw1], hd0, hO0, hst⟩
  case round =>
    clear hO0 hd0 hst hl
    obtain ⟨i, l, hai, hib, rfl, hd, hO, hI⟩ := hrel
    obtain ⟨Q, D, R, hle, hMe, hD, hiQ⟩ := hI.out
    clear hI
    by_cases hlt : i < b
    · have hiQ : i = a + Q.length := by
        rcases hiQ with h | ⟨h, h2, h3⟩
        · exact h
        · rw [h2] at hb1; simp at hb1; omega
      have bi : ((i : Int) < (b : Int)) = True := eq_true (by omega)
      cases R with
      | nil => rw [hMe] at hb1; simp at hb1; omega
      | cons x R =>
        have hDl : D.length = Q.length := hD.perm.length_eq
        have hMl : M.length = Q.length + 1 + R.length := by rw [hMe]; simp; omega
        obtain ⟨hM1, hM2, hM12⟩ := List.pairwise_append.1 (hMe ▸ hM)
        have hxD : As (∀ z ∈ D, z < x) := ⟨fun z hz => hM12 z (hD.perm.mem_iff.1 hz) x (by simp)⟩
        have hxr : 0 ≤ x ∧ x < (N : Int) := hr x (by rw [hMe]; simp)
        have hDr : As (∀ z ∈ D, 0 ≤ z ∧ z < (N : Int)) := ⟨fun z hz => hr z (by rw [hMe]; exact List.mem_append_left _ (hD.perm.mem_iff.1 hz))⟩
        have hsD := As.mk hD.srt
        have hpD := As.mk hD.perm
        have hle0 : As (l = p ++ (D ++ [x] ++ []) ++ R ++ s) := ⟨by rw [hle]; simp⟩
        have hiD : i ≤ a + D.length ∧ a + D.length ≤ i := by omega
        have hMe' := As.mk hMe
        clear hM1 hM2 hM12 hle hD hiQ
        go_wp2_with fail
        go_loopw [9] (fun v9 wr => ∃ (j : Nat) (l' Dn Up : List Int), a ≤ j ∧ j ≤ i ∧ v9 = .int .i64 j ∧ Below G w0 wr ∧ OwnI wr G (.slice (some ⟨g, 0, none⟩) n cap) l' ∧ As (l' = p ++ (Dn ++ [x] ++ Up) ++ R ++ s ∧ D = Dn ++ Up ∧ a + Dn.length = j ∧ ∀ v, Up.head? = some v → lt x v)) (fun v9 _ => (intOf v9).toNat)
        case atStart => exact ⟨i, l, D, [], by omega, by omega, rfl, hd, hO, ⟨hle0.out, by simp, by omega, by simp⟩⟩
        case round =>
          clear hO hd hle0
          rename World => wq
          obtain ⟨j, l, Dn, Up, haj, hji, rfl, hd, hO, hI⟩ := hrel
          obtain ⟨hle, hDe, hDj, hUp⟩ := hI.out
          clear hI
          -- what holds where the new one has come to its place
          have hdone : As ((∀ u, Dn.getLast? = some u → ¬ lt x u) → ∃ Q' D' R' : List Int, l = p ++ D' ++ R' ++ s ∧ M = Q' ++ R' ∧ Mrg lt Q' D' ∧ (i + 1 = a + Q'.length ∨ (i + 1 = a + 1 ∧ M = [] ∧ Q' = []))) := ⟨fun h => by
            have hE := Mrg.eno hw (y := x) (A1 := Dn) (A2 := Up) (by rw [← hDe]; exact hsD.out) (by rw [← hDe]; exact hxD.out) h hUp
            refine ⟨Q ++ [x], Dn ++ [x] ++ Up, R, hle, by rw [hMe'.out]; simp, ⟨hE.perm.trans ?_, hE.srt⟩, .inl (by simp; omega)⟩
            rw [← hDe]
            exact hpD.out.append_right _⟩
          by_cases hj0 : j = a
          · have hDn : Dn = [] := List.length_eq_zero_iff.1 (by omega)
            have hdn := As.mk (hdone.out (by rw [hDn]; simp))
            have bj : ((a : Int) < (j : Int)) = False := eq_false (by omega)
            have bjn : (a < j) = False := eq_false (by omega)
            have hd' := As.mk (fun m => hd.drewsN m)
            have hO' := As.mk (fun m => hO.drewN m)
            clear hdone hUp hDe hle hDn hO hd
            go_wp2_with fail
            go_quiet (fail)
            go_wp2_with fail
            go_roundw
            case rel => exact ⟨i + 1, l, by omega, by omega, by go_num, hd'.out _, hO'.out _, hdn⟩
            case measure => simp [intOf]; omega
          · rcases List.eq_nil_or_concat Dn with hU | ⟨Dn', y, hU⟩
            · subst hU; simp at hDj; omega
            · subst hU
              obtain ⟨k, hk⟩ : ∃ k, j - 1 = k := ⟨_, rfl⟩
              simp at hDj
              have hDlen : D.length = Dn'.length + 1 + Up.length := by rw [hDe]; simp; omega
              have hlen : l.length = p.length + Dn'.length + 1 + 1 + Up.length + R.length + s.length := by rw [hle]; simp; omega
              have hP : (p ++ Dn').length = k := by simp; omega
              have hk1 : k + 1 = j := by omega
              have hsw := swap_app' (p ++ Dn') y x (Up ++ R ++ s)
              have hle2 : l = (p ++ Dn') ++ [y] ++ [x] ++ (Up ++ R ++ s) := by rw [hle]; simp
              rw [← hle2, hP, hk1] at hsw
              have hgy := mid_x (p ++ Dn') y x (Up ++ R ++ s)
              have hgx := mid_y (p ++ Dn') y x (Up ++ R ++ s)
              rw [← hle2, hP] at hgy
              rw [← hle2, hP, hk1] at hgx
              have hjn : j < n := by omega
              have hkn : k < n := by omega
              have hjl : j < l.length := by omega
              have hkl : k < l.length := by omega
              replace hlen := As.mk hlen
              obtain ⟨hcy, hfy⟩ := hO.cell j (by omega)
              obtain ⟨hcx, hfx⟩ := hO.cell k (by omega)
              obtain ⟨Y, hY⟩ : ∃ Y, Y = x := ⟨_, rfl⟩
              obtain ⟨X, hX⟩ : ∃ X, X = y := ⟨_, rfl⟩
              rw [hgx, ← hY] at hcy
              rw [hgy, ← hX] at hcx
              obtain ⟨hY0, hY1⟩ : 0 ≤ Y ∧ Y < (N : Int) := by rw [hY]; exact hxr
              obtain ⟨hX0, hX1⟩ : 0 ≤ X ∧ X < (N : Int) := by rw [hX]; exact hDr.out y (by rw [hDe]; simp)
              have hgY : l.getD j 0 = Y := by rw [hY]; exact hgx
              have hgX : l.getD k 0 = X := by rw [hX]; exact hgy
              have hw3 : IntKind.i64.wrap ((j : Int) - 1) = (k : Int) := by rw [show (j : Int) - 1 = (k : Int) by omega]; exact IntWalk.i64_in _ (by omega)
              have bj : ((a : Int) < (j : Int)) = True := eq_true (by omega)
              have bjn : (a < j) = True := eq_true (by omega)
              have bj1 : ((j : Int) < (n : Int)) = True := eq_true (by omega)
              have bj0 : (0 ≤ (j : Int)) = True := eq_true (by omega)
              have bk1 : ((k : Int) < (n : Int)) = True := eq_true (by omega)
              have bk0 : (0 ≤ (k : Int)) = True := eq_true (by omega)
              have hak : a ≤ k := by omega
              have hki : k ≤ i := by omega
              by_cases hyx : lt Y X
              · have hI1 : As ((l.set j X).set k Y = p ++ (Dn' ++ [x] ++ (y :: Up)) ++ R ++ s ∧ D = Dn' ++ (y :: Up) ∧ a + Dn'.length = k ∧ ∀ v, (y :: Up).head? = some v → lt x v) := ⟨by rw [hX, hY, hsw]; simp, by rw [hDe]; simp, by omega, fun v hv => by simp at hv; subst hv; rw [← hX, ← hY]; exact hyx⟩
                replace hk := As.mk hk
                replace hY := As.mk hY
                replace hX := As.mk hX
                replace hgY := As.mk hgY
                replace hgX := As.mk hgX
                clear hdone hUp hDe hle hle2 hsw hgx hgy hDj hDlen hP hDr hxr hr hsD hpD hxD hMe hMe'
                go_wp2_with fail
                go_region_held3 (fun w' => w'.cell? ⟨g, j, none⟩ = some (.int .i64 Y) ∧ w'.cell? ⟨g, k, none⟩ = some (.int .i64 X) ∧ Below G w0 w' ∧ OwnI w' G (.slice (some ⟨g, 0, none⟩) n cap) l)
                  ((first
                    | with_reducible exact (keep_p cell_below (keep_p cell_below (keep_p hkG (OwnI.below)))) ⟨hcy, hcx, hd, hO⟩ (below_drew _)
                    | with_reducible exact (keep_p cell_below (keep_p cell_below (keep_p hkG (OwnI.below)))) (by with_reducible assumption) (below_drew _)
                    | with_reducible exact (keep_p cell_below (keep_p cell_below (keep_p hkG (OwnI.below)))) (by with_reducible assumption) (by with_reducible assumption)))
                  (first
                    | (go_at_call 44; obtain ⟨_, _, hG1, hO1⟩ := ‹(_ = some _) ∧ (_ = some _) ∧ Below _ _ _ ∧ OwnI _ _ _ _›; refine (HC.out _ hG1 Y X hY0 hY1 hX0 hX1).mono ?_; rintro e w9 ⟨sg, rfl, hsg, hb⟩; have hs0 : (sg < 0) = True := eq_true (hsg.2 hyx); clear hsg; have hd9 := below_own hG hG1 hb; have hO9 := hO1.below hb))
                all_goals
                  clear hcx hfx hcy hfy hO hd
                  have hO := hO9
                  have hd := hd9
                  clear hO9 hd9
                  have jn' : j < n := by omega
                  have kn' : k < n := by omega
                  have hne1 : j ≠ k := by omega
                  have hne2 : k ≠ j := by omega
                  obtain ⟨hcx, hfx⟩ := hO.cell j (by omega)
                  obtain ⟨hcy, hfy⟩ := hO.cell k (by omega)
                  have hdr := (Below.refl w9.heap.size w9).drew
                  obtain ⟨hcx', hfx'⟩ := (hO.below hdr).cell j (by omega)
                  obtain ⟨hcy', hfy'⟩ := (hO.below hdr).cell k (by omega)
                  rw [hgY.out] at hcx hcx'
                  rw [hgX.out] at hcy hcy'
                  have hO1 : As (OwnI ((w9.setCell ⟨g, j, none⟩ (.int .i64 X)).setCell ⟨g, k, none⟩ (.int .i64 Y)).drew G (.slice (some ⟨g, 0, none⟩) n cap) ((l.set j X).set k Y)) := ⟨((hO.store j X).store k Y).below (Below.refl _ _).drew⟩
                  have hd1 : As (Below G w0 ((w9.setCell ⟨g, j, none⟩ (.int .i64 X)).setCell ⟨g, k, none⟩ (.int .i64 Y)).drew) := ⟨((hd.setCell (by exact hg) _).setCell (by exact hg) _).drew⟩
                  clear hdr
                  clear hO hd
                  go_wp2_with fail
                  go_region
                  all_goals
                    go_wp2_with fail
                    go_roundw
                    case rel => exact ⟨k, (l.set j X).set k Y, Dn', y :: Up, hak, hki, by first | rfl | go_num, hd1.out, hO1.out, hI1⟩
                    case measure => have := hk.out; simp [intOf]; omega
              · have hdn := As.mk (hdone.out (fun u hu => by simp at hu; subst hu; rw [← hX, ← hY]; exact hyx))
                replace hk := As.mk hk
                replace hY := As.mk hY
                replace hX := As.mk hX
                clear hdone hUp hDe hle hle2 hsw hgx hgy hDj hDlen hP hDr hxr hsD hpD hxD hgY hgX hMe hMe'
                go_wp2_with fail
                go_region_held3 (fun w' => w'.cell? ⟨g, j, none⟩ = some (.int .i64 Y) ∧ w'.cell? ⟨g, k, none⟩ = some (.int .i64 X) ∧ Below G w0 w' ∧ OwnI w' G (.slice (some ⟨g, 0, none⟩) n cap) l)
                  ((first
                    | with_reducible exact (keep_p cell_below (keep_p cell_below (keep_p hkG (OwnI.below)))) ⟨hcy, hcx, hd, hO⟩ (below_drew _)
                    | with_reducible exact (keep_p cell_below (keep_p cell_below (keep_p hkG (OwnI.below)))) (by with_reducible assumption) (below_drew _)
                    | with_reducible exact (keep_p cell_below (keep_p cell_below (keep_p hkG (OwnI.below)))) (by with_reducible assumption) (by with_reducible assumption)))
                  (first
                    | (go_at_call 44; obtain ⟨_, _, hG1, hO1⟩ := ‹(_ = some _) ∧ (_ = some _) ∧ Below _ _ _ ∧ OwnI _ _ _ _›; refine (HC.out _ hG1 Y X hY0 hY1 hX0 hX1).mono ?_; rintro e w9 ⟨sg, rfl, hsg, hb⟩; have hs0 : (sg < 0) = False := eq_false (fun e => hyx (hsg.1 e)); clear hsg; have hd9 := below_own hG hG1 hb; have hO9 := hO1.below hb))
                all_goals
                  go_wp2_with fail
                  go_roundw
                  case rel => exact ⟨i + 1, l, by omega, by omega, by go_num, hd9, hO9, hdn⟩
                  case measure => simp [intOf]; omega
    · have bi : ((i : Int) < (b : Int)) = False := eq_false (by omega)
      have hfin : As (∃ C, l = p ++ C ++ s ∧ Mrg lt M C) := ⟨by
        have hR : R = [] := by
          rcases hiQ with h | ⟨h, h2, h3⟩
          · have : M.length = Q.length + R.length := by rw [hMe]; simp
            exact List.length_eq_zero_iff.1 (by omega)
          · rw [h2, h3] at hMe; simpa using hMe.symm
        subst hR
        exact ⟨D, by rw [hle]; simp, by rw [hMe]; simpa using hD⟩⟩
      obtain ⟨C, hC, hMC⟩ := hfin.out
      rw [hC] at hO
      have hMC' := As.mk hMC
      clear hfin hC hMC hle hMe hD hiQ
      go_wp2_with fail
      go_end0
      exact ⟨rfl, hd, C, hO, hMC'.out⟩
end Go.Proofs.Ytdbpjnjgjmfomaa

/- slices.SortStableFunc over at most 40 indexes, by classical.Groups' closure: stable. -/
namespace Go.Proofs.Ytdbpjnjgjmfomaa
open Go.RowKit

set_option maxHeartbeats 16000000 in
set_option maxRecDepth 100000 in
theorem sl_stableG {lt : Int → Int → Prop} (hw : SW lt) {w0 : World} {G g cap n N pb : Nat} {M : List Int} (hG : G ≤ w0.heap.size) (hg : G ≤ g) (hn : n ≤ 40) (HC0 : LessC lt w0 G pb N)
    (hO0 : OwnI w0 G (.slice (some ⟨g, 0, none⟩) n cap) M) (hl : M.length = n) (hM : M.Pairwise (· < ·)) (hr : ∀ z ∈ M, 0 ≤ z ∧ z < (N : Int)) :
    Calls Try.prog 80 #[.slice (some ⟨g, 0, none⟩) n cap, .int .i64 n, lessG pb] w0 fun e w' => e = .returned (.tuple #[]) ∧ Below G w0 w' ∧ ∃ C, OwnI w' G (.slice (some ⟨g, 0, none⟩) n cap) C ∧ Mrg lt M C := by
  -- insertion of a block, the merge
  have HI : As (∀ (W : World) (p B s : List Int) (a b : Nat), Below G w0 W → OwnI W G (.slice (some ⟨g, 0, none⟩) n cap) (p ++ B ++ s) → (p ++ B ++ s).length = n → p.length = a → a + B.length = b → B.Pairwise (· < ·) → (∀ z ∈ B, 0 ≤ z ∧ z < (N : Int)) → Calls Try.prog 109 #[.slice (some ⟨g, 0, none⟩) n cap, .int .i64 a, .int .i64 b, lessG pb] W fun e w' => e = .returned (.tuple #[]) ∧ Below G w0 w' ∧ ∃ C, OwnI w' G (.slice (some ⟨g, 0, none⟩) n cap) (p ++ C ++ s) ∧ Mrg lt B C) :=
    ⟨fun W p B s a b hd hO hlen ha hb hB hrB => sl_ins hw hG hg (by omega) HC0 hd hO hlen ha hb hB hrB⟩
  obtain ⟨M1, hM1⟩ : ∃ M1, M.take 20 = M1 := ⟨_, rfl⟩
  obtain ⟨M2, hM2⟩ : ∃ M2, M.drop 20 = M2 := ⟨_, rfl⟩
  have hMe : M = M1 ++ M2 := by rw [← hM1, ← hM2]; exact (List.take_append_drop _ _).symm
  have hl1 : M1.length = min 20 n := by rw [← hM1, List.length_take, hl]
  have hl2 : M2.length = n - 20 := by rw [← hM2, List.length_drop, hl]
  rw [hMe] at hM
  obtain ⟨hp1, hp2, hp12⟩ := List.pairwise_append.1 hM
  have hr1 : ∀ z ∈ M1, 0 ≤ z ∧ z < (N : Int) := fun z hz => hr z (by rw [hMe]; exact List.mem_append_left _ hz)
  have hr2 : ∀ z ∈ M2, 0 ≤ z ∧ z < (N : Int) := fun z hz => hr z (by rw [hMe]; exact List.mem_append_right _ hz)
  -- what the merge of both sorted blocks gives
  have HS : As (20 < n → ∀ (W : World) (C1 C2 : List Int), Mrg lt M1 C1 → Mrg lt M2 C2 → Below G w0 W → OwnI W G (.slice (some ⟨g, 0, none⟩) n cap) (C1 ++ C2) → Calls Try.prog 110 #[.slice (some ⟨g, 0, none⟩) n cap, .int .i64 0, .int .i64 20, .int .i64 n, lessG pb] W fun e w' => e = .returned (.tuple #[]) ∧ Below G w0 w' ∧ ∃ C, OwnI w' G (.slice (some ⟨g, 0, none⟩) n cap) C ∧ Mrg lt M C) := ⟨fun h20 W C1 C2 h1 h2 hd hO => by
    have e1 := h1.perm.length_eq
    have e2 := h2.perm.length_eq
    have := sl_sym hw hG hg (by omega : n ≤ 200) HC0 41 W [] C1 C2 [] 0 20 n hd (by simpa using hO) (by simp; omega) rfl (by omega) (by omega) (by omega) (by omega) (by omega) h1.srt h2.srt (fun x hx y hy => hp12 x (h1.perm.mem_iff.1 hx) y (h2.perm.mem_iff.1 hy)) (fun z hz => by
      rcases List.mem_append.1 hz with hz | hz
      · exact hr1 z (h1.perm.mem_iff.1 hz)
      · exact hr2 z (h2.perm.mem_iff.1 hz))
    refine this.mono ?_
    rintro e w' ⟨he, hd', C, hO', hC⟩
    refine ⟨he, hd', C, by simpa using hO', ⟨?_, hC.srt⟩⟩
    rw [hMe]
    exact hC.perm.trans (h1.perm.append h2.perm)⟩
  -- the blocks
  have HB1 : As (20 ≤ n → Calls Try.prog 109 #[.slice (some ⟨g, 0, none⟩) n cap, .int .i64 0, .int .i64 20, lessG pb] w0 fun e w' => e = .returned (.tuple #[]) ∧ Below G w0 w' ∧ ∃ C, OwnI w' G (.slice (some ⟨g, 0, none⟩) n cap) (C ++ M2) ∧ Mrg lt M1 C) := ⟨fun h20 => by
    have := HI.out w0 [] M1 M2 0 20 (Below.refl _ _) (by simpa [← hMe] using hO0) (by simp; omega) rfl (by omega) hp1 hr1
    refine this.mono ?_
    rintro e w' ⟨he, hd', C, hO', hC⟩
    exact ⟨he, hd', C, by simpa using hO', hC⟩⟩
  have HB2 : As (20 ≤ n → ∀ (W : World) (C1 : List Int), Mrg lt M1 C1 → Below G w0 W → OwnI W G (.slice (some ⟨g, 0, none⟩) n cap) (C1 ++ M2) → Calls Try.prog 109 #[.slice (some ⟨g, 0, none⟩) n cap, .int .i64 20, .int .i64 n, lessG pb] W fun e w' => e = .returned (.tuple #[]) ∧ Below G w0 w' ∧ ∃ C, OwnI w' G (.slice (some ⟨g, 0, none⟩) n cap) (C1 ++ C) ∧ Mrg lt M2 C) := ⟨fun h20 W C1 h1 hd hO => by
    have e1 := h1.perm.length_eq
    have := HI.out W C1 M2 [] 20 n hd (by simpa using hO) (by simp; omega) (by omega) (by omega) hp2 hr2
    refine this.mono ?_
    rintro e w' ⟨he, hd', C, hO', hC⟩
    exact ⟨he, hd', C, by simpa using hO', hC⟩⟩
  have HB0 : As (n < 20 → Calls Try.prog 109 #[.slice (some ⟨g, 0, none⟩) n cap, .int .i64 0, .int .i64 n, lessG pb] w0 fun e w' => e = .returned (.tuple #[]) ∧ Below G w0 w' ∧ ∃ C, OwnI w' G (.slice (some ⟨g, 0, none⟩) n cap) C ∧ Mrg lt M C) := ⟨fun h20 => by
    have := HI.out w0 [] M [] 0 n (Below.refl _ _) (by simpa using hO0) (by simp; omega) rfl (by omega) (by rw [hMe]; exact hM) hr
    refine this.mono ?_
    rintro e w' ⟨he, hd', C, hO', hC⟩
    exact ⟨he, hd', C, by simpa using hO', hC⟩⟩
  have HB3 : As (n = 40 → ∀ (W : World) (C1 C2 : List Int), Mrg lt M1 C1 → Mrg lt M2 C2 → Below G w0 W → OwnI W G (.slice (some ⟨g, 0, none⟩) n cap) (C1 ++ C2) → Calls Try.prog 109 #[.slice (some ⟨g, 0, none⟩) n cap, .int .i64 40, .int .i64 n, lessG pb] W fun e w' => e = .returned (.tuple #[]) ∧ Below G w0 w' ∧ OwnI w' G (.slice (some ⟨g, 0, none⟩) n cap) (C1 ++ C2)) := ⟨fun h40 W C1 C2 h1 h2 hd hO => by
    have e1 := h1.perm.length_eq
    have e2 := h2.perm.length_eq
    have := HI.out W (C1 ++ C2) [] [] 40 n hd (by simpa using hO) (by simp; omega) (by simp; omega) (by simp; omega) List.Pairwise.nil (by simp)
    refine this.mono ?_
    rintro e w' ⟨he, hd', C, hO', hC⟩
    have hC0 : C = [] := List.length_eq_zero_iff.1 (by have := hC.perm.length_eq; simpa using this)
    subst hC0
    exact ⟨he, hd', by simpa using hO'⟩⟩
  have hjoin : As (n = 20 → ∀ C1 C2, Mrg lt M1 C1 → Mrg lt M2 C2 → Mrg lt M (C1 ++ C2)) := ⟨fun h20 C1 C2 h1 h2 => by
    have hM20 : M2 = [] := List.length_eq_zero_iff.1 (by omega)
    have hC0 : C2 = [] := List.length_eq_zero_iff.1 (by rw [h2.perm.length_eq, hM20]; rfl)
    rw [hMe, hM20, hC0]
    simpa using h1⟩
  clear HI hp1 hp2 hp12 hr1 hr2 hr hM hMe hM1 hM2 hl1 hl2 hO0 hl HC0
  go_enter Try.func80, Try.ntmps80
  go_wp2_with fail
  by_cases h20 : n < 20
  · have b1 : (20 ≤ (n : Int)) = False := eq_false (by omega)
    have b2 : (20 < (n : Int)) = False := eq_false (by omega)
    have K := As.mk (HB0.out h20)
    clear HB0 HB1 HB2 HB3 HS hjoin
    go_loopw [7, 8] (fun v7 v8 wr => v7 = .int .i64 0 ∧ v8 = .int .i64 20 ∧ wr = w0) (fun _ _ _ => 0)
    case atStart => exact ⟨rfl, rfl, rfl⟩
    case round =>
      obtain ⟨rfl, rfl, rfl⟩ := hrel
      go_wp2_with fail
      refine K.out.mono ?_
      rintro e w1 ⟨rfl, hB, hC⟩
      clear K
      go_wp2_with fail
      go_loopw [6, 7, 8, 9] (fun v6 _ _ _ W => v6 = .int .i64 20 ∧ W = w1) (fun _ _ _ _ _ => 0)
      case atStart => exact ⟨rfl, rfl⟩
      case round =>
        obtain ⟨rfl, rfl⟩ := hrel
        go_wp2_with fail
        go_end0
        exact ⟨rfl, hB, hC⟩
  · have b20 : (20 ≤ (n : Int)) = True := eq_true (by omega)
    have K1 := As.mk (HB1.out (by omega))
    have K2 := As.mk (HB2.out (by omega))
    clear HB0 HB1 HB2
    by_cases h40 : n = 40
    · have hnn : ((n : Nat) : Int) = 40 := by omega
      have K2' : As (∀ (W : World) (C1 : List Int), Mrg lt M1 C1 → Below G w0 W → OwnI W G (.slice (some ⟨g, 0, none⟩) n cap) (C1 ++ M2) → Calls Try.prog 109 #[.slice (some ⟨g, 0, none⟩) n cap, .int .i64 20, .int .i64 40, lessG pb] W fun e w' => e = .returned (.tuple #[]) ∧ Below G w0 w' ∧ ∃ C, OwnI w' G (.slice (some ⟨g, 0, none⟩) n cap) (C1 ++ C) ∧ Mrg lt M2 C) := ⟨by rw [← hnn]; exact K2.out⟩
      have K3 := As.mk (HB3.out h40)
      have K4 : As (∀ (W : World) (C1 C2 : List Int), Mrg lt M1 C1 → Mrg lt M2 C2 → Below G w0 W → OwnI W G (.slice (some ⟨g, 0, none⟩) n cap) (C1 ++ C2) → Calls Try.prog 110 #[.slice (some ⟨g, 0, none⟩) n cap, .int .i64 0, .int .i64 20, .int .i64 40, lessG pb] W fun e w' => e = .returned (.tuple #[]) ∧ Below G w0 w' ∧ ∃ C, OwnI w' G (.slice (some ⟨g, 0, none⟩) n cap) C ∧ Mrg lt M C) := ⟨by rw [← hnn]; exact HS.out (by omega)⟩
      have c40 : (40 ≤ (n : Int)) = True := eq_true (by omega)
      have c60 : (60 ≤ (n : Int)) = False := eq_false (by omega)
      have c80 : (80 ≤ (n : Int)) = False := eq_false (by omega)
      have d20 : (20 < (n : Int)) = True := eq_true (by omega)
      have d40 : (40 < (n : Int)) = False := eq_false (by omega)
      have d60 : (60 < (n : Int)) = False := eq_false (by omega)
      clear K2 HB3 HS hjoin
      replace hnn := As.mk hnn
      replace h40 := As.mk h40
      go_loopw [7, 8] (fun v7 v8 wr => (v7 = .int .i64 0 ∧ v8 = .int .i64 20 ∧ wr = w0) ∨ (v7 = .int .i64 20 ∧ v8 = .int .i64 40 ∧ Below G w0 wr ∧ ∃ C1, OwnI wr G (.slice (some ⟨g, 0, none⟩) n cap) (C1 ++ M2) ∧ Mrg lt M1 C1) ∨ (v7 = .int .i64 40 ∧ v8 = .int .i64 60 ∧ Below G w0 wr ∧ ∃ C1 C2, OwnI wr G (.slice (some ⟨g, 0, none⟩) n cap) (C1 ++ C2) ∧ Mrg lt M1 C1 ∧ Mrg lt M2 C2)) (fun _ v8 _ => (60 - intOf v8).toNat)
      case atStart => exact .inl ⟨rfl, rfl, rfl⟩
      case round =>
        rcases hrel with ⟨rfl, rfl, rfl⟩ | ⟨rfl, rfl, hB, C1, hO, h1⟩ | ⟨rfl, rfl, hB, C1, C2, hO, h1, h2⟩
        · go_wp2_with fail
          refine K1.out.mono ?_
          rintro e w1 ⟨rfl, hB, C1, hO, h1⟩
          clear K1
          go_wp2_with fail
          go_roundw
          case rel => exact .inr (.inl ⟨rfl, rfl, hB, C1, hO, h1⟩)
          case measure => simp [intOf]
        · have K := As.mk (K2'.out wr C1 h1 hB hO)
          clear K1 K2' hO hB
          go_wp2_with fail
          refine K.out.mono ?_
          rintro e w1 ⟨rfl, hB, C2, hO, h2⟩
          clear K
          go_wp2_with fail
          go_roundw
          case rel => exact .inr (.inr ⟨rfl, rfl, hB, C1, C2, hO, h1, h2⟩)
          case measure => simp [intOf]
        · have K := As.mk (K3.out wr C1 C2 h1 h2 hB hO)
          clear K1 K2' K3 hO hB
          go_wp2_with fail
          refine K.out.mono ?_
          rintro e w1 ⟨rfl, hB, hO⟩
          clear K
          go_wp2_with fail
          go_loopw [6, 7, 8, 9] (fun v6 _ _ _ W => (v6 = .int .i64 20 ∧ W = w1) ∨ (v6 = .int .i64 40 ∧ Below G w0 W ∧ ∃ C, OwnI W G (.slice (some ⟨g, 0, none⟩) n cap) C ∧ Mrg lt M C)) (fun v6 _ _ _ _ => (40 - intOf v6).toNat)
          case atStart => exact .inl ⟨rfl, rfl⟩
          case round =>
            rcases hrel with ⟨rfl, rfl⟩ | ⟨rfl, hB, C, hO, hC⟩
            · rename World => w2
              have K := As.mk (K4.out _ C1 C2 h1 h2 hB hO)
              clear K4
              go_wp2_with fail
              go_loopw [7, 8] (fun v7 v8 W => (v7 = .int .i64 0 ∧ v8 = .int .i64 40 ∧ W = w2) ∨ (v7 = .int .i64 40 ∧ v8 = .int .i64 80 ∧ Below G w0 W ∧ ∃ C, OwnI W G (.slice (some ⟨g, 0, none⟩) n cap) C ∧ Mrg lt M C)) (fun _ v8 _ => (80 - intOf v8).toNat)
              case atStart => exact .inl ⟨rfl, rfl, rfl⟩
              case round =>
                rcases hrel with ⟨rfl, rfl, rfl⟩ | ⟨rfl, rfl, hB, C, hO, hC⟩
                · go_wp2_with fail
                  refine K.out.mono ?_
                  rintro e w3 ⟨rfl, hB, C, hO, hC⟩
                  clear K
                  go_wp2_with fail
                  go_roundw
                  case rel => exact .inr ⟨rfl, rfl, hB, C, hO, hC⟩
                  case measure => simp [intOf]
                · clear K
                  go_wp2_with fail
                  go_roundw
                  case rel => exact .inr ⟨rfl, hB, C, hO, hC⟩
                  case measure => simp [intOf]
            · go_wp2_with fail
              go_end0
              exact ⟨rfl, hB, C, hO, hC⟩
    · have c40 : (40 ≤ (n : Int)) = False := eq_false (by omega)
      have d40 : (40 < (n : Int)) = False := eq_false (by omega)
      clear HB3
      go_loopw [7, 8] (fun v7 v8 wr => (v7 = .int .i64 0 ∧ v8 = .int .i64 20 ∧ wr = w0) ∨ (v7 = .int .i64 20 ∧ v8 = .int .i64 40 ∧ Below G w0 wr ∧ ∃ C1, OwnI wr G (.slice (some ⟨g, 0, none⟩) n cap) (C1 ++ M2) ∧ Mrg lt M1 C1)) (fun _ v8 _ => (40 - intOf v8).toNat)
      case atStart => exact .inl ⟨rfl, rfl, rfl⟩
      case round =>
        rcases hrel with ⟨rfl, rfl, rfl⟩ | ⟨rfl, rfl, hB, C1, hO, h1⟩
        · go_wp2_with fail
          refine K1.out.mono ?_
          rintro e w1 ⟨rfl, hB, C1, hO, h1⟩
          clear K1
          go_wp2_with fail
          go_roundw
          case rel => exact .inr ⟨rfl, rfl, hB, C1, hO, h1⟩
          case measure => simp [intOf]
        · have K := As.mk (K2.out wr C1 h1 hB hO)
          clear K1 K2 hO hB
          go_wp2_with fail
          refine K.out.mono ?_
          rintro e w1 ⟨rfl, hB, C2, hO, h2⟩
          clear K
          go_wp2_with fail
          by_cases hn20 : n = 20
          · have d20 : (20 < (n : Int)) = False := eq_false (by omega)
            have hfin := As.mk (hjoin.out hn20 C1 C2 h1 h2)
            clear hjoin HS
            go_loopw [6, 7, 8, 9] (fun v6 _ _ _ W => v6 = .int .i64 20 ∧ W = w1) (fun _ _ _ _ _ => 0)
            case atStart => exact ⟨rfl, rfl⟩
            case round =>
              obtain ⟨rfl, rfl⟩ := hrel
              go_wp2_with fail
              go_end0
              exact ⟨rfl, hB, C1 ++ C2, hO, hfin.out⟩
          · have d20 : (20 < (n : Int)) = True := eq_true (by omega)
            have K4 := As.mk (HS.out (by omega) _ C1 C2 h1 h2 hB hO)
            clear hjoin HS hB hO
            go_loopw [6, 7, 8, 9] (fun v6 _ _ _ W => (v6 = .int .i64 20 ∧ W = w1) ∨ (v6 = .int .i64 40 ∧ Below G w0 W ∧ ∃ C, OwnI W G (.slice (some ⟨g, 0, none⟩) n cap) C ∧ Mrg lt M C)) (fun v6 _ _ _ _ => (40 - intOf v6).toNat)
            case atStart => exact .inl ⟨rfl, rfl⟩
            case round =>
              rcases hrel with ⟨rfl, rfl⟩ | ⟨rfl, hB, C, hO, hC⟩
              · rename World => w2
                go_wp2_with fail
                go_loopw [7, 8] (fun v7 v8 W => v7 = .int .i64 0 ∧ v8 = .int .i64 40 ∧ W = w2) (fun _ _ _ => 0)
                case atStart => exact ⟨rfl, rfl, rfl⟩
                case round =>
                  obtain ⟨rfl, rfl, rfl⟩ := hrel
                  go_wp2_with fail
                  refine K4.out.mono ?_
                  rintro e w3 ⟨rfl, hB, C, hO, hC⟩
                  clear K4
                  go_wp2_with fail
                  go_roundw
                  case rel => exact .inr ⟨rfl, hB, C, hO, hC⟩
                  case measure => simp [intOf]
              · clear K4
                go_wp2_with fail
                go_end0
                exact ⟨rfl, hB, C, hO, hC⟩

set_option maxHeartbeats 8000000 in
set_option maxRecDepth 100000 in
theorem sl_sortG {lt : Int → Int → Prop} (hw : SW lt) {w0 : World} {G g cap n N pb : Nat} {M : List Int} (hG : G ≤ w0.heap.size) (hg : G ≤ g) (hn : n ≤ 40) (HC0 : LessC lt w0 G pb N)
    (hO0 : OwnI w0 G (.slice (some ⟨g, 0, none⟩) n cap) M) (hl : M.length = n) (hM : M.Pairwise (· < ·)) (hr : ∀ z ∈ M, 0 ≤ z ∧ z < (N : Int)) :
    Calls Try.prog 43 #[.slice (some ⟨g, 0, none⟩) n cap, lessG pb] w0 fun e w' => e = .returned (.tuple #[]) ∧ Below G w0 w' ∧ ∃ C, OwnI w' G (.slice (some ⟨g, 0, none⟩) n cap) C ∧ Mrg lt M C := by
  have HI := As.mk (sl_stableG hw hG hg hn HC0 hO0 hl hM hr)
  clear hO0 HC0 hM hr hl
  go_enter Try.func43, Try.ntmps43
  go_wp2_with fail
  refine HI.out.mono ?_
  rintro e w1 ⟨rfl, hB, hE⟩
  go_wp2_with fail
  go_end0
  exact ⟨rfl, hB, hE⟩
end Go.Proofs.Ytdbpjnjgjmfomaa

/- A table of ints of the call's own: an outer row of slices, each row in a block of its own. -/
namespace Go.Proofs.Ytdbpjnjgjmfomaa
open Go.RowKit

/-- n rows of m ints; the outer row lies in block gt, row r in block R r; row r holds T r. -/
structure TabI (w : World) (gt n m : Nat) (R : Nat → Nat) (T : Nat → List Int) : Prop where
  top : ∀ r, r < n → w.cell? ⟨gt, r, none⟩ = some (.slice (some ⟨R r, 0, none⟩) m m)
  row : ∀ r, r < n → OwnI w 0 (.slice (some ⟨R r, 0, none⟩) m m) (T r)
  len : ∀ r, r < n → (T r).length = m
  inj : ∀ r s, r < n → s < n → R r = R s → r = s
  ne : ∀ r, r < n → R r ≠ gt
theorem TabI.below {w w1 : World} {gt n m : Nat} {R : Nat → Nat} {T : Nat → List Int} (h : TabI w gt n m R T) (hb : Below w.heap.size w w1) : TabI w1 gt n m R T :=
  ⟨fun r hr => cell_below (h.top r hr) hb, fun r hr => (h.row r hr).below hb, h.len, h.inj, h.ne⟩
/-- One number of it, written. -/
theorem TabI.set {w : World} {gt n m : Nat} {R : Nat → Nat} {T : Nat → List Int} (h : TabI w gt n m R T) (g x : Nat) (hg : g < n) (v : Int) :
    TabI (w.setCell ⟨R g, x, none⟩ (.int .i64 v)) gt n m R (fun r => if r = g then (T g).set x v else T r) := by
  refine ⟨fun r hr => ?_, fun r hr => ?_, fun r hr => ?_, h.inj, h.ne⟩
  · exact set_cell (h.top r hr) (fun e => h.ne g hg (show R g = gt from e.symm))
  · by_cases e : r = g
    · subst e
      rw [if_pos rfl]
      exact (h.row r hr).store x v
    · rw [if_neg e]
      refine (h.row r hr).kept (fun k hk => Below.heap_setCell w _ _ k ?_)
      have hk' : R r = k := by simpa [Value.ownBlock] using hk
      intro e2
      exact e (h.inj r g hr hg (hk'.trans e2))
  · by_cases e : r = g
    · subst e; rw [if_pos rfl, List.length_set]; exact h.len r hr
    · rw [if_neg e]; exact h.len r hr
/-- One number of it, read. -/
theorem TabI.get {w : World} {gt n m : Nat} {R : Nat → Nat} {T : Nat → List Int} (h : TabI w gt n m R T) (g x : Nat) (hg : g < n) (hx : x < m) : w.cell? ⟨R g, x, none⟩ = some (.int .i64 ((T g).getD x 0)) ∧ w.frozen? ⟨R g, x, none⟩ = false :=
  (h.row g hg).cell x (by rw [h.len g hg]; exact hx)
/-- A stretch of blocks that stay: the table stays where all its blocks do. -/
theorem TabI.kept {w w1 : World} {gt n m : Nat} {R : Nat → Nat} {T : Nat → List Int} (h : TabI w gt n m R T) (ht : w1.heap[gt]? = w.heap[gt]?) (hr : ∀ r, r < n → w1.heap[R r]? = w.heap[R r]?) : TabI w1 gt n m R T :=
  ⟨fun r hr' => (World.cell?_of_block ht).trans (h.top r hr'), fun r hr' => (h.row r hr').kept (fun k hk => by
    have hk' : R r = k := by simpa [Value.ownBlock] using hk
    rw [← hk']; exact hr r hr'), h.len, h.inj, h.ne⟩
/-- A table of a row more: behind an alloc of the row and a store of its slice. -/
theorem make_rows {P : Program} (t : TypeId) (ht : P.underlying t = some (.slice 28)) (hinfo : (P.info? 28).map (fun i => (i.zero, i.size, i.bytes)) = some (some (.slice none 0 0), 1, 24)) (l c : Nat) (hlc : l ≤ c) (hb : c ≤ 17592186044) (W : World) :
    (Instr.makeSlice t (.int .i64 (l : Int)) (.int .i64 (c : Int))).run P W = .ok (.slice (some ⟨W.heap.size, 0, none⟩) l c) (W.alloc (.cells (madeCells #[.slice none 0 0] c) 28)) := by
  obtain ⟨i0, hi, hzz⟩ := Option.map_eq_some_iff.1 hinfo
  simp only [Prod.mk.injEq] at hzz
  obtain ⟨hz0, hz1, hz2⟩ := hzz
  have := run_make (P := P) W t 28 i0 (.slice none 0 0) ht hi hz0 .i64 .i64 (l : Int) (c : Int) (by omega) (by omega) (by rw [hz2]; omega) (by omega)
  rw [this, hz1]
  simp [Value.cells]
end Go.Proofs.Ytdbpjnjgjmfomaa

/- A table that grows row by row. -/
namespace Go.Proofs.Ytdbpjnjgjmfomaa
open Go.RowKit

/-- The outer row of n slices lies in block gt; the first k rows of m zeros stand, in the blocks right behind it. -/
structure GrowT (w : World) (gt n m k : Nat) : Prop where
  size : w.heap.size = gt + 1 + k
  res : Res w gt n
  top : ∀ r, r < k → w.cell? ⟨gt, r, none⟩ = some (.slice (some ⟨gt + 1 + r, 0, none⟩) m m)
  row : ∀ r, r < k → OwnI w 0 (.slice (some ⟨gt + 1 + r, 0, none⟩) m m) (List.replicate m 0)
theorem GrowT.step {w : World} {gt n m k : Nat} (h : GrowT w gt n m k) (hk : k < n) (hm : m ≤ 1000) :
    GrowT ((w.setCell ⟨gt, k, none⟩ (.slice (some ⟨gt + 1 + k, 0, none⟩) m m)).alloc (.cells (madeCells #[.int .i64 0] m) 3)) gt n m (k + 1) := by
  have hs : (w.setCell ⟨gt, k, none⟩ (.slice (some ⟨gt + 1 + k, 0, none⟩) m m)).heap.size = gt + 1 + k := by rw [← h.size]; simp [World.setCell]
  have hb := (Below.refl _ (w.setCell ⟨gt, k, none⟩ (.slice (some ⟨gt + 1 + k, 0, none⟩) m m))).alloc (Nat.le_refl _) (.cells (madeCells #[.int .i64 0] m) 3)
  refine ⟨by simp [hs]; omega, (h.res.set _ _).below hb, fun r hr => cell_below ?_ hb, fun r hr => ?_⟩
  · by_cases e : r = k
    · subst e
      obtain ⟨⟨x, hx⟩, _⟩ := h.res.2 r hk
      simp [go_sem, hx]
    · have := h.top r (by omega)
      have hne : (⟨gt, r, none⟩ : Addr) ≠ ⟨gt, k, none⟩ := fun e2 => e (by injection e2)
      simp [go_sem, this]
  · by_cases e : r = k
    · subst e
      have := OwnI.made (w.setCell ⟨gt, r, none⟩ (.slice (some ⟨gt + 1 + r, 0, none⟩) m m)) 0 m (Nat.zero_le _) (by omega)
      rwa [hs] at this
    · refine ((h.row r (by omega)).kept (fun j hj => Below.heap_setCell w _ _ j ?_)).below hb
      simp [Value.ownBlock] at hj
      simp; omega
theorem GrowT.start (w : World) (n m : Nat) (hn : n ≤ 1000) : GrowT (w.alloc (.cells (madeCells #[.slice none 0 0] n) 28)) w.heap.size n m 0 := by
  have h := World.ownsRow_lit (base := 0) (e := 28) (size := 1) w (madeCells #[.slice none 0 0] n) n (Nat.zero_le _) (by simp only [maxLen]; omega) (by simp [size_madeCells])
  rw [toList_madeCells_one] at h
  refine ⟨by simp, ⟨by simp, fun i hi => ?_⟩, fun r hr => by omega, fun r hr => by omega⟩
  have hc := World.ownsRow.cellAt h i (by simpa using hi)
  exact ⟨⟨.slice none 0 0, by rw [hc]; simp [hi]⟩, World.ownsRow.frozenAt h i⟩
theorem GrowT.done {w : World} {gt n m : Nat} (h : GrowT w gt n m n) : TabI w gt n m (fun r => gt + 1 + r) (fun _ => List.replicate m 0) :=
  ⟨h.top, h.row, fun _ _ => by simp, fun r s _ _ e => by omega, fun r _ => by omega⟩
end Go.Proofs.Ytdbpjnjgjmfomaa

/- classical.Groups, the good case (begun: to the sort). -/
namespace Go.Proofs.Ytdbpjnjgjmfomaa
open Go.RowKit

/-- The step for the person at place j of the order: the group and the option, if it counts. -/
def ostP (os C : List Int) (n m L j : Nat) : Option (Nat × Nat) :=
  if 0 ≤ os.getD (C.getD j 0).toNat 0 ∧ os.getD (C.getD j 0).toNat 0 < (m : Int) then some (j * n / L, (os.getD (C.getD j 0).toNat 0).toNat) else none
theorem ostP_lt (os C : List Int) (n m L : Nat) : ∀ j g y, ostP os C n m L j = some (g, y) → y < m := by
  intro j g y h
  unfold ostP at h
  split at h
  · injection h with h; injection h with h1 h2; omega
  · cases h
theorem runT_le {m : Nat} {st : Nat → Option (Nat × Nat)} (hst : ∀ j g y, st j = some (g, y) → y < m) (k r x : Nat) (hx : x < m) : 0 ≤ (runT m st k r).getD x 0 ∧ (runT m st k r).getD x 0 ≤ k := by
  rw [runT_get hst k r x hx]
  have := List.countP_le_length (p := fun j => st j == some (r, x)) (l := List.range k)
  rw [List.length_range] at this
  omega
/-- The step for person i: the group by rank, and the option, if it counts. -/
def pstP (os ts : List Int) (n m i : Nat) : Option (Nat × Nat) :=
  if 0 ≤ os.getD i 0 ∧ os.getD i 0 < (m : Int) then some (rk ts i ts.length * n / ts.length, (os.getD i 0).toNat) else none
theorem pstP_lt (os ts : List Int) (n m : Nat) : ∀ j g y, pstP os ts n m j = some (g, y) → y < m := by
  intro j g y h
  unfold pstP at h
  split at h
  · injection h with h; injection h with h1 h2; omega
  · cases h
/-- Along the order, and person by person: one table. -/
theorem along {os ts C : List Int} {n m k : Nat} (hl : ts.length = k) (hC : Mrg (fun x y => tv ts x < tv ts y) ((List.range k).map (fun t : Nat => (t : Int))) C) (r : Nat) : runT m (ostP os C n m k) k r = runT m (pstP os ts n m) k r := by
  refine runT_perm hC.perm (fun j hj => ?_) (ostP_lt os C n m k) (pstP_lt os ts n m) r
  obtain ⟨i, hi, e, hr⟩ := rank_at hl hC j hj
  unfold ostP pstP
  rw [e, hl, Int.toNat_natCast, hr]
theorem rk_lt (l : List Int) (i : Nat) : ∀ k, i < k → rk l i k < k
  | 0, h => by omega
  | k + 1, h => by
    simp only [rk]
    by_cases e : i = k
    · subst e
      rw [if_neg (by omega)]
      have := rk_le l i i
      omega
    · have := rk_lt l i k (by omega)
      split <;> omega
theorem TabI.congr {w : World} {gt n m : Nat} {R : Nat → Nat} {T U : Nat → List Int} (h : TabI w gt n m R T) (e : ∀ r, U r = T r) : TabI w gt n m R U := by
  rw [show U = T from funext e]; exact h
theorem w64 (n : Int) (a : -9223372036854775808 ≤ n) (b : n ≤ 9223372036854775807) : wrap64 n = n := by unfold wrap64; omega
theorem place_wrap {j n k q : Nat} (h : j * n / k = q) (hj : j ≤ 1000) (hn : n ≤ 1000) (_hk : 0 < k) : wrap64 ((wrap64 ((j : Int) * (n : Int))).tdiv (k : Int)) = (q : Int) := by
  have h1 : j * n ≤ 1000 * 1000 := Nat.mul_le_mul hj hn
  have h2 : q ≤ j * n := by rw [← h]; exact Nat.div_le_self _ _
  have e1 : wrap64 ((j : Int) * (n : Int)) = ((j * n : Nat) : Int) := by
    have : (j : Int) * (n : Int) = ((j * n : Nat) : Int) := by simp
    rw [this]
    exact w64 _ (by omega) (by omega)
  rw [e1]
  have e2 : ((j * n : Nat) : Int).tdiv (k : Int) = ((j * n / k : Nat) : Int) := by
    rw [Int.tdiv_eq_ediv_of_nonneg (by omega)]; rfl
  rw [e2, h]
  exact w64 _ (by omega) (by omega)
theorem place_lt {j n L : Nat} (h : j < L) (hn : 1 ≤ n) : j * n / L < n := by
  rw [Nat.div_lt_iff_lt_mul (by omega), Nat.mul_comm n L]
  exact Nat.mul_lt_mul_of_pos_right h (by omega)

set_option maxHeartbeats 16000000 in
set_option maxRecDepth 100000 in
theorem cls_Groups_okC {S T : Nat → Prop} {u v : Value} {os ts : List Int} (w : World) (n m : Nat) (hu : IntsV S w u os) (hv : IntsV T w v ts) (hL : os.length = ts.length) (h0 : 0 < ts.length) (h40 : ts.length ≤ 40) (hok : okScores ts = true) (hn1 : 1 ≤ n) (hn5 : n ≤ 5) (hm1 : 1 ≤ m) (hm10 : m ≤ 10) :
    Calls Try.prog 17 #[u, v, .int .i64 n, .int .i64 m] w fun e w' => ∃ gt, w.heap.size < gt ∧ e = .returned (.tuple #[.slice (some ⟨gt, 0, none⟩) n n, .int .i64 0]) ∧ Below w.heap.size w w' ∧ TabI w' gt n m (fun r => gt + 1 + r) (runT m (pstP os ts n m) ts.length) ∧ ∃ C, Mrg (fun x y => tv ts x < tv ts y) ((List.range ts.length).map (fun t : Nat => (t : Int))) C := by
  obtain ⟨A, c, rfl⟩ := hu.slice
  obtain ⟨B, d, rfl⟩ := hv.slice
  obtain ⟨L, hLe⟩ : ∃ L, ts.length = L := ⟨_, rfl⟩
  have HS : As (∀ W, Below w.heap.size w W → Calls Try.prog 42 #[.slice B L d] W fun e w' => e = .returned (.bool true) ∧ Drawn W w') := ⟨fun W hb => by
    have := cls_scores W (hv.below hb) (by omega)
    rwa [hok, hLe] at this⟩
  have hvi := (hv.mono (T := fun k => k < w.heap.size) (fun k _ h => h))
  have hui := As.mk (hu.mono (T := fun k => k < w.heap.size) (fun k _ h => h))
  rw [hL, hLe] at hui
  have hLo := As.mk (hL.trans hLe)
  rw [hL, hLe]
  rw [hLe] at h0 h40 hvi
  have hb1 := (Below.refl w.heap.size w).alloc (Nat.le_refl _) (Obj.cells #[.slice B L d] 28)
  have hmk : ∀ W, (Instr.makeSlice 28 (.int .i64 (L : Int)) (.int .i64 (L : Int))).run Try.prog W = .ok (.slice (some ⟨W.heap.size, 0, none⟩) L L) (W.alloc (.cells (madeCells #[.int .i64 0] L) 3)) :=
    fun W => make_ints 28 Try.underlying28 (by kernel_rfl) L L (by omega) (by omega) W
  have a1 : ((n : Int) < 1) = False := eq_false (by omega)
  have a2 : (5 < (n : Int)) = False := eq_false (by omega)
  have a3 : ((m : Int) < 1) = False := eq_false (by omega)
  have a4 : (10 < (m : Int)) = False := eq_false (by omega)
  have a5 : (200 < (L : Int)) = False := eq_false (by omega)
  have a6 : ((L : Int) = 0) = False := eq_false (by omega)
  have a6b : ((L : Int) == 0) = false := beq_eq_false_iff_ne.2 (by omega)
  have a6n : (L = 0) = False := eq_false (by omega)
  have K := As.mk (HS.out _ hb1)
  replace hLe := As.mk hLe
  replace hvi := As.mk hvi
  clear HS hu hv hL hok
  go_enter Try.func17, Try.ntmps17
  go_wp2_with fail
  refine K.out.mono ?_
  rintro e w1 ⟨rfl, h⟩
  have hp : w1.cell? ⟨w.heap.size, 0, none⟩ = some (.slice B L d) := cell_below (W := w.alloc (Obj.cells #[.slice B L d] 28)) (by simp [go_sem]) h.below
  have hb2 := hb1.after (by simp) h.below
  have hz1 : w.heap.size < w1.heap.size := by have := h.below.size; simp at this; omega
  clear h hb1 K
  go_wp2_with fail
  have hO := OwnI.made w1 (w.heap.size + 1) L (by omega) (by omega)
  have hB3 := (Below.refl w1.heap.size w1).alloc (Nat.le_refl _) (.cells (madeCells #[.int .i64 0] L) 3)
  rw [← idl_zero] at hO
  replace hB3 := hB3.mono (show w.heap.size + 1 ≤ w1.heap.size by omega)
  have hB20 := As.mk hb2
  have hp20 := As.mk hp
  clear hb2 hp
  generalize w1.alloc (.cells (madeCells #[.int .i64 0] L) 3) = W3 at *
  obtain ⟨g, hge⟩ : ∃ g, w1.heap.size = g := ⟨_, rfl⟩
  rw [hge] at hO hz1 ⊢
  go_loopw [11, 60] (fun _ v60 wr => ∃ k : Nat, k ≤ L ∧ v60 = .int .i64 k ∧ Below (w.heap.size + 1) w1 wr ∧ OwnI wr (w.heap.size + 1) (.slice (some ⟨g, 0, none⟩) L L) (idl k L)) (fun _ v60 _ => (L - intOf v60).toNat)
  case atStart => exact ⟨0, by omega, rfl, hB3, hO⟩
  case round =>
    clear hO hB3
    obtain ⟨k, hk, rfl, hB, hO⟩ := hrel
    by_cases hlt : k < L
    · have bk : ((k : Int) < (L : Int)) = True := eq_true (by omega)
      obtain ⟨hc, hf⟩ := hO.cell k (by rw [idl_length]; exact hlt)
      have hO1 := hO.store k (k : Int)
      rw [idl_set k L hlt] at hO1
      have hB1 : Below (w.heap.size + 1) w1 (wr.setCell ⟨g, k, none⟩ (.int .i64 (k : Int))) := hB.setCell (by show w.heap.size + 1 ≤ g; omega) _
      clear hO hB
      go_wp2_with fail
      go_roundw
      case rel => exact ⟨k + 1, by omega, by go_num, hB1, hO1⟩
      case measure => simp [intOf]; omega
    · obtain rfl : k = L := by omega
      have hsz : w.heap.size + 1 ≤ wr.heap.size := Nat.le_trans (by omega) hB.size
      have hpr : wr.cell? ⟨w.heap.size, 0, none⟩ = some (.slice B k d) := (World.cell?_of_block (hB.block _ (by show w.heap.size < _; omega))).trans hp20.out
      have hBw : Below w.heap.size w wr := hB20.out.trans (hB.mono (by omega))
      have hidl : idl k k = (List.range k).map (fun t : Nat => (t : Int)) := by
        unfold idl
        refine List.map_congr_left (fun t ht => ?_)
        rw [List.mem_range] at ht
        rw [if_pos ht]
      have hv5 : IntsV (fun j => j < w.heap.size + 1) wr (.slice B ts.length d) ts := by
        rw [hLe.out]
        exact (hvi.out.below hBw).mono (fun j h _ => by have h : j < w.heap.size := h; omega)
      have hLG : LessC (fun x y => tv ts x < tv ts y) wr (w.heap.size + 1) w.heap.size k := by
        have := less_G (w0 := wr) (G := w.heap.size + 1) (pb := w.heap.size) (by omega) (by rw [hLe.out]; exact hpr) hv5
        rwa [hLe.out] at this
      have HSo := As.mk (sl_sortG (tv_sw ts) (pb := w.heap.size) (N := k) hsz (by omega : w.heap.size + 1 ≤ g) h40 hLG hO (idl_length k k) (by rw [hidl]; exact List.Pairwise.map _ (fun a b h => by omega) List.pairwise_lt_range) (fun z hz => by
          rw [hidl] at hz
          obtain ⟨t, ht, rfl⟩ := List.mem_map.1 hz
          rw [List.mem_range] at ht
          omega))
      rw [hidl] at HSo
      clear hO hidl hv5 hLG
      go_wp2_with fail
      refine HSo.out.mono ?_
      rintro e w4 ⟨rfl, hB4, C, hO4, hC⟩
      clear HSo
      have hBw4 : Below w.heap.size w w4 := hBw.trans (hB4.mono (by omega))
      have hmkR : ∀ W, (Instr.makeSlice 30 (.int .i64 (n : Int)) (.int .i64 (n : Int))).run Try.prog W = .ok (.slice (some ⟨W.heap.size, 0, none⟩) n n) (W.alloc (.cells (madeCells #[.slice none 0 0] n) 28)) :=
        fun W => make_rows 30 Try.underlying30 (by kernel_rfl) n n (by omega) (by omega) W
      have hmkM : ∀ W, (Instr.makeSlice 28 (.int .i64 (m : Int)) (.int .i64 (m : Int))).run Try.prog W = .ok (.slice (some ⟨W.heap.size, 0, none⟩) m m) (W.alloc (.cells (madeCells #[.int .i64 0] m) 3)) :=
        fun W => make_ints 28 Try.underlying28 (by kernel_rfl) m m (by omega) (by omega) W
      have hGr := GrowT.start w4 n m (by omega)
      have hB5 := (Below.refl w4.heap.size w4).alloc (Nat.le_refl _) (.cells (madeCells #[.slice none 0 0] n) 28)
      have hgt4 : w.heap.size + 1 ≤ w4.heap.size := Nat.le_trans hsz hB4.size
      have hC' := As.mk hC
      have hO5 := As.mk hO4
      have hBw5 := As.mk hBw4
      have hg4 : g < w4.heap.size := (World.ownsRow.lt hO4 g rfl).2
      clear hmk hC hO4 hB4 hBw4 hB hBw hpr
      go_wp2_with fail
      generalize w4.alloc (.cells (madeCells #[.slice none 0 0] n) 28) = W5 at *
      obtain ⟨gt, hgt⟩ : ∃ gt, w4.heap.size = gt := ⟨_, rfl⟩
      rw [hgt] at hGr hB5 hgt4 hg4 ⊢
      go_loopw [13, 75] (fun _ v75 wr => ∃ r : Nat, r ≤ n ∧ v75 = .int .i64 r ∧ Below gt w4 wr ∧ GrowT wr gt n m r) (fun _ v75 _ => (n - intOf v75).toNat)
      case atStart => exact ⟨0, by omega, rfl, hB5, hGr⟩
      case round =>
        clear hGr hB5
        rename World => wq
        obtain ⟨r, hr, rfl, hB, hGr⟩ := hrel
        by_cases hlr : r < n
        · have br : ((r : Int) < (n : Int)) = True := eq_true (by omega)
          obtain ⟨⟨x, hx⟩, hf⟩ := hGr.res.2 r hlr
          have hsq := hGr.size
          have hG1 := As.mk (hGr.step hlr (by omega))
          have hB1 : As (Below gt w4 ((wq.setCell ⟨gt, r, none⟩ (.slice (some ⟨gt + 1 + r, 0, none⟩) m m)).alloc (.cells (madeCells #[.int .i64 0] m) 3))) := ⟨(hB.setCell (by exact Nat.le_refl _) _).alloc (by simp [World.setCell]; omega) _⟩
          have hne : gt ≠ wq.heap.size := by omega
          have hlt9 : gt < wq.heap.size := by omega
          have hcom : (wq.alloc (.cells (madeCells #[.int .i64 0] m) 3)).setCell ⟨gt, r, none⟩ (.slice (some ⟨gt + 1 + r, 0, none⟩) m m) = (wq.setCell ⟨gt, r, none⟩ (.slice (some ⟨gt + 1 + r, 0, none⟩) m m)).alloc (.cells (madeCells #[.int .i64 0] m) 3) := by first | exact World.setCell_alloc _ _ _ _ hlt9 | exact World.setCell_alloc_lt _ _ _ _ hlt9 | simp [go_sem, hlt9]
          have br0 : (0 ≤ (r : Int)) = True := eq_true (by omega)
          have hx' : (wq.alloc (.cells (madeCells #[.int .i64 0] m) 3)).cell? ⟨gt, r, none⟩ = some x := cell_below hx ((Below.refl _ _).alloc (Nat.le_refl _) _)
          have hf' : (wq.alloc (.cells (madeCells #[.int .i64 0] m) 3)).frozen? ⟨gt, r, none⟩ = false := by simp [go_sem, hf, hlt9]
          clear hGr hB
          go_wp2_with fail
          go_roundw
          case rel => exact ⟨r + 1, by omega, by go_num, hB1.out, hG1.out⟩
          case measure => simp [intOf]; omega
        · obtain rfl : n = r := by omega
          have hT0 := hGr.done
          have hgts := hGr.size
          have hO6 : OwnI wq (w.heap.size + 1) (.slice (some ⟨g, 0, none⟩) k k) C := hO5.out.kept (fun j hj => by
            have hj' : g = j := by simpa [Value.ownBlock] using hj
            exact hB.block j (by show j < gt; omega))
          have hBq : Below w.heap.size w wq := hBw5.out.trans (hB.mono (by omega))
          have hA6 : TabI wq gt n m (fun r => gt + 1 + r) (runT m (ostP os C n m k) 0) := hT0
          have hC0 := hC'.out
          have hat : As (∀ j, j < k → ∃ i : Nat, i < k ∧ C.getD j 0 = (i : Int)) := ⟨fun j hj => by
            obtain ⟨i, h1, h2, _⟩ := rank_at hLe.out hC0 j hj
            exact ⟨i, h1, h2⟩⟩
          have hlC : As (C.length = k) := ⟨by rw [hC0.perm.length_eq]; simp⟩
          clear hGr hB hT0 hC0
          have b4 : w.heap.size + 1 ≤ gt := hgt4
          have hsz6 : gt < wq.heap.size := by omega
          clear hgts
          go_wp2_with fail
          go_loopw [14, 15, 16, 86] (fun _ _ _ v86 wr => ∃ j : Nat, j ≤ k ∧ v86 = .int .i64 j ∧ Below w.heap.size w wr ∧ gt < wr.heap.size ∧ OwnI wr (w.heap.size + 1) (.slice (some ⟨g, 0, none⟩) k k) C ∧ TabI wr gt n m (fun r => gt + 1 + r) (runT m (ostP os C n m k) j)) (fun _ _ _ v86 _ => (k - intOf v86).toNat)
          case atStart => exact ⟨0, by omega, rfl, hBq, hsz6, hO6, hA6⟩
          case round =>
            clear hO6 hA6 hBq hsz6
            rename World => wt
            obtain ⟨j, hj, rfl, hB, hsz6, hO, hT⟩ := hrel
            by_cases hlj : j < k
            · have bj : ((j : Int) < (k : Int)) = True := eq_true (by omega)
              have bj0 : (0 ≤ (j : Int)) = True := eq_true (by omega)
              obtain ⟨i, hik, hCi⟩ := hat.out j hlj
              obtain ⟨hc, hf⟩ := hO.cell j (by rw [hlC.out]; exact hlj)
              rw [hCi] at hc
              obtain ⟨ad, rfl, hcell⟩ := (hui.out.below hB).cells (by rw [hLo.out]; omega)
              have hoc := hcell i (by rw [hLo.out]; exact hik)
              have hst : As (ostP os C n m k j = if 0 ≤ os.getD i 0 ∧ os.getD i 0 < (m : Int) then some (j * n / k, (os.getD i 0).toNat) else none) := ⟨by unfold ostP; rw [hCi]; rfl⟩
              have bi0 : (0 ≤ (i : Int)) = True := eq_true (by omega)
              have bik : ((i : Int) < (k : Int)) = True := eq_true (by omega)
              clear hcell hCi
              obtain ⟨X, hX⟩ : ∃ X, os.getD i 0 = X := ⟨_, rfl⟩
              rw [hX] at hoc hst
              replace hX := As.mk hX
              by_cases hX0 : 0 ≤ X
              · obtain ⟨x, rfl⟩ := Int.eq_ofNat_of_zero_le hX0
                by_cases hXm : (x : Int) < (m : Int)
                · have hpl := place_lt hlj hn1
                  obtain ⟨q, hq⟩ : ∃ q, j * n / k = q := ⟨_, rfl⟩
                  rw [hq] at hpl hst
                  have hst2 : As (ostP os C n m k j = some (q, x)) := ⟨by rw [hst.out, if_pos ⟨hX0, hXm⟩]; rfl⟩
                  have htop := hT.top q hpl
                  obtain ⟨hcv, hcf⟩ := hT.get q x hpl (by omega)
                  obtain ⟨Y, hY⟩ : ∃ Y, (runT m (ostP os C n m k) j q).getD x 0 = Y := ⟨_, rfl⟩
                  rw [hY] at hcv
                  have hmul : As ((j : Int) * (n : Int) = ((j * n : Nat) : Int)) := ⟨by simp⟩
                  have bx0 : (0 ≤ (x : Int)) = True := eq_true (by omega)
                  have bxm : ((x : Int) < (m : Int)) = True := eq_true (by omega)
                  have bq0 : (0 ≤ (q : Int)) = True := eq_true (by omega)
                  have bqn : ((q : Int) < (n : Int)) = True := eq_true (by omega)
                  have hYb : 0 ≤ Y ∧ Y ≤ 40 := by
                    have := runT_le (m := m) (st := ostP os C n m k) (ostP_lt os C n m k) j q x (by omega)
                    rw [hY] at this
                    omega
                  obtain ⟨hY0, hY1⟩ := hYb
                  have hG1 : As (TabI (wt.setCell ⟨gt + 1 + q, x, none⟩ (.int .i64 (Y + 1))) gt n m (fun r => gt + 1 + r) (runT m (ostP os C n m k) (j + 1))) := ⟨by
                    have := hT.set q x hpl (Y + 1)
                    rw [← hY] at this ⊢
                    exact this.congr (fun r => by simp only [runT, hst2.out]; rfl)⟩
                  have hO1 : As (OwnI (wt.setCell ⟨gt + 1 + q, x, none⟩ (.int .i64 (Y + 1))) (w.heap.size + 1) (.slice (some ⟨g, 0, none⟩) k k) C) := ⟨hO.kept (fun b hb => Below.heap_setCell _ _ _ b (by simp [Value.ownBlock] at hb; simp; omega))⟩
                  have hB1 : As (Below w.heap.size w (wt.setCell ⟨gt + 1 + q, x, none⟩ (.int .i64 (Y + 1)))) := ⟨hB.setCell (by show w.heap.size ≤ gt + 1 + q; omega) _⟩
                  have hw64 : wrap64 ((wrap64 ((j : Int) * (n : Int))).tdiv (k : Int)) = (q : Int) := place_wrap hq (by omega) (by omega) (by omega)
                  clear hst hX hX0 hXm hY hO hB hT hmul
                  replace hq := As.mk hq
                  go_wp2_with fail
                  go_roundw
                  case rel => exact ⟨j + 1, by omega, by go_num, hB1.out, by simpa [World.setCell] using hsz6, hO1.out, hG1.out⟩
                  case measure => simp [intOf]; omega
                · have bx0 : (0 ≤ (x : Int)) = True := eq_true (by omega)
                  have bxm : ((x : Int) < (m : Int)) = False := eq_false (by omega)
                  have hT1 := As.mk (hT.congr (U := runT m (ostP os C n m k) (j + 1)) (fun r => by
                    have : ostP os C n m k j = none := by rw [hst.out, if_neg (fun h => hXm h.2)]
                    simp only [runT, this]))
                  clear hst hX hX0 hXm hT
                  go_wp2_with fail
                  go_roundw
                  case rel => exact ⟨j + 1, by omega, by go_num, hB, hsz6, hO, hT1.out⟩
                  case measure => simp [intOf]; omega
              · have bx0 : (0 ≤ X) = False := eq_false (by omega)
                have bx1 : ((X : Int) < (m : Int)) = True := eq_true (by omega)
                have hT1 := As.mk (hT.congr (U := runT m (ostP os C n m k) (j + 1)) (fun r => by
                  have : ostP os C n m k j = none := by rw [hst.out, if_neg (fun h => hX0 h.1)]
                  simp only [runT, this]))
                clear hst hX hX0 hT
                go_wp2_with fail
                go_roundw
                case rel => exact ⟨j + 1, by omega, by go_num, hB, hsz6, hO, hT1.out⟩
                case measure => simp [intOf]; omega
            · obtain rfl : k = j := by omega
              have bj : ((k : Int) < (k : Int)) = False := eq_false (by omega)
              have hT1 := As.mk (hT.congr (U := runT m (pstP os ts n m) k) (fun r => (along hLe.out hC'.out r).symm))
              clear hT hO
              go_wp2_with fail
              go_ret2
              exact ⟨gt, by omega, rfl, hB, hT1.out, C, hC'.out⟩
theorem cls_Groups_ok {S T : Nat → Prop} {u v : Value} {os ts : List Int} (w : World) (n m : Nat) (hu : IntsV S w u os) (hv : IntsV T w v ts) (hL : os.length = ts.length) (h0 : 0 < ts.length) (h40 : ts.length ≤ 40) (hok : okScores ts = true) (hn1 : 1 ≤ n) (hn5 : n ≤ 5) (hm1 : 1 ≤ m) (hm10 : m ≤ 10) :
    Calls Try.prog 17 #[u, v, .int .i64 n, .int .i64 m] w fun e w' => ∃ gt, w.heap.size < gt ∧ e = .returned (.tuple #[.slice (some ⟨gt, 0, none⟩) n n, .int .i64 0]) ∧ Below w.heap.size w w' ∧ TabI w' gt n m (fun r => gt + 1 + r) (runT m (pstP os ts n m) ts.length) :=
  (cls_Groups_okC w n m hu hv hL h0 h40 hok hn1 hn5 hm1 hm10).mono fun _ _ ⟨gt, h1, h2, h3, h4, _⟩ => ⟨gt, h1, h2, h3, h4⟩
end Go.Proofs.Ytdbpjnjgjmfomaa

/- Every person with a countable option is counted once; the sizes of two groups differ by at most 1. -/
namespace Go.Proofs.Ytdbpjnjgjmfomaa
open Go.RowKit

/-- How many of the first k options count. -/
def wantN (os : List Int) (m : Nat) : Nat → Nat
  | 0 => 0
  | k + 1 => wantN os m k + if 0 ≤ os.getD k 0 ∧ os.getD k 0 < (m : Int) then 1 else 0
theorem wantN_le (os : List Int) (m : Nat) : ∀ k, wantN os m k ≤ k
  | 0 => Nat.le_refl _
  | k + 1 => by
    have := wantN_le os m k
    simp only [wantN]
    split <;> omega
/-- The sum of the first j numbers. -/
def rowS (l : List Int) : Nat → Int
  | 0 => 0
  | j + 1 => rowS l j + l.getD j 0
/-- The sum of the first i rows of m numbers. -/
def totS (T : Nat → List Int) (m : Nat) : Nat → Int
  | 0 => 0
  | i + 1 => totS T m i + rowS (T i) m
theorem rowS_zero (m : Nat) : ∀ j, rowS (List.replicate m 0) j = 0
  | 0 => rfl
  | j + 1 => by
    rw [rowS, rowS_zero m j]
    simp [List.getD_eq_getElem?_getD, List.getElem?_replicate]
    split <;> rfl
theorem rowS_set (l : List Int) (x : Nat) (hx : x < l.length) (v : Int) : ∀ j, rowS (l.set x v) j = rowS l j + if x < j then v - l.getD x 0 else 0
  | 0 => by simp [rowS]
  | j + 1 => by
    rw [rowS, rowS, rowS_set l x hx v j]
    by_cases h : j = x
    · subst h
      rw [if_neg (by omega), if_pos (by omega)]
      simp [List.getD_eq_getElem?_getD, hx]
      omega
    · have e : (l.set x v).getD j 0 = l.getD j 0 := by
        rw [List.getD_eq_getElem?_getD, List.getD_eq_getElem?_getD, List.getElem?_set_ne (fun e => h e.symm)]
      rw [e]
      by_cases h2 : x < j
      · rw [if_pos h2, if_pos (by omega)]; omega
      · rw [if_neg h2, if_neg (by omega)]; omega
theorem totS_congr {T U : Nat → List Int} {m : Nat} : ∀ i, (∀ r, r < i → T r = U r) → totS T m i = totS U m i
  | 0, _ => rfl
  | i + 1, h => by rw [totS, totS, totS_congr i (fun r hr => h r (by omega)), h i (by omega)]
theorem totS_zero (m : Nat) : ∀ i, totS (fun _ => List.replicate m 0) m i = 0
  | 0 => rfl
  | i + 1 => by rw [totS, totS_zero m i, rowS_zero]; rfl
theorem totS_bump {T : Nat → List Int} {m g x : Nat} (hl : ∀ r, (T r).length = m) (hx : x < m) : ∀ i, totS (bump T g x) m i = totS T m i + if g < i then 1 else 0
  | 0 => by simp [totS]
  | i + 1 => by
    rw [totS, totS, totS_bump hl hx i]
    by_cases h : i = g
    · subst h
      have e : bump T i x i = (T i).set x ((T i).getD x 0 + 1) := by simp [bump]
      rw [e, rowS_set _ _ (by rw [hl]; exact hx), if_neg (by omega), if_pos hx, if_pos (by omega)]
      omega
    · have e : bump T g x i = T i := by simp [bump, h]
      rw [e]
      by_cases h2 : g < i
      · rw [if_pos h2, if_pos (by omega)]; omega
      · rw [if_neg h2, if_neg (by omega)]; omega
theorem totS_run {os ts : List Int} {n m : Nat} (hn : 1 ≤ n) : ∀ k, k ≤ ts.length → totS (runT m (pstP os ts n m) k) m n = (wantN os m k : Nat)
  | 0, _ => by rw [runT, totS_zero]; rfl
  | k + 1, hk => by
    have ih := totS_run (os := os) (ts := ts) (m := m) hn k (by omega)
    have hp : pstP os ts n m k = if 0 ≤ os.getD k 0 ∧ os.getD k 0 < (m : Int) then some (rk ts k ts.length * n / ts.length, (os.getD k 0).toNat) else none := rfl
    by_cases h : 0 ≤ os.getD k 0 ∧ os.getD k 0 < (m : Int)
    · rw [if_pos h] at hp
      have e : runT m (pstP os ts n m) (k + 1) = bump (runT m (pstP os ts n m) k) (rk ts k ts.length * n / ts.length) (os.getD k 0).toNat := by simp only [runT, hp]
      have hg := place_lt (rk_lt ts k ts.length (by omega)) hn
      rw [e, totS_bump (runT_len m _ k) (by omega), ih, if_pos hg, wantN, if_pos h]
      rfl
    · rw [if_neg h] at hp
      have e : runT m (pstP os ts n m) (k + 1) = runT m (pstP os ts n m) k := by simp only [runT, hp]
      rw [e, ih, wantN, if_neg h]
      rfl
/-- How many places of the order fall into group r. -/
def cntG (L n r : Nat) : Nat := (List.range L).countP (fun k => k * n / L == r)
theorem cntG_le (L n r : Nat) : cntG L n r ≤ L := by
  have := List.countP_le_length (p := fun k => k * n / L == r) (l := List.range L)
  rwa [List.length_range] at this
def balB : Bool := (List.range 41).all fun L => L == 0 || (List.range 6).all fun n => n == 0 || (decide (0 < cntG L n 0) && (List.range n).all fun r => (List.range n).all fun s => decide (cntG L n r ≤ cntG L n s + 1))
theorem balB_true : balB = true := by decide +kernel
theorem bal {L n : Nat} (h1 : 1 ≤ L) (h2 : L ≤ 40) (h3 : 1 ≤ n) (h4 : n ≤ 5) : 0 < cntG L n 0 ∧ ∀ r s, r < n → s < n → cntG L n r ≤ cntG L n s + 1 := by
  have h := balB_true
  unfold balB at h
  rw [List.all_eq_true] at h
  have a := h L (List.mem_range.2 (by omega))
  rw [Bool.or_eq_true] at a
  rcases a with a | a
  · have := eq_of_beq a; omega
  · rw [List.all_eq_true] at a
    have b := a n (List.mem_range.2 (by omega))
    rw [Bool.or_eq_true] at b
    rcases b with b | b
    · have := eq_of_beq b; omega
    · rw [Bool.and_eq_true] at b
      refine ⟨of_decide_eq_true b.1, fun r s hr hs => ?_⟩
      have c := List.all_eq_true.1 b.2 r (List.mem_range.2 hr)
      exact of_decide_eq_true (List.all_eq_true.1 c s (List.mem_range.2 hs))
/-- The size of a group. -/
theorem size_of_group {ts C : List Int} {n L : Nat} (hl : ts.length = L) (hC : Mrg (fun x y => tv ts x < tv ts y) ((List.range L).map (fun t : Nat => (t : Int))) C) (r : Nat) :
    (runT 1 (pstP (List.replicate L 0) ts n 1) L r).getD 0 0 = (cntG L n r : Nat) := by
  rw [← along hl hC r, runT_get (ostP_lt (List.replicate L 0) C n 1 L) L r 0 (by omega)]
  unfold cntG
  congr 1
  apply List.countP_congr
  intro k _
  have h0 : ∀ i, (List.replicate L (0 : Int)).getD i 0 = 0 := fun i => by
    rw [List.getD_eq_getElem?_getD, List.getElem?_replicate]
    split <;> rfl
  unfold ostP
  rw [h0]
  simp
end Go.Proofs.Ytdbpjnjgjmfomaa

/- The law's own helper many over chapter 25. -/
namespace Go.Proofs.Ytdbpjnjgjmfomaa
open Go.RowKit

def manyB (n : Nat) : Bool := decide (40 < n ∧ n ≤ 200)
set_option maxHeartbeats 4000000 in
set_option maxRecDepth 100000 in
theorem law_many (w : World) (A : Option Addr) (c n : Nat) (hm : n ≤ 140737488351232) :
    Calls Try.prog 16 #[.slice A n c] w fun e w' => e = .returned (.bool (manyB n)) ∧ Drawn w w' := by
  by_cases h1 : 40 < n
  · by_cases h2 : n ≤ 200
    · have R : As (manyB n = true) := ⟨by unfold manyB; exact decide_eq_true ⟨h1, h2⟩⟩
      have b1 : (40 < (n : Int)) = True := eq_true (by omega)
      have b2 : ((n : Int) ≤ 200) = True := eq_true (by omega)
      go_enter Try.func16, Try.ntmps16
      go_wp2_with fail
      go_ret
      exact ⟨by rw [R.out]; first | rfl | simp, by repeat (first | exact Drawn.refl _ | apply Drawn.step)⟩
    · have R : As (manyB n = false) := ⟨by unfold manyB; exact decide_eq_false (fun h => h2 h.2)⟩
      have b1 : (40 < (n : Int)) = True := eq_true (by omega)
      have b2 : ((n : Int) ≤ 200) = False := eq_false (by omega)
      go_enter Try.func16, Try.ntmps16
      go_wp2_with fail
      go_ret
      exact ⟨by rw [R.out]; first | rfl | simp, by repeat (first | exact Drawn.refl _ | apply Drawn.step)⟩
  · have R : As (manyB n = false) := ⟨by unfold manyB; exact decide_eq_false (fun h => h1 h.1)⟩
    have b1 : (40 < (n : Int)) = False := eq_false (by omega)
    go_enter Try.func16, Try.ntmps16
    go_wp2_with fail
    go_ret
    exact ⟨by rw [R.out]; first | rfl | simp, by repeat (first | exact Drawn.refl _ | apply Drawn.step)⟩
theorem grp_zero {os ts : List Int} {n m : Int} (h : grpE os ts n m = 0) (h1 : manyB ts.length = false) : ∃ n' m' : Nat, n = n' ∧ m = m' ∧ 1 ≤ n' ∧ n' ≤ 5 ∧ 1 ≤ m' ∧ m' ≤ 10 ∧ os.length = ts.length ∧ 0 < ts.length ∧ ts.length ≤ 40 ∧ okScores ts = true := by
  unfold grpE at h
  have hm : ¬ (40 < ts.length ∧ ts.length ≤ 200) := of_decide_eq_false h1
  split at h
  · omega
  · split at h
    · omega
    · split at h
      · omega
      · split at h
        · omega
        · split at h
          · omega
          · rename_i c1 c2 c3 c4 c5
            refine ⟨n.toNat, m.toNat, by omega, by omega, by omega, by omega, by omega, by omega, by omega, by omega, by omega, by simpa using c3⟩
end Go.Proofs.Ytdbpjnjgjmfomaa
