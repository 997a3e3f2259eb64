/- Limbs: the value of a list of limbs of 32 bits, and the canonical limbs of a number. Plain mathematics. -/
namespace Go.Proofs.Ytdbpjnjgjmfomaa
/-- The value of a list of limbs of 32 bits, the least significant one first. -/
def val : List Int → Int
  | [] => 0
  | x :: t => x + 4294967296 * val t
/-- All limbs are in range. -/
def Lim (l : List Int) : Prop := ∀ x, x ∈ l → 0 ≤ x ∧ x < 4294967296
/-- No high zero limb. -/
def Top (l : List Int) : Prop := ∀ x, l.getLast? = some x → x ≠ 0
/-- The limbs of a number, without high zeros. -/
def dig (n : Nat) : List Int := if h : n = 0 then [] else ((n % 4294967296 : Nat) : Int) :: dig (n / 4294967296)
termination_by n
decreasing_by omega

theorem val_nil : val [] = 0 := rfl
theorem val_cons (x : Int) (t : List Int) : val (x :: t) = x + 4294967296 * val t := rfl
theorem Lim.nil : Lim [] := fun x h => by simp at h
theorem Lim.cons {x : Int} {t : List Int} (h : Lim (x :: t)) : (0 ≤ x ∧ x < 4294967296) ∧ Lim t := ⟨h x (by simp), fun y hy => h y (by simp [hy])⟩
theorem Lim.mk {x : Int} {t : List Int} (h0 : 0 ≤ x) (h1 : x < 4294967296) (h : Lim t) : Lim (x :: t) := fun y hy => by
  rcases List.mem_cons.1 hy with rfl | hy
  · exact ⟨h0, h1⟩
  · exact h y hy
theorem Lim.append {a b : List Int} (ha : Lim a) (hb : Lim b) : Lim (a ++ b) := fun y hy => by
  rcases List.mem_append.1 hy with hy | hy
  · exact ha y hy
  · exact hb y hy
theorem Lim.take {a : List Int} (ha : Lim a) (n : Nat) : Lim (a.take n) := fun y hy => ha y (List.mem_of_mem_take hy)
theorem Lim.drop {a : List Int} (ha : Lim a) (n : Nat) : Lim (a.drop n) := fun y hy => ha y (List.mem_of_mem_drop hy)
theorem Lim.set {a : List Int} (ha : Lim a) (n : Nat) {v : Int} (h0 : 0 ≤ v) (h1 : v < 4294967296) : Lim (a.set n v) := fun y hy => by
  rcases List.mem_or_eq_of_mem_set hy with hy | rfl
  · exact ha y hy
  · exact ⟨h0, h1⟩
theorem Lim.zeros (n : Nat) : Lim (List.replicate n 0) := fun y hy => by
  rw [List.mem_replicate] at hy; omega
theorem Lim.get {a : List Int} (ha : Lim a) (i : Nat) : 0 ≤ a.getD i 0 ∧ a.getD i 0 < 4294967296 := by
  rw [List.getD_eq_getElem?_getD]
  by_cases h : i < a.length
  · rw [List.getElem?_eq_getElem h]; exact ha _ (List.getElem_mem h)
  · rw [List.getElem?_eq_none (by omega)]; simp
theorem val_nonneg {l : List Int} (h : Lim l) : 0 ≤ val l := by
  induction l with
  | nil => simp [val]
  | cons x t ih => obtain ⟨⟨h0, _⟩, ht⟩ := h.cons; have := ih ht; simp only [val]; omega
theorem val_lt {l : List Int} (h : Lim l) : val l < 4294967296 ^ l.length := by
  induction l with
  | nil => simp [val]
  | cons x t ih =>
    obtain ⟨⟨_, h1⟩, ht⟩ := h.cons
    have := ih ht
    simp only [val, List.length_cons, Int.pow_succ]
    omega
theorem val_append (a b : List Int) : val (a ++ b) = val a + 4294967296 ^ a.length * val b := by
  induction a with
  | nil => simp [val]
  | cons x t ih => simp only [List.cons_append, val, ih, List.length_cons, Int.pow_succ]; grind
theorem val_snoc (a : List Int) (x : Int) : val (a ++ [x]) = val a + 4294967296 ^ a.length * x := by
  rw [val_append]; simp [val]
theorem val_zeros (n : Nat) : val (List.replicate n 0) = 0 := by
  induction n with
  | zero => rfl
  | succ n ih => simp [List.replicate_succ, val, ih]
theorem val_take_drop (l : List Int) (n : Nat) (h : n ≤ l.length) : val l = val (l.take n) + 4294967296 ^ n * val (l.drop n) := by
  have := val_append (l.take n) (l.drop n)
  rw [List.take_append_drop, List.length_take, Nat.min_eq_left h] at this
  exact this
theorem val_take_succ (l : List Int) (i : Nat) (h : i < l.length) : val (l.take (i + 1)) = val (l.take i) + 4294967296 ^ i * l.getD i 0 := by
  rw [List.take_succ_eq_append_getElem h, val_snoc, List.length_take, Nat.min_eq_left (by omega), List.getD_eq_getElem?_getD, List.getElem?_eq_getElem h]; rfl
theorem val_drop (l : List Int) (i : Nat) (h : i < l.length) : val (l.drop i) = l.getD i 0 + 4294967296 * val (l.drop (i + 1)) := by
  rw [List.drop_eq_getElem_cons h, val_cons, List.getD_eq_getElem?_getD, List.getElem?_eq_getElem h]; rfl
theorem val_set (l : List Int) (i : Nat) (v : Int) (h : i < l.length) : val (l.set i v) = val l + 4294967296 ^ i * (v - l.getD i 0) := by
  induction l generalizing i with
  | nil => simp at h
  | cons x t ih =>
    cases i with
    | zero => simp [val]; omega
    | succ i =>
      simp only [List.set_cons_succ, val, ih i (by simpa using h), Int.pow_succ, List.getD_cons_succ]
      grind
theorem Top.nil : Top [] := fun x h => by simp at h
theorem Top.cons {x : Int} {t : List Int} (h : Top (x :: t)) : Top t := by
  intro y hy
  cases t with
  | nil => simp at hy
  | cons z s => exact h y (by rw [List.getLast?_cons_cons]; exact hy)
theorem val_pos {l : List Int} (h : Lim l) (ht : Top l) (hn : l ≠ []) : 0 < val l := by
  induction l with
  | nil => exact absurd rfl hn
  | cons x t ih =>
    obtain ⟨⟨h0, _⟩, hl⟩ := h.cons
    cases t with
    | nil => have := ht x (by simp); simp [val]; omega
    | cons y s => have := ih hl ht.cons (by simp); rw [val]; omega
theorem val_unique {a b : List Int} (ha : Lim a) (hb : Lim b) (ta : Top a) (tb : Top b) (h : val a = val b) : a = b := by
  induction a generalizing b with
  | nil =>
    by_cases hb0 : b = []
    · exact hb0.symm
    · have := val_pos hb tb hb0; simp [val] at h; omega
  | cons x t ih =>
    have hp := val_pos ha ta (by simp)
    cases b with
    | nil => simp only [val] at h hp; omega
    | cons y s =>
      obtain ⟨hx, hlx⟩ := ha.cons
      obtain ⟨hy, hly⟩ := hb.cons
      simp only [val] at h
      have e1 : x = y := by omega
      have e2 : val t = val s := by omega
      rw [e1, ih hlx hly ta.cons tb.cons e2]
theorem dig_zero : dig 0 = [] := by rw [dig]; simp
theorem dig_pos (n : Nat) (h : n ≠ 0) : dig n = ((n % 4294967296 : Nat) : Int) :: dig (n / 4294967296) := by rw [dig, dif_neg h]
theorem val_dig (n : Nat) : val (dig n) = n := by
  induction n using Nat.strongRecOn with
  | ind n ih =>
    by_cases h : n = 0
    · subst h; rw [dig_zero]; rfl
    · rw [dig_pos n h, val, ih _ (by omega)]; omega
theorem Lim_dig (n : Nat) : Lim (dig n) := by
  induction n using Nat.strongRecOn with
  | ind n ih =>
    by_cases h : n = 0
    · subst h; rw [dig_zero]; exact Lim.nil
    · rw [dig_pos n h]; exact Lim.mk (by omega) (by omega) (ih _ (by omega))
theorem dig_ne_nil (n : Nat) (h : n ≠ 0) : dig n ≠ [] := by rw [dig_pos n h]; simp
theorem Top_dig (n : Nat) : Top (dig n) := by
  induction n using Nat.strongRecOn with
  | ind n ih =>
    by_cases h : n = 0
    · subst h; rw [dig_zero]; exact Top.nil
    · rw [dig_pos n h]
      intro x hx
      by_cases h2 : n / 4294967296 = 0
      · rw [h2, dig_zero] at hx; simp at hx; omega
      · have hi := ih _ (by omega : n / 4294967296 < n)
        rw [dig_pos _ h2, List.getLast?_cons_cons, ← dig_pos _ h2] at hx
        exact hi x hx
theorem eq_dig {l : List Int} (h : Lim l) (t : Top l) : l = dig (val l).toNat :=
  val_unique h (Lim_dig _) t (Top_dig _) (by rw [val_dig]; have := val_nonneg h; omega)
theorem dig_length_le (n k : Nat) (h : n < 4294967296 ^ k) : (dig n).length ≤ k := by
  induction k generalizing n with
  | zero => have : n = 0 := by simpa using h
            subst this; rw [dig_zero]; simp
  | succ k ih =>
    by_cases h0 : n = 0
    · subst h0; rw [dig_zero]; simp
    · rw [dig_pos n h0, List.length_cons]
      have := ih (n / 4294967296) (by rw [Nat.pow_succ] at h; omega)
      omega
theorem Top.snoc {a : List Int} {x : Int} (h : x ≠ 0) : Top (a ++ [x]) := fun y hy => by simp at hy; omega
end Go.Proofs.Ytdbpjnjgjmfomaa
