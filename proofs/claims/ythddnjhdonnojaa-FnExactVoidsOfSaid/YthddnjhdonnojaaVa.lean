/- Classes of cells and their numbers by first appearance. No program is in sight. -/
namespace Go.Proofs.Ythddnjhdonnojaa
set_option linter.unusedVariables false
set_option linter.unusedSimpArgs false
namespace Vd

/-! ## Labels -/
def merge (f : Nat → Nat) (e : Nat × Nat) : Nat → Nat := fun k => if f k = max (f e.1) (f e.2) then min (f e.1) (f e.2) else f k
def labs (es : List (Nat × Nat)) : Nat → Nat := es.foldl merge id

theorem labs_nil (k : Nat) : labs [] k = k := rfl
theorem labs_snoc (es : List (Nat × Nat)) (e : Nat × Nat) : labs (es ++ [e]) = merge (labs es) e := by simp [labs]
theorem merge_keep {f : Nat → Nat} {e : Nat × Nat} {j k : Nat} (h : f j = f k) : merge f e j = merge f e k := by simp [merge, h]
theorem merge_join (f : Nat → Nat) (a b : Nat) : merge f (a, b) a = merge f (a, b) b := by
  unfold merge
  simp only
  split <;> split <;> omega
theorem merge_fine {f : Nat → Nat} {a b j k : Nat} (h : merge f (a, b) j = merge f (a, b) k) : f j = f k ∨ ((f j = f a ∨ f j = f b) ∧ (f k = f a ∨ f k = f b)) := by
  unfold merge at h
  simp only at h
  split at h <;> split at h <;> omega

theorem snoc_ind {α : Type} {P : List α → Prop} (h0 : P []) (h1 : ∀ l a, P l → P (l ++ [a])) (l : List α) : P l := by
  have : ∀ l : List α, P l.reverse := by
    intro l
    induction l with
    | nil => exact h0
    | cons a l ih => rw [List.reverse_cons]; exact h1 _ _ ih
  have := this l.reverse
  rwa [List.reverse_reverse] at this

theorem labs_edge {a b : Nat} : ∀ (es : List (Nat × Nat)), (a, b) ∈ es → labs es a = labs es b := by
  intro es
  induction es using snoc_ind with
  | h0 => intro h; cases h
  | h1 l e ih =>
    intro h
    rw [labs_snoc]
    rcases List.mem_append.1 h with h | h
    · exact merge_keep (ih h)
    · have he : e = (a, b) := (by simpa using h : (a, b) = e).symm
      subst he
      exact merge_join _ _ _

theorem labs_fine {V : Nat → Prop} : ∀ (es : List (Nat × Nat)), (∀ a b, (a, b) ∈ es → (V a ↔ V b)) → ∀ j k, labs es j = labs es k → (V j ↔ V k) := by
  intro es
  induction es using snoc_ind with
  | h0 => intro _ j k h; rw [labs_nil, labs_nil] at h; rw [h]
  | h1 l e ih =>
    intro hV j k h
    obtain ⟨a, b⟩ := e
    have ih := ih fun a b hm => hV a b (List.mem_append_left _ hm)
    have hab := hV a b (List.mem_append_right _ (by simp))
    rw [labs_snoc] at h
    rcases merge_fine h with h | ⟨h1, h2⟩
    · exact ih j k h
    · have c1 : V j ↔ V a := by
        rcases h1 with h1 | h1
        · exact ih j a h1
        · exact (ih j b h1).trans hab.symm
      have c2 : V k ↔ V a := by
        rcases h2 with h2 | h2
        · exact ih k a h2
        · exact (ih k b h2).trans hab.symm
      exact c1.trans c2.symm

theorem labs_lt {n : Nat} : ∀ (es : List (Nat × Nat)), (∀ e ∈ es, e.1 < n ∧ e.2 < n) → ∀ k, k < n → labs es k < n := by
  intro es
  induction es using snoc_ind with
  | h0 => intro _ k hk; exact hk
  | h1 l e ih =>
    intro h k hk
    have ih := ih fun e hm => h e (List.mem_append_left _ hm)
    have he := h e (List.mem_append_right _ (by simp))
    rw [labs_snoc]
    have := ih k hk
    have := ih e.1 he.1
    have := ih e.2 he.2
    unfold merge
    split <;> omega

/-! ## Numbers by first appearance -/
def first (sel : Nat → Bool) (f : Nat → Nat) (j : Nat) : Bool := sel j && (List.range j).all fun i => !(sel i && f i == f j)
def cnt (sel : Nat → Bool) (f : Nat → Nat) (k : Nat) : Nat := ((List.range k).filter (first sel f)).length
def rep (sel : Nat → Bool) (f : Nat → Nat) (k : Nat) : Nat := ((List.range (k + 1)).find? fun j => sel j && f j == f k).getD 0
def num (sel : Nat → Bool) (f : Nat → Nat) (k : Nat) : Nat := cnt sel f (rep sel f k)

variable {sel : Nat → Bool} {f : Nat → Nat}

theorem cnt_zero : cnt sel f 0 = 0 := rfl
theorem cnt_succ (k : Nat) : cnt sel f (k + 1) = cnt sel f k + if first sel f k = true then 1 else 0 := by
  simp only [cnt, List.range_succ, List.filter_append, List.length_append]
  by_cases h : first sel f k = true <;> simp [h]
theorem cnt_mono {j k : Nat} (h : j ≤ k) : cnt sel f j ≤ cnt sel f k := by
  induction k with
  | zero => have : j = 0 := by omega
            subst this; exact Nat.le_refl _
  | succ k ih =>
    by_cases hj : j = k + 1
    · subst hj; exact Nat.le_refl _
    · have := ih (by omega)
      rw [cnt_succ]; omega
theorem cnt_le (k : Nat) : cnt sel f k ≤ k := by
  induction k with
  | zero => exact Nat.le_refl _
  | succ k ih => rw [cnt_succ]; split <;> omega

theorem first_iff {j : Nat} : first sel f j = true ↔ sel j = true ∧ ∀ i, i < j → sel i = true → f i ≠ f j := by
  simp only [first, Bool.and_eq_true, List.all_eq_true, List.mem_range]
  constructor
  · rintro ⟨h1, h2⟩
    refine ⟨h1, fun i hi hs he => ?_⟩
    have := h2 i hi
    simp [hs, he] at this
  · rintro ⟨h1, h2⟩
    refine ⟨h1, fun i hi => ?_⟩
    cases hs : sel i
    · simp
    · have := h2 i hi hs
      simp [this]

theorem rep_spec {k : Nat} (hk : sel k = true) : sel (rep sel f k) = true ∧ f (rep sel f k) = f k ∧ rep sel f k ≤ k ∧ ∀ i, i < rep sel f k → sel i = true → f i ≠ f k := by
  unfold rep
  cases h : (List.range (k + 1)).find? (fun j => sel j && f j == f k) with
  | none =>
    have := List.find?_eq_none.1 h k (by simp)
    simp [hk] at this
  | some r =>
    obtain ⟨h1, h2, h3⟩ := List.find?_range_eq_some.1 h
    simp only [Bool.and_eq_true, beq_iff_eq] at h1
    rw [List.mem_range] at h2
    simp only [Option.getD_some]
    refine ⟨h1.1, h1.2, by omega, fun i hi hs he => ?_⟩
    have := h3 i hi
    simp [hs, he] at this

theorem rep_uniq {j k : Nat} (hk : sel k = true) (hj : sel j = true) (he : f j = f k) (hl : ∀ i, i < j → sel i = true → f i ≠ f k) : rep sel f k = j := by
  obtain ⟨h1, h2, h3, h4⟩ := rep_spec (f := f) hk
  rcases Nat.lt_trichotomy (rep sel f k) j with h | h | h
  · exact absurd h2 (hl _ h h1)
  · exact h
  · exact absurd he (h4 _ h hj)

theorem rep_same {j k : Nat} (hj : sel j = true) (hk : sel k = true) (he : f j = f k) : rep sel f j = rep sel f k := by
  obtain ⟨h1, h2, h3, h4⟩ := rep_spec (f := f) hk
  exact rep_uniq hj h1 (by rw [h2, he]) (fun i hi hs => by rw [he]; exact h4 i hi hs)

theorem rep_first {k : Nat} (hk : sel k = true) : first sel f (rep sel f k) = true := by
  obtain ⟨h1, h2, h3, h4⟩ := rep_spec (f := f) hk
  exact first_iff.2 ⟨h1, fun i hi hs => by rw [h2]; exact h4 i hi hs⟩

theorem first_rep {k : Nat} (h : first sel f k = true) : rep sel f k = k := by
  obtain ⟨h1, h2⟩ := first_iff.1 h
  exact rep_uniq h1 h1 rfl h2

theorem not_first {k : Nat} (hk : sel k = true) (h : first sel f k = false) : rep sel f k < k := by
  obtain ⟨h1, h2, h3, h4⟩ := rep_spec (f := f) hk
  by_cases he : rep sel f k = k
  · have := rep_first (f := f) hk
    rw [he, h] at this; cases this
  · omega

theorem num_first {k : Nat} (h : first sel f k = true) : num sel f k = cnt sel f k := by unfold num; rw [first_rep h]

theorem num_lt {k i : Nat} (hk : sel k = true) (h : rep sel f k < i) : num sel f k < cnt sel f i := by
  have h1 := cnt_mono (sel := sel) (f := f) (show rep sel f k + 1 ≤ i from h)
  rw [cnt_succ, if_pos (rep_first hk)] at h1
  unfold num
  omega

theorem num_inj {j k : Nat} (hj : sel j = true) (hk : sel k = true) : num sel f j = num sel f k ↔ f j = f k := by
  constructor
  · intro h
    have hr : rep sel f j = rep sel f k := by
      rcases Nat.lt_trichotomy (rep sel f j) (rep sel f k) with h1 | h1 | h1
      · have := num_lt hj h1; unfold num at h this; omega
      · exact h1
      · have := num_lt hk h1; unfold num at h this; omega
    rw [← (rep_spec (f := f) hj).2.1, ← (rep_spec (f := f) hk).2.1, hr]
  · intro h
    unfold num
    rw [rep_same hj hk h]

/-- The numbers hang on the classes alone. -/
theorem first_congr {g : Nat → Nat} {n : Nat} (h : ∀ j k, j < n → k < n → (f j = f k ↔ g j = g k)) {j : Nat} (hj : j < n) : first sel f j = first sel g j := by
  rw [Bool.eq_iff_iff, first_iff, first_iff]
  constructor
  · rintro ⟨h1, h2⟩
    exact ⟨h1, fun i hi hs he => h2 i hi hs ((h i j (by omega) hj).2 he)⟩
  · rintro ⟨h1, h2⟩
    exact ⟨h1, fun i hi hs he => h2 i hi hs ((h i j (by omega) hj).1 he)⟩
theorem cnt_congr {g : Nat → Nat} {n : Nat} (h : ∀ j k, j < n → k < n → (f j = f k ↔ g j = g k)) : ∀ k, k ≤ n → cnt sel f k = cnt sel g k := by
  intro k
  induction k with
  | zero => intro _; rfl
  | succ k ih => intro hk; rw [cnt_succ, cnt_succ, ih (by omega), first_congr h (by omega)]
theorem num_congr {g : Nat → Nat} {n : Nat} (h : ∀ j k, j < n → k < n → (f j = f k ↔ g j = g k)) {k : Nat} (hk : k < n) (hs : sel k = true) : num sel f k = num sel g k := by
  obtain ⟨h1, h2, h3, h4⟩ := rep_spec (f := f) hs
  have hr : rep sel g k = rep sel f k := rep_uniq hs h1 ((h _ _ (by omega) hk).1 h2) (fun i hi hs' he => h4 i hi hs' ((h i k (by omega) hk).2 he))
  unfold num
  rw [hr]
  exact cnt_congr h _ (by omega)
end Vd
end Go.Proofs.Ythddnjhdonnojaa
