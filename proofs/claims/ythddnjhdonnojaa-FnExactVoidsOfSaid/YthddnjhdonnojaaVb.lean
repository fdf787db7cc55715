/- The flood from a cell, and the numbering cell by cell. No program is in sight. -/
import Derived.Test.YthddnjhdonnojaaVa
namespace Go.Proofs.Ythddnjhdonnojaa
set_option linter.unusedVariables false
set_option linter.unusedSimpArgs false
namespace Vd

/-- Cells below the level, which lie beside which, and the labels that come of it. -/
structure Lay (n : Nat) (sel : Nat → Bool) (adj : Nat → Nat → Bool) (es : List (Nat × Nat)) : Prop where
  A : ∀ a b, a < n → b < n → sel a = true → sel b = true → adj a b = true → labs es a = labs es b
  B : ∀ a b, (a, b) ∈ es → a < n ∧ b < n ∧ sel a = true ∧ sel b = true ∧ adj a b = true ∧ adj b a = true

variable {n : Nat} {sel : Nat → Bool} {adj : Nat → Nat → Bool} {es : List (Nat × Nat)}

/-- What a cell holds when the cells before i are done. -/
def outer (sel : Nat → Bool) (f : Nat → Nat) (i j : Nat) : Int := if sel j = true ∧ rep sel f j < i then (num sel f j : Int) else -1

theorem outer_zero (f : Nat → Nat) (j : Nat) : outer sel f 0 j = -1 := by simp [outer]
theorem outer_end (f : Nat → Nat) {j : Nat} (hj : j < n) : outer sel f n j = if sel j = true then (num sel f j : Int) else -1 := by
  unfold outer
  by_cases h : sel j = true
  · have := (rep_spec (f := f) h).2.2.1
    rw [if_pos ⟨h, by omega⟩, if_pos h]
  · rw [if_neg (fun c => h c.1), if_neg h]

/-- A cell that is not below the level, or has a number, changes nothing. -/
theorem outer_skip {f : Nat → Nat} {i : Nat} (h : first sel f i = false) (j : Nat) : outer sel f (i + 1) j = outer sel f i j := by
  unfold outer
  by_cases hs : sel j = true
  · have hr : rep sel f j ≠ i := by
      intro he
      have := rep_first (f := f) hs
      rw [he, h] at this; cases this
    by_cases hl : rep sel f j < i
    · rw [if_pos ⟨hs, by omega⟩, if_pos ⟨hs, hl⟩]
    · rw [if_neg (fun c => by have := c.2; omega), if_neg (fun c => hl c.2)]
  · rw [if_neg (fun c => hs c.1), if_neg (fun c => hs c.1)]

theorem outer_neg {f : Nat → Nat} {i : Nat} (hi : sel i = true) : (0 ≤ outer sel f i i) ↔ first sel f i = false := by
  unfold outer
  cases h : first sel f i
  · have := not_first hi h
    rw [if_pos ⟨hi, this⟩]; simp
  · have := first_rep h
    rw [if_neg (fun c => by have := c.2; omega)]; simp
theorem outer_out {f : Nat → Nat} {i j : Nat} (hj : sel j = false) : outer sel f i j = -1 := by
  unfold outer
  rw [if_neg (fun c => by rw [hj] at c; cases c.1)]

/-- What a cell holds while the class of i is flooded. -/
def inner (sel : Nat → Bool) (f : Nat → Nat) (i : Nat) (zs : List Nat) (j : Nat) : Int := if j ∈ zs then (cnt sel f i : Int) else outer sel f i j

/-- The flood's list: cells before 'at' are gone through, and of the cell at 'at' the neighbours before k. -/
structure Fld (n : Nat) (sel : Nat → Bool) (adj : Nat → Nat → Bool) (es : List (Nat × Nat)) (i : Nat) (zs : List Nat) (t k : Nat) : Prop where
  cls : ∀ j, j ∈ zs → j < n ∧ sel j = true ∧ labs es j = labs es i
  nd : zs.Nodup
  start : i ∈ zs
  done : ∀ a j, a < t → (ha : a < zs.length) → j < n → sel j = true → adj zs[a] j = true → j ∈ zs
  part : ∀ j, (ht : t < zs.length) → j < k → j < n → sel j = true → adj zs[t] j = true → j ∈ zs

theorem nodup_len : ∀ (n : Nat) (zs : List Nat), zs.Nodup → (∀ j, j ∈ zs → j < n) → zs.length ≤ n := by
  intro n
  induction n with
  | zero => intro zs _ h; cases zs with
    | nil => exact Nat.le_refl _
    | cons a l => exact absurd (h a (by simp)) (by omega)
  | succ n ih =>
    intro zs hn h
    by_cases hm : n ∈ zs
    · have := ih (zs.erase n) (hn.erase n) (fun j hj => by
        have h1 := h j (List.mem_of_mem_erase hj)
        have h2 : j ≠ n := by
          intro he
          subst he
          exact (List.Nodup.mem_erase_iff hn).1 hj |>.1 rfl
        omega)
      rw [List.length_erase_of_mem hm] at this
      have := List.length_pos_of_mem hm
      omega
    · have := ih zs hn (fun j hj => by
        have h1 := h j hj
        have h2 : j ≠ n := by intro he; subst he; exact hm hj
        omega)
      omega

theorem Fld.len {i t k : Nat} {zs : List Nat} (h : Fld n sel adj es i zs t k) : zs.length ≤ n := nodup_len n zs h.nd fun j hj => (h.cls j hj).1

theorem Fld.new {i : Nat} (hi : i < n) (hs : sel i = true) : Fld n sel adj es i [i] 0 0 where
  cls := fun j hj => by simp at hj; subst hj; exact ⟨hi, hs, rfl⟩
  nd := by simp
  start := by simp
  done := fun a j ha => by omega
  part := fun j _ hk => by omega

/-- The next neighbour is taken in. -/
theorem Fld.take (L : Lay n sel adj es) {i t k : Nat} {zs : List Nat} (h : Fld n sel adj es i zs t k) (ht : t < zs.length) (hk : k < n) (hs : sel k = true) (ha : adj zs[t] k = true) (hm : k ∉ zs) :
    Fld n sel adj es i (zs ++ [k]) t (k + 1) := by
  have hzt := h.cls zs[t] (List.getElem_mem ht)
  have hlab : labs es k = labs es i := by rw [← hzt.2.2, L.A _ _ hzt.1 hk hzt.2.1 hs ha]
  have hat : ∀ a (x : a < zs.length) (y : a < (zs ++ [k]).length), (zs ++ [k])[a] = zs[a] := fun a x y => List.getElem_append_left x
  refine ⟨?_, ?_, List.mem_append_left _ h.start, ?_, ?_⟩
  · intro j hj
    rcases List.mem_append.1 hj with hj | hj
    · exact h.cls j hj
    · simp at hj; subst hj; exact ⟨hk, hs, hlab⟩
  · rw [List.nodup_append]
    refine ⟨h.nd, by simp, ?_⟩
    intro a ha' b hb
    simp at hb; subst hb
    intro he; subst he; exact hm ha'
  · intro a j hat' hal hj hsj haj
    have hx : a < zs.length := by omega
    rw [hat a hx hal] at haj
    exact List.mem_append_left _ (h.done a j hat' hx hj hsj haj)
  · intro j hal hjk hj hsj haj
    rw [hat t ht hal] at haj
    by_cases he : j = k
    · subst he; simp
    · exact List.mem_append_left _ (h.part j ht (by omega) hj hsj haj)

/-- The next neighbour is passed over. -/
theorem Fld.pass {i t k : Nat} {zs : List Nat} (h : Fld n sel adj es i zs t k) (hp : (ht : t < zs.length) → k < n → sel k = true → adj zs[t] k = true → k ∈ zs) :
    Fld n sel adj es i zs t (k + 1) := by
  refine ⟨h.cls, h.nd, h.start, h.done, ?_⟩
  intro j ht hjk hj hsj haj
  by_cases he : j = k
  · subst he; exact hp ht hj hsj haj
  · exact h.part j ht (by omega) hj hsj haj

/-- All neighbours of a cell of the list are gone through. -/
theorem Fld.next {i t : Nat} {zs : List Nat} (h : Fld n sel adj es i zs t n) : Fld n sel adj es i zs (t + 1) 0 := by
  refine ⟨h.cls, h.nd, h.start, ?_, fun j _ hk => by omega⟩
  intro a j ha hal hj hsj haj
  by_cases he : a = t
  · subst he; exact h.part j hal hj hj hsj haj
  · exact h.done a j (by omega) hal hj hsj haj

/-- The list is gone through: it is the class of i. -/
theorem Fld.all (L : Lay n sel adj es) {i : Nat} {zs : List Nat} (h : Fld n sel adj es i zs zs.length 0) {j : Nat} (hj : j < n) (hs : sel j = true) : j ∈ zs ↔ labs es j = labs es i := by
  constructor
  · intro hm; exact (h.cls j hm).2.2
  · intro he
    refine (labs_fine (V := fun x => x ∈ zs) es ?_ j i he).2 h.start
    intro a b hab
    obtain ⟨b1, b2, b3, b4, b5, b6⟩ := L.B a b hab
    constructor
    · intro hm
      obtain ⟨x, hx, rfl⟩ := List.getElem_of_mem hm
      exact h.done x b hx hx b2 b4 b5
    · intro hm
      obtain ⟨x, hx, rfl⟩ := List.getElem_of_mem hm
      exact h.done x a hx hx b1 b3 b6

/-- Whether a cell has a number while i is flooded: below the level, beside a cell of the list. -/
theorem inner_neg (L : Lay n sel adj es) {i t k : Nat} {zs : List Nat} (hi : first sel (labs es) i = true) (h : Fld n sel adj es i zs t k) (ht : t < zs.length) (hk : k < n) (hs : sel k = true) (ha : adj zs[t] k = true) :
    inner sel (labs es) i zs k < 0 ↔ k ∉ zs := by
  have hzt := h.cls zs[t] (List.getElem_mem ht)
  have hlab : labs es k = labs es i := by rw [← hzt.2.2, L.A _ _ hzt.1 hk hzt.2.1 hs ha]
  unfold inner
  by_cases hm : k ∈ zs
  · rw [if_pos hm]
    constructor
    · intro hc; omega
    · intro hc; exact absurd hm hc
  · rw [if_neg hm]
    have hr : rep sel (labs es) k = i := by rw [rep_same hs (first_iff.1 hi).1 hlab, first_rep hi]
    unfold outer
    rw [if_neg (fun c => by have := c.2; omega)]
    exact ⟨fun _ => hm, fun _ => by decide⟩

theorem inner_take (i : Nat) (zs : List Nat) (k j : Nat) : inner sel (labs es) i (zs ++ [k]) j = if j = k then (cnt sel (labs es) i : Int) else inner sel (labs es) i zs j := by
  unfold inner
  by_cases h : j = k
  · subst h; simp
  · rw [if_neg h]; simp [h]

theorem inner_new (i j : Nat) : inner sel (labs es) i [i] j = if j = i then (cnt sel (labs es) i : Int) else outer sel (labs es) i j := by
  unfold inner; simp

/-- The flood is at its end: the cell i is done. -/
theorem inner_end (L : Lay n sel adj es) {i : Nat} {zs : List Nat} (hi : first sel (labs es) i = true) (h : Fld n sel adj es i zs zs.length 0) {j : Nat} (hj : j < n) : inner sel (labs es) i zs j = outer sel (labs es) (i + 1) j := by
  unfold inner
  cases hs : sel j
  · have hm : j ∉ zs := by intro hm; have := (h.cls j hm).2.1; rw [hs] at this; cases this
    rw [if_neg hm, outer_out hs, outer_out hs]
  · have ha := h.all L hj hs
    have hsi := (first_iff.1 hi).1
    by_cases hm : j ∈ zs
    · rw [if_pos hm]
      have he := ha.1 hm
      have hr : rep sel (labs es) j = i := by rw [rep_same hs hsi he, first_rep hi]
      unfold outer
      rw [if_pos ⟨hs, by omega⟩]
      unfold num
      rw [hr]
    · rw [if_neg hm]
      have hr : rep sel (labs es) j ≠ i := by
        intro hr
        apply hm
        rw [ha, ← (rep_spec (f := labs es) hs).2.1, hr]
      unfold outer
      by_cases hl : rep sel (labs es) j < i
      · rw [if_pos ⟨hs, hl⟩, if_pos ⟨hs, by omega⟩]
      · rw [if_neg (fun c => hl c.2), if_neg (fun c => by have := c.2; omega)]
end Vd
end Go.Proofs.Ythddnjhdonnojaa
