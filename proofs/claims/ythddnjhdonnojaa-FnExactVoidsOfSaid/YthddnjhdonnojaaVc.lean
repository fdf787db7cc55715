/- Which cells of a view lie beside which: the list of sides. No program is in sight. -/
import Derived.Test.YthddnjhdonnojaaVb
namespace Go.Proofs.Ythddnjhdonnojaa
set_option linter.unusedVariables false
set_option linter.unusedSimpArgs false
namespace Vd

/-- Two cells beside each other, of a view W wide. -/
def besideB (W a b : Nat) : Bool := (((a % W : Nat) : Int) - ((b % W : Nat) : Int)) * (((a % W : Nat) : Int) - ((b % W : Nat) : Int)) + (((a / W : Nat) : Int) - ((b / W : Nat) : Int)) * (((a / W : Nat) : Int) - ((b / W : Nat) : Int)) == 1

theorem sq_one {x y : Int} (h : x * x + y * y = 1) : (x = 0 ∧ (y = 1 ∨ y = -1)) ∨ (y = 0 ∧ (x = 1 ∨ x = -1)) := by
  have sq : ∀ z : Int, 0 ≤ z * z ∧ (z * z ≤ 1 → z = 0 ∨ z = 1 ∨ z = -1) ∧ (z = 0 ∨ 1 ≤ z * z) := by
    intro z
    refine ⟨?_, ?_, ?_⟩
    · rcases Int.le_total 0 z with h | h
      · exact Int.mul_nonneg h h
      · exact Int.mul_nonneg_of_nonpos_of_nonpos h h
    · intro hz
      rcases Int.lt_or_le 1 z with h2 | h2
      · have := Int.mul_le_mul (a := 2) (b := 2) (c := z) (d := z) (by omega) (by omega) (by omega) (by omega); omega
      · rcases Int.lt_or_le z (-1) with h3 | h3
        · have := Int.mul_le_mul (a := 2) (b := 2) (c := -z) (d := -z) (by omega) (by omega) (by omega) (by omega)
          rw [Int.neg_mul_neg] at this; omega
        · omega
    · rcases Int.lt_trichotomy z 0 with h | h | h
      · right
        have := Int.mul_le_mul (a := 1) (b := 1) (c := -z) (d := -z) (by omega) (by omega) (by omega) (by omega)
        rw [Int.neg_mul_neg] at this; omega
      · exact .inl h
      · right
        have := Int.mul_le_mul (a := 1) (b := 1) (c := z) (d := z) (by omega) (by omega) (by omega) (by omega)
        omega
  obtain ⟨x0, x1, x2⟩ := sq x
  obtain ⟨y0, y1, y2⟩ := sq y
  have hx := x1 (by omega)
  have hy := y1 (by omega)
  rcases hx with rfl | rfl | rfl <;> rcases hy with rfl | rfl | rfl <;> simp_all

theorem beside_cases {W a b : Nat} (h : besideB W a b = true) : (a % W = b % W ∧ (a / W = b / W + 1 ∨ b / W = a / W + 1)) ∨ (a / W = b / W ∧ (a % W = b % W + 1 ∨ b % W = a % W + 1)) := by
  unfold besideB at h
  rw [beq_iff_eq] at h
  rcases sq_one h with ⟨h1, h2⟩ | ⟨h1, h2⟩
  · left; omega
  · right; omega

theorem beside_of {W a b : Nat} (h : (a % W = b % W ∧ b / W = a / W + 1) ∨ (a / W = b / W ∧ b % W = a % W + 1)) : besideB W a b = true ∧ besideB W b a = true := by
  unfold besideB
  rw [beq_iff_eq, beq_iff_eq]
  generalize a % W = p at *
  generalize b % W = q at *
  generalize a / W = r at *
  generalize b / W = s at *
  rcases h with ⟨rfl, rfl⟩ | ⟨rfl, rfl⟩
  · have e1 : ((r : Nat) : Int) - ((r + 1 : Nat) : Int) = -1 := by omega
    have e2 : ((r + 1 : Nat) : Int) - ((r : Nat) : Int) = 1 := by omega
    rw [e1, e2]; simp
  · have e1 : ((p : Nat) : Int) - ((p + 1 : Nat) : Int) = -1 := by omega
    have e2 : ((p + 1 : Nat) : Int) - ((p : Nat) : Int) = 1 := by omega
    rw [e1, e2]; simp

/-- The sides, in the program's order, up to a cell. -/
def sideA (W : Nat) (sel : Nat → Bool) (i : Nat) : Bool := decide (0 < i % W) && sel i && sel (i - 1)
def sideB (W : Nat) (sel : Nat → Bool) (i : Nat) : Bool := decide (W ≤ i) && sel i && sel (i - W)
def sides (W : Nat) (sel : Nat → Bool) : Nat → List (Nat × Nat)
  | 0 => []
  | i + 1 => (sides W sel i ++ if sideA W sel i = true then [(i - 1, i)] else []) ++ if sideB W sel i = true then [(i - W, i)] else []

theorem mem_sides {W : Nat} {sel : Nat → Bool} {a b : Nat} (hW : 0 < W) : ∀ n, (a, b) ∈ sides W sel n ↔ b < n ∧ ((sideA W sel b = true ∧ a + 1 = b) ∨ (sideB W sel b = true ∧ a + W = b)) := by
  intro n
  induction n with
  | zero => simp [sides]
  | succ n ih =>
    have pos : sideA W sel n = true → 0 < n := by
      intro h
      simp only [sideA, Bool.and_eq_true, decide_eq_true_eq] at h
      have := h.1.1
      have := Nat.mod_le n W
      omega
    have le : sideB W sel n = true → W ≤ n := by
      intro h
      simp only [sideB, Bool.and_eq_true, decide_eq_true_eq] at h
      exact h.1.1
    have mA : ((a, b) ∈ if sideA W sel n = true then [(n - 1, n)] else []) ↔ (sideA W sel n = true ∧ b = n ∧ a + 1 = n) := by
      by_cases h : sideA W sel n = true
      · rw [if_pos h]
        have := pos h
        simp only [List.mem_singleton, Prod.mk.injEq]
        constructor
        · rintro ⟨h1, h2⟩; exact ⟨h, h2, by omega⟩
        · rintro ⟨_, h1, h2⟩; exact ⟨by omega, h1⟩
      · rw [if_neg h]
        constructor
        · intro hc; cases hc
        · rintro ⟨hc, _⟩; exact absurd hc h
    have mB : ((a, b) ∈ if sideB W sel n = true then [(n - W, n)] else []) ↔ (sideB W sel n = true ∧ b = n ∧ a + W = n) := by
      by_cases h : sideB W sel n = true
      · rw [if_pos h]
        have := le h
        simp only [List.mem_singleton, Prod.mk.injEq]
        constructor
        · rintro ⟨h1, h2⟩; exact ⟨h, h2, by omega⟩
        · rintro ⟨_, h1, h2⟩; exact ⟨by omega, h1⟩
      · rw [if_neg h]
        constructor
        · intro hc; cases hc
        · rintro ⟨hc, _⟩; exact absurd hc h
    rw [sides, List.mem_append, List.mem_append, mA, mB, ih]
    constructor
    · rintro ((⟨h1, h2⟩ | ⟨h1, rfl, h2⟩) | ⟨h1, rfl, h2⟩)
      · exact ⟨by omega, h2⟩
      · exact ⟨by omega, .inl ⟨h1, h2⟩⟩
      · exact ⟨by omega, .inr ⟨h1, h2⟩⟩
    · rintro ⟨h1, h2⟩
      by_cases hb : b = n
      · subst hb
        rcases h2 with ⟨h2, h3⟩ | ⟨h2, h3⟩
        · exact .inl (.inr ⟨h2, rfl, h3⟩)
        · exact .inr ⟨h2, rfl, h3⟩
      · exact .inl (.inl ⟨by omega, h2⟩)

theorem sides_len (W : Nat) (sel : Nat → Bool) : ∀ n, (sides W sel n).length ≤ 2 * n := by
  intro n
  induction n with
  | zero => exact Nat.le_refl _
  | succ n ih =>
    rw [sides, List.length_append, List.length_append]
    split <;> split <;> simp <;> omega

theorem dm (W a : Nat) : a = W * (a / W) + a % W := (Nat.div_add_mod a W).symm

theorem lay_of {W n : Nat} (sel : Nat → Bool) (hW : 0 < W) : Lay n sel (besideB W) (sides W sel n) where
  A := by
    intro a b ha hb hsa hsb h
    have da := dm W a
    have db := dm W b
    rcases beside_cases h with ⟨h1, h2 | h2⟩ | ⟨h1, h2 | h2⟩
    · have e : b + W = a := by rw [da, db, h1, h2, Nat.mul_add]; omega
      refine (labs_edge _ ((mem_sides hW n).2 ⟨ha, .inr ⟨?_, e⟩⟩)).symm
      have : a - W = b := by omega
      simp [sideB, hsa, hsb, this]; omega
    · have e : a + W = b := by rw [da, db, h1, h2, Nat.mul_add]; omega
      refine labs_edge _ ((mem_sides hW n).2 ⟨hb, .inr ⟨?_, e⟩⟩)
      have : b - W = a := by omega
      simp [sideB, hsa, hsb, this]; omega
    · have e : b + 1 = a := by rw [da, db, h1, h2]; omega
      refine (labs_edge _ ((mem_sides hW n).2 ⟨ha, .inl ⟨?_, e⟩⟩)).symm
      have : a - 1 = b := by omega
      simp [sideA, hsa, hsb, this]; omega
    · have e : a + 1 = b := by rw [da, db, h1, h2]; omega
      refine labs_edge _ ((mem_sides hW n).2 ⟨hb, .inl ⟨?_, e⟩⟩)
      have : b - 1 = a := by omega
      simp [sideA, hsa, hsb, this]; omega
  B := by
    intro a b h
    obtain ⟨hb, h | h⟩ := (mem_sides hW n).1 h
    · obtain ⟨h, e⟩ := h
      simp only [sideA, Bool.and_eq_true, decide_eq_true_eq] at h
      obtain ⟨⟨h1, h2⟩, h3⟩ := h
      have ea : b - 1 = a := by omega
      rw [ea] at h3
      have db := dm W b
      have e2 : a = W * (b / W) + (b % W - 1) := by omega
      have hlt : b % W - 1 < W := by have := Nat.mod_lt b hW; omega
      have e3 : a / W = b / W := by
        rw [e2, Nat.mul_add_div hW, Nat.div_eq_of_lt hlt, Nat.add_zero]
      have e4 : a % W = b % W - 1 := by
        rw [e2, Nat.mul_add_mod, Nat.mod_eq_of_lt hlt]
      exact ⟨by omega, hb, h3, h2, beside_of (.inr ⟨e3, by omega⟩)⟩
    · obtain ⟨h, e⟩ := h
      simp only [sideB, Bool.and_eq_true, decide_eq_true_eq] at h
      obtain ⟨⟨h1, h2⟩, h3⟩ := h
      have ea : b - W = a := by omega
      rw [ea] at h3
      subst e
      exact ⟨by omega, hb, h3, h2, beside_of (.inl ⟨by rw [Nat.add_mod_right], by rw [Nat.add_div_right _ hW]⟩)⟩
end Vd
end Go.Proofs.Ythddnjhdonnojaa
