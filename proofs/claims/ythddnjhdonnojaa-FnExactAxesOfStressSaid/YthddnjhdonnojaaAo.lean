/- Signs, absolute values and ratios of 32-bit numbers seen as 64-bit ones. No program is in sight. -/
import Derived.Test.YthddnjhdonnojaaAl
namespace Go.Proofs.Ythddnjhdonnojaa
set_option linter.unusedVariables false
set_option linter.unusedSimpArgs false
namespace Fl

theorem word_inj (f : Ieee.Format) {s : Bool} {r r' : Nat} (h : f.word s r = f.word s r') : r = r' := by
  unfold Ieee.Format.word at h
  split at h <;> omega

theorem wide_word {x : Nat} (h : fin .f32 x = true) : ∃ s m e r, Ieee.single.read x = .number s m e ∧ wide x = Ieee.double.word s r ∧ r < Ieee.double.infRung ∧ (m = 0 ↔ r = 0) := by
  obtain ⟨s, m, e, hx⟩ := fin_number h
  have hx : Ieee.single.read x = .number s m e := hx
  have hw : wide x = Ieee.double.nearest s m e := by
    show Ieee.double.write (Ieee.single.read x) = _
    rw [hx]; rfl
  have hm : m < 2 ^ 24 ∧ e ≤ 104 ∧ -149 ≤ e := by
    rcases read_single x with ⟨s', m', e', h1, h2, h3, h4⟩ | ⟨s', h1⟩ | h1
    · rw [hx] at h1; cases h1; exact ⟨h2, h4, h3⟩
    · rw [hx] at h1; cases h1
    · rw [hx] at h1; simp [Ieee.Datum.isNaN] at h1
  by_cases h0 : m = 0
  · subst h0
    refine ⟨s, 0, e, 0, hx, ?_, by decide, by simp⟩
    rw [hw]; simp [Ieee.Format.nearest]
  · obtain ⟨r, h1, h2⟩ := rung_small m e h0 hm.1 hm.2.2 hm.2.1 s
    obtain ⟨r', h3, h4, h5⟩ := nearest_ge Ieee.double (neg := s) (m := m) (e := e) (q := -1074) h0 (by rw [fbD]; omega) (by rw [hlpD]; omega)
    have hrr : r = r' := word_inj Ieee.double (by rw [← h2, h3])
    rw [hlpD, hbD, hiD] at h4
    refine ⟨s, m, e, r, hx, by rw [hw, h2], by rw [hiD]; exact h1, ?_⟩
    constructor
    · intro hc; exact absurd hc h0
    · intro hc; exfalso; omega

theorem ord_zero (s : Bool) (m : Nat) (e j : Int) : (Ieee.Datum.number s m e).order (.number false 0 j) = some (if m = 0 then .eq else if s then .lt else .gt) := by
  have hp : 0 < 2 ^ (e - min e j).toNat := Nat.two_pow_pos _
  simp only [Ieee.Datum.order, Ieee.signed, Nat.shiftLeft_eq, Nat.zero_mul, Bool.false_eq_true, if_false]
  by_cases hm : m = 0
  · subst hm
    simp [compare_self]
  · have hpos : 0 < m * 2 ^ (e - min e j).toNat := Nat.mul_pos (by omega) hp
    rw [if_neg hm]
    generalize m * 2 ^ (e - min e j).toNat = A at *
    cases s
    · simp only [compare, compareOfLessAndEq, Bool.false_eq_true, if_false]
      rw [if_neg (by omega), if_neg (by omega)]
    · simp only [compare, compareOfLessAndEq, if_true]
      rw [if_pos (by omega)]

/-- A sign and a zero are seen in the 64-bit word as in the 32-bit one. -/
theorem order_zero {x : Nat} (h : fin .f32 x = true) : FloatKind.f64.format.order (wide x) 0 = FloatKind.f32.format.order x 0 := by
  obtain ⟨s, m, e, r, hx, hw, hlt, hz⟩ := wide_word h
  have h0 : Ieee.single.read 0 = .number false 0 (-149) := by decide
  have h1 : Ieee.double.read 0 = .number false 0 (-1074) := by decide
  have hr := read_num Ieee.double s r hlt
  show (Ieee.double.read (wide x)).order (Ieee.double.read 0) = (Ieee.single.read x).order (Ieee.single.read 0)
  rw [h0, h1, hx, hw, hr, ord_zero, ord_zero]
  have hm : mant Ieee.double r = 0 ↔ m = 0 := by
    rw [hz]
    unfold mant
    rw [hbD]
    split <;> omega
  by_cases hc : m = 0
  · rw [if_pos hc, if_pos (hm.2 hc)]
  · rw [if_neg hc, if_neg (fun h => hc (hm.1 h))]

/-! ## Absolute values -/
def absB (x : Nat) : Nat := (bits .andNot .u64 (x : Int) 9223372036854775808).toNat

theorem abs_word (s : Bool) (r : Nat) (h : r < 9223372036854775808) : absB (Ieee.double.word s r) = r := by
  have hs : Ieee.double.word s r < 18446744073709551616 := by
    unfold Ieee.Format.word
    rw [hsD]
    split <;> omega
  unfold absB
  have := u64_andNot_nat (Ieee.double.word s r) 9223372036854775808 hs (by omega)
  rw [show ((9223372036854775808 : Nat) : Int) = 9223372036854775808 from rfl] at this
  rw [this, Int.toNat_natCast]
  have e : (18446744073709551615 - 9223372036854775808 : Nat) = 2 ^ 63 - 1 := by decide
  rw [e, Nat.and_two_pow_sub_one_eq_mod]
  unfold Ieee.Format.word
  rw [hsD]
  split <;> omega

/-- The absolute value of a finite number, as a word without a sign. -/
theorem abs_wide {x : Nat} (h : fin .f32 x = true) : absB (wide x) < Ieee.double.infRung ∧ (absB (wide x) = 0 ↔ FloatKind.f32.format.order x 0 = some .eq) := by
  obtain ⟨s, m, e, r, hx, hw, hlt, hz⟩ := wide_word h
  have hr : absB (wide x) = r := by rw [hw]; exact abs_word s r (by rw [hiD] at hlt; omega)
  rw [hr]
  refine ⟨hlt, ?_⟩
  have h0 : Ieee.single.read 0 = .number false 0 (-149) := by decide
  show r = 0 ↔ (Ieee.single.read x).order (Ieee.single.read 0) = some .eq
  rw [h0, hx, ord_zero, ← hz]
  by_cases hc : m = 0
  · simp [hc]
  · cases s <;> simp [hc]

theorem read_rung {r : Nat} (h : r < Ieee.double.infRung) : Ieee.double.read r = .number false (mant Ieee.double r) (plc Ieee.double r) := read_num Ieee.double false r h

theorem mant_zero {r : Nat} : mant Ieee.double r = 0 ↔ r = 0 := by
  unfold mant
  rw [hbD]
  split <;> omega

/-- Words without a sign that stand for one number are one. -/
theorem rung_inj {r r' : Nat} (h : mant Ieee.double r * 2 ^ (plc Ieee.double r - min (plc Ieee.double r) (plc Ieee.double r')).toNat = mant Ieee.double r' * 2 ^ (plc Ieee.double r' - min (plc Ieee.double r) (plc Ieee.double r')).toNat) : r = r' := by
  have big : ∀ (M N k : Nat), M < 9007199254740992 → 4503599627370496 ≤ N → 1 ≤ k → M * 2 ^ 0 ≠ N * 2 ^ k := by
    intro M N k h1 h2 h3 h4
    have : 2 ^ 1 ≤ 2 ^ k := Nat.pow_le_pow_right (by omega) h3
    have := Nat.mul_le_mul h2 this
    omega
  have m1 : ∀ ρ, mant Ieee.double ρ < 9007199254740992 := by
    intro ρ; unfold mant; rw [hbD]; split <;> omega
  rcases Int.lt_trichotomy (plc Ieee.double r) (plc Ieee.double r') with hc | hc | hc
  · exfalso
    have z1 : (plc Ieee.double r - min (plc Ieee.double r) (plc Ieee.double r')).toNat = 0 := by omega
    have hN : 4503599627370496 ≤ mant Ieee.double r' := by
      have := plc_ge Ieee.double r
      unfold plc at hc
      unfold mant
      rw [hbD] at *
      by_cases a1 : r < 4503599627370496 <;> by_cases a2 : r' < 4503599627370496 <;> simp only [a1, a2, if_true, if_false] at hc ⊢ <;> omega
    rw [z1] at h
    exact big _ _ _ (m1 r) hN (by omega) h
  · have z1 : (plc Ieee.double r - min (plc Ieee.double r) (plc Ieee.double r')).toNat = 0 := by omega
    have z2 : (plc Ieee.double r' - min (plc Ieee.double r) (plc Ieee.double r')).toNat = 0 := by omega
    rw [z1, z2, Nat.pow_zero, Nat.mul_one, Nat.mul_one] at h
    unfold plc at hc
    unfold mant at h
    rw [hbD] at *
    by_cases a1 : r < 4503599627370496 <;> by_cases a2 : r' < 4503599627370496 <;> simp only [a1, a2, if_true, if_false] at hc h ⊢ <;> omega
  · exfalso
    have z1 : (plc Ieee.double r' - min (plc Ieee.double r) (plc Ieee.double r')).toNat = 0 := by omega
    have hN : 4503599627370496 ≤ mant Ieee.double r := by
      have := plc_ge Ieee.double r'
      unfold plc at hc
      unfold mant
      rw [hbD] at *
      by_cases a1 : r < 4503599627370496 <;> by_cases a2 : r' < 4503599627370496 <;> simp only [a1, a2, if_true, if_false] at hc ⊢ <;> omega
    rw [z1] at h
    exact big _ _ _ (m1 r') hN (by omega) h.symm
end Fl
end Go.Proofs.Ythddnjhdonnojaa
