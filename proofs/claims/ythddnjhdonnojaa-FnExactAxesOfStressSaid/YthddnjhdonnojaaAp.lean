/- The ratio of a point's coordinates, its angle narrowed, and what of an infinite point is drawn. No program is in sight. -/
import Derived.Test.YthddnjhdonnojaaAo
namespace Go.Proofs.Ythddnjhdonnojaa
set_option linter.unusedVariables false
set_option linter.unusedSimpArgs false
namespace Fl

theorem order_rung {a b : Nat} (ha : a < Ieee.double.infRung) (hb : b < Ieee.double.infRung) :
    FloatKind.f64.format.order a b = some (compare ((mant Ieee.double a * 2 ^ (plc Ieee.double a - min (plc Ieee.double a) (plc Ieee.double b)).toNat : Nat) : Int) ((mant Ieee.double b * 2 ^ (plc Ieee.double b - min (plc Ieee.double a) (plc Ieee.double b)).toNat : Nat) : Int)) := by
  show (Ieee.double.read a).order (Ieee.double.read b) = _
  rw [read_rung ha, read_rung hb]
  simp only [Ieee.Datum.order, Ieee.signed, Nat.shiftLeft_eq, Bool.false_eq_true, if_false]

/-- How two words without a sign compare. -/
theorem rung_cases {a b : Nat} (ha : a < Ieee.double.infRung) (hb : b < Ieee.double.infRung) :
    (FloatKind.f64.format.order a b = some .lt ∧ LeP (mant Ieee.double a) (plc Ieee.double a) (mant Ieee.double b) (plc Ieee.double b) ∧ b ≠ 0) ∨
    (FloatKind.f64.format.order a b = some .gt ∧ LeP (mant Ieee.double b) (plc Ieee.double b) (mant Ieee.double a) (plc Ieee.double a) ∧ a ≠ 0) ∨
    (FloatKind.f64.format.order a b = some .eq ∧ a = b) := by
  rw [order_rung ha hb]
  have hinj := @rung_inj a b
  have za : a = 0 → mant Ieee.double a = 0 := fun h => mant_zero.2 h
  have zb : b = 0 → mant Ieee.double b = 0 := fun h => mant_zero.2 h
  have le1 : mant Ieee.double a * 2 ^ (plc Ieee.double a - min (plc Ieee.double a) (plc Ieee.double b)).toNat ≤ mant Ieee.double b * 2 ^ (plc Ieee.double b - min (plc Ieee.double a) (plc Ieee.double b)).toNat → LeP (mant Ieee.double a) (plc Ieee.double a) (mant Ieee.double b) (plc Ieee.double b) :=
    fun h => ⟨_, Int.min_le_left _ _, Int.min_le_right _ _, h⟩
  have le2 : mant Ieee.double b * 2 ^ (plc Ieee.double b - min (plc Ieee.double a) (plc Ieee.double b)).toNat ≤ mant Ieee.double a * 2 ^ (plc Ieee.double a - min (plc Ieee.double a) (plc Ieee.double b)).toNat → LeP (mant Ieee.double b) (plc Ieee.double b) (mant Ieee.double a) (plc Ieee.double a) :=
    fun h => ⟨_, Int.min_le_right _ _, Int.min_le_left _ _, h⟩
  have za' : a = 0 → mant Ieee.double a * 2 ^ (plc Ieee.double a - min (plc Ieee.double a) (plc Ieee.double b)).toNat = 0 := fun h => by rw [za h, Nat.zero_mul]
  have zb' : b = 0 → mant Ieee.double b * 2 ^ (plc Ieee.double b - min (plc Ieee.double a) (plc Ieee.double b)).toNat = 0 := fun h => by rw [zb h, Nat.zero_mul]
  generalize mant Ieee.double a * 2 ^ (plc Ieee.double a - min (plc Ieee.double a) (plc Ieee.double b)).toNat = A at *
  generalize mant Ieee.double b * 2 ^ (plc Ieee.double b - min (plc Ieee.double a) (plc Ieee.double b)).toNat = B at *
  rcases Nat.lt_trichotomy A B with h | h | h
  · left
    refine ⟨?_, le1 (by omega), fun hz => by have := zb' hz; omega⟩
    simp only [compare, compareOfLessAndEq]
    rw [if_pos (by omega)]
  · right; right
    refine ⟨?_, hinj h⟩
    rw [h, compare_self]
  · right; left
    refine ⟨?_, le2 (by omega), fun hz => by have := za' hz; omega⟩
    simp only [compare, compareOfLessAndEq]
    rw [if_neg (by omega), if_neg (by omega)]

def overB (a b : Nat) : Bool := FloatKind.f64.format.order a b == some .gt
def ratB (a b : Nat) : Nat := if overB a b then d64 b a else d64 a b

theorem div_le_one {a b : Nat} (ha : a < Ieee.double.infRung) (hb : b < Ieee.double.infRung) (h0 : b ≠ 0) (h : LeP (mant Ieee.double a) (plc Ieee.double a) (mant Ieee.double b) (plc Ieee.double b)) :
    FloatKind.f64.format.div a b = some (d64 a b) ∧ Sm (d64 a b) 0 := by
  obtain ⟨r, h1, h2⟩ := div_gen (j := 0) (read_rung ha) (read_rung hb) (fun hz => h0 (mant_zero.1 hz)) (by rw [Int.add_zero]; exact h) (by omega) (by omega)
  rw [d64_of h1]
  exact ⟨h1, _, h2⟩

/-- The smaller by the greater: valid, and at most 1. -/
theorem ratio_ok {a b : Nat} (ha : a < Ieee.double.infRung) (hb : b < Ieee.double.infRung) (hne : a ≠ 0 ∨ b ≠ 0) :
    (overB a b = true → FloatKind.f64.format.div b a = some (ratB a b)) ∧ (overB a b = false → FloatKind.f64.format.div a b = some (ratB a b)) ∧ Sm (ratB a b) 0 := by
  rcases rung_cases ha hb with ⟨ho, hl, h0⟩ | ⟨ho, hl, h0⟩ | ⟨ho, he⟩
  · have hov : overB a b = false := by simp [overB, ho]
    obtain ⟨h1, h2⟩ := div_le_one ha hb h0 hl
    have e : ∀ a b, overB a b = false → ratB a b = d64 a b := fun a b h => by simp [ratB, h]
    rw [e _ _ hov]
    exact ⟨fun h => (by rw [hov] at h; cases h), fun _ => h1, h2⟩
  · have hov : overB a b = true := by simp [overB, ho]
    obtain ⟨h1, h2⟩ := div_le_one hb ha h0 hl
    have e : ratB a b = d64 b a := by simp [ratB, hov]
    rw [e]
    exact ⟨fun _ => h1, fun h => (by rw [hov] at h; cases h), h2⟩
  · subst he
    have hov : overB a a = false := by simp [overB, ho]
    obtain ⟨h1, h2⟩ := div_le_one ha ha (by omega) ⟨_, Int.le_refl _, Int.le_refl _, Nat.le_refl _⟩
    have e : ∀ a b, overB a b = false → ratB a b = d64 a b := fun a b h => by simp [ratB, h]
    rw [e _ _ hov]
    exact ⟨fun h => (by rw [hov] at h; cases h), fun _ => h1, h2⟩

section
variable {P : Program} (w : World)
theorem run_min {a b : Nat} (ha : a < Ieee.double.infRung) (hb : b < Ieee.double.infRung) (ts : Array TypeId) (t : TypeId) :
    (Builtin.min_ ts t #[.float .f64 a, .float .f64 b]).run P w = .ok (.float .f64 (if overB a b then b else a)) w := by
  rcases rung_cases ha hb with ⟨ho, hl, h0⟩ | ⟨ho, hl, h0⟩ | ⟨ho, he⟩
  · have hov : overB a b = false := by simp [overB, ho]
    simp [Builtin.min_, Builtin.min2, ho, hov]
  · have hov : overB a b = true := by simp [overB, ho]
    simp [Builtin.min_, Builtin.min2, ho, hov]
  · subst he
    simp [Builtin.min_, Builtin.min2, ho]
theorem run_max {a b : Nat} (ha : a < Ieee.double.infRung) (hb : b < Ieee.double.infRung) (ts : Array TypeId) (t : TypeId) :
    (Builtin.max_ ts t #[.float .f64 a, .float .f64 b]).run P w = .ok (.float .f64 (if overB a b then a else b)) w := by
  rcases rung_cases ha hb with ⟨ho, hl, h0⟩ | ⟨ho, hl, h0⟩ | ⟨ho, he⟩
  · have hov : overB a b = false := by simp [overB, ho]
    simp [Builtin.max_, Builtin.max2, ho, hov]
  · have hov : overB a b = true := by simp [overB, ho]
    simp [Builtin.max_, Builtin.max2, ho, hov]
  · subst he
    simp [Builtin.max_, Builtin.max2, ho]
end

/-! ## The sign -/
theorem neg_sm {x : Nat} {j : Int} (h : Sm x j) : Sm (Op.negFloat .f64 x) j := by
  obtain ⟨s, m, e, hr, hl⟩ := h
  have e1 : Op.negFloat .f64 x = x ^^^ 2 ^ 63 := rfl
  have e2 : ∀ k, k < 63 → (x ^^^ 2 ^ 63).testBit k = x.testBit k := by
    intro k hk
    rw [Nat.testBit_xor, Nat.testBit_two_pow]
    have : decide (63 = k) = false := by simp; omega
    rw [this, Bool.xor_false]
  have hmod : (x ^^^ 2 ^ 63) % 2 ^ 63 = x % 2 ^ 63 := by
    apply Nat.eq_of_testBit_eq
    intro k
    rw [Nat.testBit_mod_two_pow, Nat.testBit_mod_two_pow]
    by_cases hk : k < 63
    · rw [e2 k hk]
    · simp [hk]
  have hrd : ∃ s', Ieee.double.read (Op.negFloat .f64 x) = .number s' m e := by
    rw [e1]
    have e3 : (2 : Nat) ^ 63 = Ieee.double.signWeight := by decide
    rw [e3] at hmod ⊢
    unfold Ieee.Format.read at hr ⊢
    simp only at hr ⊢
    rw [hmod]
    split at hr
    · rename_i hc
      injection hr with h1 h2 h3; subst h2; subst h3; rw [if_pos hc]; exact ⟨_, rfl⟩
    · rename_i hc
      split at hr
      · rename_i hc2
        injection hr with h1 h2 h3; subst h2; subst h3; rw [if_neg hc, if_pos hc2]; exact ⟨_, rfl⟩
      · split at hr <;> cases hr
  obtain ⟨s', h1⟩ := hrd
  exact ⟨s', m, e, h1, hl⟩

/-! ## The angle of a point -/
def zeroB (x : Nat) : Bool := FloatKind.f32.format.order x 0 == some .eq
def negB (x : Nat) : Bool := FloatKind.f32.format.order x 0 == some .lt

def ang3 (over left down : Bool) (t0 : Nat) : Nat := if down then Op.negFloat .f64 (ang2 over left t0) else ang2 over left t0
theorem ang3_ok {t0 : Nat} (h : Sm t0 0) (over left down : Bool) : Sm (ang3 over left down t0) 13 := by
  unfold ang3
  cases down
  · exact (ang2_ok h over left).2
  · exact neg_sm (ang2_ok h over left).2

def angW (y x : Nat) : Nat := ang3 (overB (absB (wide y)) (absB (wide x))) (negB x) (negB y) (ratB (absB (wide y)) (absB (wide x)))
def angN (y x : Nat) : Nat := (floatToFloatBits .f64 (angW y x) .f32).getD 0
/-- The angle of a finite point. -/
def angB (y x : Nat) : Nat := if zeroB x && zeroB y then 0 else angN y x

theorem pt_ratio {y x : Nat} (hy : fin .f32 y = true) (hx : fin .f32 x = true) (hne : (zeroB x && zeroB y) = false) : absB (wide y) < Ieee.double.infRung ∧ absB (wide x) < Ieee.double.infRung ∧ (absB (wide y) ≠ 0 ∨ absB (wide x) ≠ 0) := by
  obtain ⟨h1, h2⟩ := abs_wide hy
  obtain ⟨h3, h4⟩ := abs_wide hx
  refine ⟨h1, h3, ?_⟩
  by_cases hz : absB (wide y) = 0
  · right
    intro hz'
    have a1 := h2.1 hz
    have a2 := h4.1 hz'
    simp [zeroB, a1, a2] at hne
  · exact .inl hz

theorem angW_ok {y x : Nat} (hy : fin .f32 y = true) (hx : fin .f32 x = true) (hne : (zeroB x && zeroB y) = false) : floatToFloatBits .f64 (angW y x) .f32 = some (angN y x) ∧ fin .f32 (angN y x) = true := by
  obtain ⟨h1, h2, h3⟩ := pt_ratio hy hx hne
  obtain ⟨s, m, e, hr, hl⟩ := ang3_ok (ratio_ok h1 h2 h3).2.2 (overB (absB (wide y)) (absB (wide x))) (negB x) (negB y)
  have hn : Num (angW y x) s 16777215 104 := ⟨m, e, hr, (hl.up (by omega : (13 : Int) ≤ 104)).mono (by decide)⟩
  obtain ⟨v, hv1, hv2⟩ := narrow_bits hn
  have : angN y x = v := by simp [angN, hv1]
  rw [this]
  exact ⟨hv1, hv2⟩

theorem narrow_zero : floatToFloatBits .f64 0 .f32 = some 0 := by decide

theorem angB_fin {y x : Nat} (hy : fin .f32 y = true) (hx : fin .f32 x = true) : fin .f32 (angB y x) = true := by
  unfold angB
  cases hz : zeroB x && zeroB y
  · exact (angW_ok hy hx hz).2
  · exact (by decide : fin .f32 0 = true)

/-! ## What may be drawn -/
section
variable {P : Program}
/-- An operation on two floats gives a float. -/
theorem arith_any (op : BinOp) (hop : op = .add ∨ op = .sub ∨ op = .mul) (k : FloatKind) (x y : Nat) :
    ∃ (v : World → Nat) (d : Nat), (∀ t w, (binOp op t (.float k x) (.float k y)).run P w = .ok (.float k (v w)) (w.drewN d)) ∧ ((∃ r, floatBits op k x y = some r ∧ v = fun _ => r) ∨ (floatBits op k x y = none ∧ ∀ w, isNaN k (v w) = true)) := by
  cases h : floatBits op k x y with
  | some r => exact ⟨fun _ => r, 0, fun t w => run_float_arith w op t k x y r h, .inl ⟨r, rfl, rfl⟩⟩
  | none =>
    refine ⟨nanOf k (.nanBits k x y), 1, fun t w => ?_, .inr ⟨rfl, isNaN_bits k x y⟩⟩
    rcases hop with rfl | rfl | rfl <;> simp only [floatBits] at h <;> simp [binOp, Op.floatArith, h] <;> rfl

theorem nan_not_fin {k : FloatKind} {x : Nat} (h : isNaN k x = true) : fin k x = false := by
  cases hf : fin k x
  · rfl
  · rw [fin_not_nan hf] at h; cases h

/-- A sum with an infinity is not finite, whatever is drawn. -/
theorem add_inf_any {x y : Nat} (hy : Hinf y) : ∃ (v : World → Nat) (d : Nat), (∀ t w, (binOp .add t (.float .f32 x) (.float .f32 y)).run P w = .ok (.float .f32 (v w)) (w.drewN d)) ∧ ∀ w, fin .f32 (v w) = false := by
  obtain ⟨v, d, h1, ⟨r, h2, rfl⟩ | ⟨h2, h3⟩⟩ := arith_any (P := P) .add (.inl rfl) .f32 x y
  · exact ⟨_, d, h1, fun _ => add_inf hy h2⟩
  · exact ⟨v, d, h1, fun w => nan_not_fin (h3 w)⟩
end
end Fl
end Go.Proofs.Ythddnjhdonnojaa
