/- Plain facts about IEEE words and about what the model's float operations give: which are fixed by the language, and which ask the tape (a NaN's bits). No program is in sight. -/
import Derived.WalkKit
import Derived.WalkLawsBesides
import Derived.Deep.Draws
namespace Go.Proofs.Ythddnjhdonnojaa
set_option linter.unusedVariables false
set_option linter.unusedSimpArgs false
namespace Fl

/-- The number is neither an infinity nor a NaN. -/
def fin (k : FloatKind) (x : Nat) : Bool := match k.decode x with | .number .. => true | _ => false

theorem fin_number {k : FloatKind} {x : Nat} (h : fin k x = true) : ∃ s m e, k.decode x = .number s m e := by
  unfold fin at h
  split at h
  · exact ⟨_, _, _, by assumption⟩
  · cases h

theorem write_zero (f : Ieee.Format) (e : Int) : f.write (.number false 0 e) = 0 := by
  simp [Ieee.Format.write, Ieee.Format.nearest, Ieee.Format.word]

theorem signed_opp (s : Bool) (m u : Nat) : Ieee.signed s m u + Ieee.signed (!s) m u = 0 := by
  cases s <;> simp [Ieee.signed] <;> omega

theorem sub_self {k : FloatKind} {x : Nat} (h : fin k x = true) : k.format.sub x x = some 0 := by
  obtain ⟨s, m, e, hx⟩ := fin_number h
  unfold FloatKind.decode at hx
  unfold Ieee.Format.sub
  rw [hx]
  simp only [Ieee.Datum.opposite, Ieee.Datum.sum, signed_opp]
  cases s <;> simp [write_zero]

theorem sub_self_none {k : FloatKind} {x : Nat} (h : fin k x = false) : k.format.sub x x = none := by
  unfold fin FloatKind.decode at h
  unfold Ieee.Format.sub
  split at h
  · cases h
  · rename_i hn
    cases hx : k.format.read x with
    | number s m e => exact absurd hx (hn s m e)
    | infinity s => cases s <;> simp [Ieee.Datum.opposite, Ieee.Datum.sum]
    | nan s t => simp [Ieee.Datum.opposite, Ieee.Datum.sum]

/-- The NaN that the tape gives where an operation on x and y is invalid. -/
def nanOf (k : FloatKind) (q : Question) (w : World) : Nat := q.cut (w.tape w.drawn q)

def isNaN (k : FloatKind) (x : Nat) : Bool := (k.decode x).isNaN

theorem read_nan32 (s t : Nat) (hs : s < 2) (ht : t < 2 ^ 23 - 1) : (Ieee.single.read (s * 2 ^ 31 + 0x7f800000 + 1 + t)).isNaN = true := by
  have h1 : (s * 2 ^ 31 + 0x7f800000 + 1 + t) % Ieee.single.signWeight = 0x7f800000 + 1 + t := by
    show (s * 2 ^ 31 + 0x7f800000 + 1 + t) % 2 ^ 31 = _
    omega
  have hb : Ieee.single.binade = 8388608 := by decide
  have hi : Ieee.single.infRung = 2139095040 := by decide
  unfold Ieee.Format.read
  simp only [h1, hb, hi]
  rw [if_neg (by omega), if_neg (by omega), if_neg (by omega)]
  rfl

theorem read_nan64 (s t : Nat) (hs : s < 2) (ht : t < 2 ^ 52 - 1) : (Ieee.double.read (s * 2 ^ 63 + 0x7ff0000000000000 + 1 + t)).isNaN = true := by
  have h1 : (s * 2 ^ 63 + 0x7ff0000000000000 + 1 + t) % Ieee.double.signWeight = 0x7ff0000000000000 + 1 + t := by
    show (s * 2 ^ 63 + 0x7ff0000000000000 + 1 + t) % 2 ^ 63 = _
    omega
  have hb : Ieee.double.binade = 4503599627370496 := by decide
  have hi : Ieee.double.infRung = 9218868437227405312 := by decide
  unfold Ieee.Format.read
  simp only [h1, hb, hi]
  rw [if_neg (by omega), if_neg (by omega), if_neg (by omega)]
  rfl

theorem isNaN_bits (k : FloatKind) (x y : Nat) (w : World) : isNaN k (nanOf k (.nanBits k x y) w) = true := by
  cases k
  · exact read_nan32 _ _ (Nat.mod_lt _ (by omega)) (Nat.mod_lt _ (by omega))
  · exact read_nan64 _ _ (Nat.mod_lt _ (by omega)) (Nat.mod_lt _ (by omega))

theorem isNaN_conv (k : FloatKind) (x : Nat) (w : World) : isNaN k (nanOf k (.nanConv k x) w) = true := by
  cases k
  · exact read_nan32 _ _ (Nat.mod_lt _ (by omega)) (Nat.mod_lt _ (by omega))
  · exact read_nan64 _ _ (Nat.mod_lt _ (by omega)) (Nat.mod_lt _ (by omega))

theorem order_nan_left {k : FloatKind} {x : Nat} (h : isNaN k x = true) (y : Nat) : k.format.order x y = none := by
  unfold isNaN FloatKind.decode at h
  unfold Ieee.Format.order
  cases hx : k.format.read x <;> rw [hx] at h <;> simp_all [Ieee.Datum.order, Ieee.Datum.isNaN]

theorem order_nan_right {k : FloatKind} {y : Nat} (h : isNaN k y = true) (x : Nat) : k.format.order x y = none := by
  unfold isNaN FloatKind.decode at h
  unfold Ieee.Format.order
  cases hy : k.format.read y <;> rw [hy] at h <;> simp_all [Ieee.Datum.isNaN]
  cases k.format.read x <;> simp [Ieee.Datum.order]

theorem compare_self (a : Int) : compare a a = Ordering.eq := by
  simp [compare, compareOfLessAndEq]

theorem order_self {k : FloatKind} {x : Nat} (h : isNaN k x = false) : k.format.order x x = some .eq := by
  unfold isNaN FloatKind.decode at h
  unfold Ieee.Format.order
  cases hx : k.format.read x <;> rw [hx] at h <;> simp_all [Ieee.Datum.order, Ieee.Datum.isNaN, compare_self]

theorem fin_not_nan {k : FloatKind} {x : Nat} (h : fin k x = true) : isNaN k x = false := by
  obtain ⟨s, m, e, hx⟩ := fin_number h
  simp [isNaN, hx, Ieee.Datum.isNaN]

section
variable {P : Program} (w : World)
theorem run_sub_self {k : FloatKind} {x : Nat} (h : fin k x = true) (t : TypeId) : (binOp .sub t (.float k x) (.float k x)).run P w = .ok (.float k 0) w :=
  run_float_arith w .sub t k x x 0 (sub_self h)
theorem run_sub_self_nan {k : FloatKind} {x : Nat} (h : fin k x = false) (t : TypeId) :
    (binOp .sub t (.float k x) (.float k x)).run P w = .ok (.float k (nanOf k (.nanBits k x x) w)) w.drew := by
  simp [binOp, Op.floatArith, sub_self_none h]
  rfl
end

/-! ## From single to double -/

theorem cut_zero (neg : Bool) (n : Nat) : Ieee.Toward.even.cut neg n 0 = n := by
  have h1 : n % 1 = 0 := Nat.mod_one n
  simp [Ieee.Toward.cut, h1]

theorem shift_small (mag k : Nat) (hm : mag ≠ 0) (hk : k ≤ 52 - mag.log2) (hl : mag.log2 < 24) : mag <<< k < 9007199254740992 := by
  have hhi : mag < 2 ^ (mag.log2 + 1) := Nat.lt_log2_self
  rw [Nat.shiftLeft_eq]
  have a1 : mag * 2 ^ k ≤ mag * 2 ^ (52 - mag.log2) := Nat.mul_le_mul_left _ (Nat.pow_le_pow_right (by omega) hk)
  have a2 : mag * 2 ^ (52 - mag.log2) < 2 ^ (mag.log2 + 1) * 2 ^ (52 - mag.log2) := Nat.mul_lt_mul_of_pos_right hhi (Nat.two_pow_pos _)
  have a3 : 2 ^ (mag.log2 + 1) * 2 ^ (52 - mag.log2) = 2 ^ 53 := by
    rw [← Nat.pow_add, show mag.log2 + 1 + (52 - mag.log2) = 53 from by omega]
  rw [a3] at a2
  exact Nat.lt_of_le_of_lt a1 a2

theorem hlpD : Ieee.double.leastPlace = -1074 := by decide
theorem hbD : Ieee.double.binade = 4503599627370496 := by decide
theorem hiD : Ieee.double.infRung = 9218868437227405312 := by decide
theorem hsD : Ieee.double.signWeight = 9223372036854775808 := by decide

theorem arith (l : Nat) (place last : Int) (hl : l < 24) (h0 : -149 ≤ place) (h1 : place ≤ 104) (h : max (place + (l : Int) - ((52 : Nat) : Int)) (-1074) = last) :
    (last - place).toNat = 0 ∧ (place - last).toNat ≤ 52 - l ∧ (last - -1074).toNat ≤ 1149 := by
  omega
theorem arith2 (up kept : Nat) (h : up ≤ 1149) (hk : kept < 9007199254740992) : min (up * 4503599627370496 + kept) 9218868437227405312 < 9218868437227405312 := by
  omega
theorem rung_small (mag : Nat) (place : Int) (hm : mag ≠ 0) (h24 : mag < 2 ^ 24) (h0 : -149 ≤ place) (h1 : place ≤ 104) (neg : Bool) :
    ∃ r, r < 9218868437227405312 ∧ Ieee.double.nearest neg mag place = Ieee.double.word neg r := by
  have hl : mag.log2 < 24 := (Nat.log2_lt hm).2 h24
  unfold Ieee.Format.nearest
  rw [if_neg hm]
  simp only [hlpD, hbD, hiD, show Ieee.double.fractionBits = 52 from rfl]
  generalize hlast : max (place + (mag.log2 : Int) - ((52 : Nat) : Int)) (-1074) = last
  obtain ⟨e1, e2, e3⟩ := arith _ _ _ hl h0 h1 hlast
  have hk := shift_small mag _ hm e2 hl
  rw [e1, cut_zero]
  exact ⟨_, arith2 _ _ e3 hk, rfl⟩

theorem read_word (neg : Bool) (r : Nat) (h : r < 9218868437227405312) : ∃ m e, Ieee.double.read (Ieee.double.word neg r) = .number neg m e := by
  have hb := hbD
  have hi := hiD
  have hs := hsD
  have h1 : Ieee.double.word neg r % Ieee.double.signWeight = r := by
    unfold Ieee.Format.word
    rw [hs]
    split <;> omega
  have h2 : (Ieee.double.word neg r / Ieee.double.signWeight % 2 == 1) = neg := by
    unfold Ieee.Format.word
    rw [hs]
    cases neg
    · simp; omega
    · simp; omega
  unfold Ieee.Format.read
  simp only [h1, h2]
  by_cases hlt : r < Ieee.double.binade
  · rw [if_pos hlt]; exact ⟨_, _, rfl⟩
  · rw [if_neg hlt, if_pos (by omega)]; exact ⟨_, _, rfl⟩

theorem read_single (x : Nat) : (∃ s m e, Ieee.single.read x = .number s m e ∧ m < 2 ^ 24 ∧ -149 ≤ e ∧ e ≤ 104) ∨ (∃ s, Ieee.single.read x = .infinity s) ∨ (Ieee.single.read x).isNaN = true := by
  have hb : Ieee.single.binade = 8388608 := by decide
  have hi : Ieee.single.infRung = 2139095040 := by decide
  have hl : Ieee.single.leastPlace = -149 := by decide
  unfold Ieee.Format.read
  simp only [hb, hi, hl]
  split
  · exact .inl ⟨_, _, _, rfl, by omega, by omega, by omega⟩
  · split
    · exact .inl ⟨_, _, _, rfl, by omega, by omega, by omega⟩
    · split
      · exact .inr (.inl ⟨_, rfl⟩)
      · exact .inr (.inr rfl)

/-- A 32-bit number as a 64-bit one, where it is no NaN. -/
def wide (x : Nat) : Nat := FloatKind.f64.encode (FloatKind.f32.decode x)

theorem wide_number {s : Bool} {m : Nat} {e : Int} (h24 : m < 2 ^ 24) (h0 : -149 ≤ e) (h1 : e ≤ 104) : ∃ m' e', FloatKind.f64.decode (FloatKind.f64.encode (.number s m e)) = .number s m' e' := by
  show ∃ m' e', Ieee.double.read (Ieee.double.nearest s m e) = .number s m' e'
  by_cases hm : m = 0
  · subst hm
    have : Ieee.double.nearest s 0 e = Ieee.double.word s 0 := by simp [Ieee.Format.nearest]
    rw [this]
    exact read_word s 0 (by decide)
  · obtain ⟨r, hr, e1⟩ := rung_small m e hm h24 h0 h1 s
    rw [e1]
    exact read_word s r hr

theorem wide_inf (s : Bool) : FloatKind.f64.decode (FloatKind.f64.encode (.infinity s)) = .infinity s := by
  cases s <;> decide

theorem wide_not_nan {x : Nat} (h : isNaN .f32 x = false) : isNaN .f64 (wide x) = false := by
  unfold isNaN wide FloatKind.decode at *
  rcases read_single x with ⟨s, m, e, hx, h24, h0, h1⟩ | ⟨s, hx⟩ | hx
  · obtain ⟨m', e', hy⟩ := wide_number (s := s) h24 h0 h1
    unfold FloatKind.decode at hy
    show (FloatKind.f64.format.read (FloatKind.f64.encode (Ieee.single.read x))).isNaN = false
    rw [hx, hy]; rfl
  · show (FloatKind.f64.format.read (FloatKind.f64.encode (Ieee.single.read x))).isNaN = false
    rw [hx]
    have := wide_inf s
    unfold FloatKind.decode at this
    rw [this]; rfl
  · exact absurd hx (by show ¬ (Ieee.single.read x).isNaN = true; rw [show (Ieee.single.read x).isNaN = false from h]; simp)

theorem wide_bits {x : Nat} (h : isNaN .f32 x = false) : floatToFloatBits .f32 x .f64 = some (wide x) := by
  unfold floatToFloatBits wide
  rw [if_neg (by decide)]
  rcases read_single x with ⟨s, m, e, hx, h24, h0, h1⟩ | ⟨s, hx⟩ | hx
  · have hx' : FloatKind.f32.decode x = .number s m e := hx
    obtain ⟨m', e', hy⟩ := wide_number (s := s) h24 h0 h1
    rw [hx']
    simp only [hy]
    rfl
  · have hx' : FloatKind.f32.decode x = .infinity s := hx
    rw [hx']
  · exact absurd hx (by show ¬ (Ieee.single.read x).isNaN = true; rw [show (Ieee.single.read x).isNaN = false from h]; simp)

section
variable {P : Program} (w : World)
theorem run_wide {x : Nat} (h : isNaN .f32 x = false) {src dst : TypeId} (hs : (P.underlying src).isSome = true) (hd : P.underlying dst = some (.float .f64)) :
    (convert src dst (.float .f32 x)).run P w = .ok (.float .f64 (wide x)) w := run_convert_float_float w src dst .f32 .f64 x _ hs hd (wide_bits h)
theorem run_wide_nan {x : Nat} (h : isNaN .f32 x = true) {src dst : TypeId} (hs : (P.underlying src).isSome = true) (hd : P.underlying dst = some (.float .f64)) :
    (convert src dst (.float .f32 x)).run P w = .ok (.float .f64 (nanOf .f64 (.nanConv .f64 x) w)) w.drew := by
  obtain ⟨u, hs'⟩ := Option.isSome_iff_exists.1 hs
  unfold isNaN at h
  cases hx : FloatKind.f32.decode x <;> rw [hx] at h <;> simp_all [Ieee.Datum.isNaN]
  cases u <;> simp [convert, run_underlying hs', run_underlying hd, Conv.floatToFloat, hx] <;> rfl
end

/-- 1 divided by a zero is an infinity. -/
theorem div_zero {a : Nat} (h : FloatKind.f64.format.order a 0 = some .eq) : ∃ r, FloatKind.f64.format.div 4607182418800017408 a = some r := by
  have h0 : Ieee.double.read 0 = .number false 0 (-1074) := by decide
  have h1 : Ieee.double.read 4607182418800017408 = .number false 4503599627370496 (-52) := by decide
  have h : (Ieee.double.read a).order (Ieee.double.read 0) = some .eq := h
  show ∃ r, Ieee.double.div 4607182418800017408 a = some r
  unfold Ieee.Format.div
  rw [h1]
  rw [h0] at h
  cases ha : Ieee.double.read a with
  | number s m e =>
    by_cases hm : m = 0
    · subst hm
      simp [Ieee.Datum.quotient]
    · simp [Ieee.Datum.quotient, hm]
  | infinity s => simp [Ieee.Datum.quotient]
  | nan s t => rw [ha] at h; simp [Ieee.Datum.order] at h
end Fl
end Go.Proofs.Ythddnjhdonnojaa
