/- Halves, lengths, and what of a 32-bit number is seen in its 64-bit word. No program is in sight. -/
import Derived.Test.YthddnjhdonnojaaAg
namespace Go.Proofs.Ythddnjhdonnojaa
set_option linter.unusedVariables false
set_option linter.unusedSimpArgs false
namespace Fl

/-! ## Halves -/
abbrev halfW : Nat := 1056964608
theorem read_half : Ieee.single.read halfW = .number false 8388608 (-24) := by decide
def hf (x : Nat) : Nat := (FloatKind.f32.format.mul halfW x).getD 0

/-- Half of a finite number: small, or an infinity. -/
def Hfin (x : Nat) : Prop := ∃ s m e, Ieee.single.read x = .number s m e ∧ LeP m e 16777215 103
def Hinf (x : Nat) : Prop := ∃ s, Ieee.single.read x = .infinity s

theorem Hfin.fin {x : Nat} (h : Hfin x) : fin .f32 x = true := by
  obtain ⟨s, m, e, hr, _⟩ := h
  have hr' : FloatKind.f32.decode x = .number s m e := hr
  simp [Fl.fin, hr']
theorem Hinf.fin {x : Nat} (h : Hinf x) : Fl.fin .f32 x = false := by
  obtain ⟨s, hr⟩ := h
  have hr' : FloatKind.f32.decode x = .infinity s := hr
  simp [Fl.fin, hr']
theorem Hinf.nan {x : Nat} (h : Hinf x) : isNaN .f32 x = false := by
  obtain ⟨s, hr⟩ := h
  have hr' : FloatKind.f32.decode x = .infinity s := hr
  simp [isNaN, hr', Ieee.Datum.isNaN]

theorem hf_fin {x : Nat} (h : fin .f32 x = true) : FloatKind.f32.format.mul halfW x = some (hf x) ∧ Hfin (hf x) := by
  obtain ⟨s, m, e, hx⟩ := fin_number h
  have hx : Ieee.single.read x = .number s m e := hx
  have hm : m < 2 ^ 24 ∧ e ≤ 104 ∧ -149 ≤ e := by
    rcases read_single x with ⟨s', m', e', h1, h2, h3, h4⟩ | ⟨s', h1⟩ | h1
    · rw [hx] at h1; cases h1; exact ⟨h2, h4, h3⟩
    · rw [hx] at h1; cases h1
    · rw [hx] at h1; simp [Ieee.Datum.isNaN] at h1
  have hmul : FloatKind.f32.format.mul halfW x = some (Ieee.single.nearest (false ^^ s) (8388608 * m) (-24 + e)) := by
    show Ieee.single.mul halfW x = _
    unfold Ieee.Format.mul
    rw [read_half, hx]
    rfl
  have hl : LeP (8388608 * m) (-24 + e) 16777215 103 := by
    refine ⟨-24 + e, Int.le_refl _, by omega, ?_⟩
    have z : (-24 + e - (-24 + e)).toNat = 0 := by omega
    rw [z, Nat.pow_zero, Nat.mul_one]
    have h1 : m ≤ 16777215 := by omega
    have h2 : 2 ^ 23 ≤ 2 ^ (103 - (-24 + e)).toNat := Nat.pow_le_pow_right (by omega) (by omega)
    calc 8388608 * m = m * 2 ^ 23 := Nat.mul_comm _ _
      _ ≤ 16777215 * 2 ^ (103 - (-24 + e)).toNat := Nat.mul_le_mul h1 h2
  have hlpS : Ieee.single.leastPlace = -149 := by decide
  have hK1 : 2 ^ Ieee.single.fractionBits ≤ 16777215 := by decide
  have hK2 : 16777215 < 2 ^ (Ieee.single.fractionBits + 1) := by decide
  have hQ : Ieee.single.leastPlace ≤ (103 : Int) := by rw [hlpS]; omega
  obtain ⟨r, h1, h2, h3⟩ := nearest_le Ieee.single (neg := (false ^^ s)) hl hK1 hK2 hQ
  have h2' := h2
  rw [hlpS, hbS] at h2
  have hlt : r < Ieee.single.infRung := by rw [hiS]; omega
  refine ⟨by rw [hmul]; simp [hf, hmul], ?_⟩
  have : hf x = Ieee.single.word (false ^^ s) r := by unfold hf; rw [hmul, Option.getD_some, h1]
  rw [this]
  exact ⟨_, _, _, read_num Ieee.single _ r hlt, le_of_rung Ieee.single hK1 hK2 hQ h2'⟩

theorem hf_inf {x : Nat} (h : Hinf x) : FloatKind.f32.format.mul halfW x = some (hf x) ∧ Hinf (hf x) := by
  obtain ⟨s, hx⟩ := h
  have hmul : FloatKind.f32.format.mul halfW x = some (Ieee.single.write (.infinity (s ^^ false))) := by
    show Ieee.single.mul halfW x = _
    unfold Ieee.Format.mul
    rw [read_half, hx]
    rfl
  refine ⟨by rw [hmul]; simp [hf, hmul], ?_⟩
  have : hf x = Ieee.single.write (.infinity (s ^^ false)) := by simp [hf, hmul]
  rw [this]
  have hd : ∀ s : Bool, Ieee.single.read (Ieee.single.write (.infinity s)) = .infinity s := by decide
  exact ⟨_, hd _⟩

theorem hf_nan {x : Nat} (h : isNaN .f32 x = true) : FloatKind.f32.format.mul halfW x = none := by
  have h' : (Ieee.single.read x).isNaN = true := h
  show Ieee.single.mul halfW x = none
  unfold Ieee.Format.mul
  rw [read_half]
  cases hx : Ieee.single.read x <;> rw [hx] at h' <;> simp_all [Ieee.Datum.isNaN, Ieee.Datum.product]

/-! ## Sums and differences of 32-bit numbers -/
def af (x y : Nat) : Nat := (FloatKind.f32.format.add x y).getD 0
def sf (x y : Nat) : Nat := (FloatKind.f32.format.sub x y).getD 0

theorem fin_or_inf {x : Nat} (h : isNaN .f32 x = false) : fin .f32 x = true ∨ Hinf x := by
  have h' : (Ieee.single.read x).isNaN = false := h
  cases hx : Ieee.single.read x with
  | number s m e => left; have hx' : FloatKind.f32.decode x = .number s m e := hx; simp [fin, hx']
  | infinity s => right; exact ⟨s, hx⟩
  | nan s t => rw [hx] at h'; simp [Ieee.Datum.isNaN] at h'

theorem af_ok {x y : Nat} (hx : isNaN .f32 x = false) (hy : fin .f32 y = true) : FloatKind.f32.format.add x y = some (af x y) ∧ isNaN .f32 (af x y) = false := by
  obtain ⟨r, hr, hn⟩ := add_fin hx hy
  have : af x y = r := by simp [af, hr]
  rw [this]
  exact ⟨hr, hn⟩

theorem sf_ok {x y : Nat} (hx : isNaN .f32 x = false) (hy : fin .f32 y = true) : FloatKind.f32.format.sub x y = some (sf x y) ∧ isNaN .f32 (sf x y) = false := by
  obtain ⟨t, m, j, hy⟩ := fin_number hy
  have hy : Ieee.single.read y = .number t m j := hy
  have hx : (Ieee.single.read x).isNaN = false := hx
  have : ∃ r, Ieee.single.sub x y = some r ∧ isNaN .f32 r = false := by
    unfold Ieee.Format.sub
    rw [hy]
    cases hd : Ieee.single.read x with
    | number s n i => exact ⟨_, rfl, write_single rfl⟩
    | infinity s => exact ⟨_, rfl, write_single rfl⟩
    | nan s t => rw [hd] at hx; simp [Ieee.Datum.isNaN] at hx
  obtain ⟨r, hr, hn⟩ := this
  have hr' : FloatKind.f32.format.sub x y = some r := hr
  have e : sf x y = r := by simp [sf, hr']
  rw [e]
  exact ⟨hr', hn⟩

/-- A sum or a difference of a number that is no NaN and an infinity is not finite, if it is a number at all. -/
theorem add_inf {x y r : Nat} (hy : Hinf y) (h : FloatKind.f32.format.add x y = some r) : fin .f32 r = false := by
  obtain ⟨t, hy⟩ := hy
  have h : Ieee.single.add x y = some r := h
  unfold Ieee.Format.add at h
  rw [hy] at h
  have hd : ∀ s : Bool, Ieee.single.read (Ieee.single.write (.infinity s)) = .infinity s := by decide
  cases hx : Ieee.single.read x with
  | number s n i =>
    rw [hx] at h
    simp only [Ieee.Datum.sum, Option.map_some, Option.some.injEq] at h
    rw [← h]
    exact Hinf.fin ⟨_, hd _⟩
  | infinity s =>
    rw [hx] at h
    simp only [Ieee.Datum.sum] at h
    split at h
    · simp only [Option.map_some, Option.some.injEq] at h
      rw [← h]
      exact Hinf.fin ⟨_, hd _⟩
    · cases h
  | nan s u => rw [hx] at h; cases h

/-! ## Lengths -/
theorem wide_half {x : Nat} (h : Hfin x) : ∃ s, Num (wide x) s 1 127 := by
  obtain ⟨s, m, e, hr, hl⟩ := h
  have hw : wide x = Ieee.double.nearest s m e := by
    show Ieee.double.write (Ieee.single.read x) = _
    rw [hr]; rfl
  rw [hw]
  refine ⟨s, nearest_pow ?_ (by omega) (by omega)⟩
  obtain ⟨b, h1, h2, h3⟩ := hl
  refine ⟨b, h1, by omega, Nat.le_trans h3 ?_⟩
  have e2 : ((127 : Int) - b).toNat = 24 + ((103 : Int) - b).toNat := by omega
  rw [e2, Nat.pow_add, ← Nat.mul_assoc]
  exact Nat.mul_le_mul_right _ (by decide)

theorem wide_infinity {x : Nat} (h : Hinf x) : ∃ s, Ieee.double.read (wide x) = .infinity s := by
  obtain ⟨s, hr⟩ := h
  refine ⟨s, ?_⟩
  have hw : wide x = FloatKind.f64.encode (.infinity s) := by
    show FloatKind.f64.encode (Ieee.single.read x) = _
    rw [hr]
  rw [hw]
  exact wide_inf s

def powB (re im : Nat) : Nat := a64 (m64 (wide re) (wide re)) (m64 (wide im) (wide im))
def longB (re im : Nat) : Nat := (floatToFloatBits .f64 (r64 (powB re im)) .f32).getD 0

/-- What a walk through the length wants. -/
structure LongOk (re im : Nat) : Prop where
  m1 : FloatKind.f64.format.mul (wide re) (wide re) = some (m64 (wide re) (wide re))
  m2 : FloatKind.f64.format.mul (wide im) (wide im) = some (m64 (wide im) (wide im))
  ad : FloatKind.f64.format.add (m64 (wide re) (wide re)) (m64 (wide im) (wide im)) = some (powB re im)
  sq : FloatKind.f64.format.sqrt (powB re im) = some (r64 (powB re im))
  nr : floatToFloatBits .f64 (r64 (powB re im)) .f32 = some (longB re im)

theorem sq127 {x : Nat} (h : ∃ s, Num x s 1 127) : FloatKind.f64.format.mul x x = some (m64 x x) ∧ Num (m64 x x) false 1 254 := by
  obtain ⟨s, h⟩ := h
  obtain ⟨r, hr, hn⟩ := mul_num h h (by omega) (by omega)
  rw [m64_of hr]
  refine ⟨hr, ?_⟩
  have e : (s ^^ s) = false := by cases s <;> rfl
  rw [e] at hn
  exact hn

theorem long_fin {re im : Nat} (h1 : Hfin re) (h2 : Hfin im) : LongOk re im ∧ fin .f32 (longB re im) = true := by
  obtain ⟨a1, n1⟩ := sq127 (wide_half h1)
  obtain ⟨a2, n2⟩ := sq127 (wide_half h2)
  obtain ⟨r, u, hr, hn, hs⟩ := add_num n1 n2 (by omega) (by omega)
  have hu := hs rfl rfl
  subst hu
  have hp : powB re im = r := a64_of hr
  rw [← hp] at hr hn
  have n3 : Num (powB re im) false (6755399441055744 * 6755399441055744) (2 * 75) := by
    obtain ⟨m, e, hrd, hl⟩ := hn
    refine ⟨m, e, hrd, ?_⟩
    have hl' : LeP m e 1 (150 + (105 : Nat)) := hl.up (by omega)
    exact (hl'.shift).mono (by decide)
  obtain ⟨s, hs1, hs2⟩ := sqrt_num n3 (by decide) (by decide) (by omega) (by omega)
  have hrs := r64_of hs1
  rw [← hrs] at hs1 hs2
  have n4 : Num (r64 (powB re im)) false 16777215 104 := by
    obtain ⟨m, e, hrd, hl⟩ := hs2
    refine ⟨m, e, hrd, ?_⟩
    obtain ⟨b, b1, b2, b3⟩ := hl
    refine ⟨b, b1, by omega, Nat.le_trans b3 ?_⟩
    have e2 : ((104 : Int) - b).toNat = 29 + ((75 : Int) - b).toNat := by omega
    rw [e2, Nat.pow_add, ← Nat.mul_assoc]
    exact Nat.mul_le_mul_right _ (by decide)
  obtain ⟨v, hv1, hv2⟩ := narrow_bits n4
  have hlb : longB re im = v := by simp [longB, hv1]
  rw [← hlb] at hv1 hv2
  exact ⟨⟨a1, a2, hr, hs1, hv1⟩, hv2⟩

theorem mul_inf_inf {x : Nat} (h : ∃ s, Ieee.double.read x = .infinity s) : FloatKind.f64.format.mul x x = some (m64 x x) ∧ Ieee.double.read (m64 x x) = .infinity false := by
  obtain ⟨s, hx⟩ := h
  have hm : FloatKind.f64.format.mul x x = some (Ieee.double.write (.infinity (s ^^ s))) := by
    show Ieee.double.mul x x = _
    unfold Ieee.Format.mul
    rw [hx]; rfl
  rw [m64_of hm]
  have e : (s ^^ s) = false := by cases s <;> rfl
  rw [e] at hm ⊢
  exact ⟨hm, by decide⟩

theorem long_inf_aux {a b : Nat} (h : Ieee.double.read a = .infinity false ∧ ((∃ s m e, Ieee.double.read b = .number s m e) ∨ Ieee.double.read b = .infinity false) ∨ Ieee.double.read b = .infinity false ∧ ((∃ s m e, Ieee.double.read a = .number s m e) ∨ Ieee.double.read a = .infinity false)) :
    FloatKind.f64.format.add a b = some (a64 a b) ∧ Ieee.double.read (a64 a b) = .infinity false := by
  have hi : FloatKind.f64.format.add a b = some (Ieee.double.write (.infinity false)) := by
    show Ieee.double.add a b = _
    unfold Ieee.Format.add
    rcases h with ⟨h1, ⟨s, m, e, h2⟩ | h2⟩ | ⟨h1, ⟨s, m, e, h2⟩ | h2⟩ <;> rw [h1, h2] <;> rfl
  rw [a64_of hi]
  exact ⟨hi, by decide⟩

theorem long_inf {re im : Nat} (h : (Hinf re ∧ (Hfin im ∨ Hinf im)) ∨ (Hinf im ∧ (Hfin re ∨ Hinf re))) : LongOk re im ∧ Hinf (longB re im) := by
  have side : ∀ x, Hfin x ∨ Hinf x → FloatKind.f64.format.mul (wide x) (wide x) = some (m64 (wide x) (wide x)) ∧ ((∃ s m e, Ieee.double.read (m64 (wide x) (wide x)) = .number s m e) ∨ Ieee.double.read (m64 (wide x) (wide x)) = .infinity false) := by
    intro x hx
    rcases hx with hx | hx
    · obtain ⟨a1, m, e, hr, _⟩ := sq127 (wide_half hx)
      exact ⟨a1, .inl ⟨_, m, e, hr⟩⟩
    · obtain ⟨a1, hr⟩ := mul_inf_inf (wide_infinity hx)
      exact ⟨a1, .inr hr⟩
  have h1 : Hfin re ∨ Hinf re := by
    rcases h with ⟨h, _⟩ | ⟨_, h⟩
    · exact .inr h
    · exact h
  have h2 : Hfin im ∨ Hinf im := by
    rcases h with ⟨_, h⟩ | ⟨h, _⟩
    · exact h
    · exact .inr h
  obtain ⟨a1, c1⟩ := side re h1
  obtain ⟨a2, c2⟩ := side im h2
  have hsum := long_inf_aux (a := m64 (wide re) (wide re)) (b := m64 (wide im) (wide im)) (by
    rcases h with ⟨h, _⟩ | ⟨h, _⟩
    · exact .inl ⟨(mul_inf_inf (wide_infinity h)).2, c2⟩
    · exact .inr ⟨(mul_inf_inf (wide_infinity h)).2, c1⟩)
  obtain ⟨hp, hpi⟩ := hsum
  have hsq : FloatKind.f64.format.sqrt (powB re im) = some (Ieee.double.write (.infinity false)) := by
    show Ieee.double.sqrt (powB re im) = _
    unfold Ieee.Format.sqrt
    have : Ieee.double.read (powB re im) = .infinity false := hpi
    rw [this]; rfl
  have hr := r64_of hsq
  rw [← hr] at hsq
  have hri : Ieee.double.read (r64 (powB re im)) = .infinity false := by rw [hr]; decide
  have hn := narrow_inf hri
  have hlb : longB re im = FloatKind.f32.encode (.infinity false) := by simp [longB, hn]
  rw [← hlb] at hn
  exact ⟨⟨a1, a2, hp, hsq, hn⟩, ⟨false, by rw [hlb]; decide⟩⟩
end Fl
end Go.Proofs.Ythddnjhdonnojaa
