/- The angle of a point, as the program and the reference reckon it: each operation is valid, and the result is small. No program is in sight. -/
import Derived.Test.YthddnjhdonnojaaBf
import Derived.Laws.BitsAllLaws
namespace Go.Proofs.Ythddnjhdonnojaa
set_option linter.unusedVariables false
set_option linter.unusedSimpArgs false
namespace Fl

def m64 (x y : Nat) : Nat := (FloatKind.f64.format.mul x y).getD 0
def a64 (x y : Nat) : Nat := (FloatKind.f64.format.add x y).getD 0
def s64 (x y : Nat) : Nat := (FloatKind.f64.format.sub x y).getD 0
def d64 (x y : Nat) : Nat := (FloatKind.f64.format.div x y).getD 0
def r64 (x : Nat) : Nat := (FloatKind.f64.format.sqrt x).getD 0

theorem m64_of {x y r : Nat} (h : FloatKind.f64.format.mul x y = some r) : m64 x y = r := by simp [m64, h]
theorem a64_of {x y r : Nat} (h : FloatKind.f64.format.add x y = some r) : a64 x y = r := by simp [a64, h]
theorem s64_of {x y r : Nat} (h : FloatKind.f64.format.sub x y = some r) : s64 x y = r := by simp [s64, h]
theorem d64_of {x y r : Nat} (h : FloatKind.f64.format.div x y = some r) : d64 x y = r := by simp [d64, h]
theorem r64_of {x r : Nat} (h : FloatKind.f64.format.sqrt x = some r) : r64 x = r := by simp [r64, h]

/-- At most 2 ^ j, whatever its sign. -/
def Sm (x : Nat) (j : Int) : Prop := ∃ s, Num x s 1 j

theorem Sm.up {x : Nat} {j k : Int} (h : Sm x j) (hj : j ≤ k) : Sm x k := by
  obtain ⟨s, m, e, hr, hl⟩ := h
  exact ⟨s, m, e, hr, hl.up hj⟩

theorem mulS {x y : Nat} {j k : Int} (hx : Sm x j) (hy : Sm y k) (h1 : -1000 ≤ j + k) (h2 : j + k ≤ 1000) : FloatKind.f64.format.mul x y = some (m64 x y) ∧ Sm (m64 x y) (j + k) := by
  obtain ⟨s, hx⟩ := hx
  obtain ⟨t, hy⟩ := hy
  obtain ⟨r, hr, hn⟩ := mul_num hx hy h1 h2
  rw [m64_of hr]
  exact ⟨hr, _, hn⟩
theorem subS {x y : Nat} {j : Int} (hx : Sm x j) (hy : Sm y j) (h1 : -1000 ≤ j) (h2 : j ≤ 999) : FloatKind.f64.format.sub x y = some (s64 x y) ∧ Sm (s64 x y) (j + 1) := by
  obtain ⟨s, hx⟩ := hx
  obtain ⟨t, hy⟩ := hy
  obtain ⟨r, u, hr, hn⟩ := sub_num hx hy h1 h2
  rw [s64_of hr]
  exact ⟨hr, _, hn⟩
theorem divS {x y : Nat} {j : Int} (hx : Sm x j) (hy : Big y) (h1 : -1000 ≤ j) (h2 : j ≤ 1000) : FloatKind.f64.format.div x y = some (d64 x y) ∧ Sm (d64 x y) j := by
  obtain ⟨s, hx⟩ := hx
  obtain ⟨r, u, hr, hn⟩ := div_big hx hy h1 h2
  rw [d64_of hr]
  exact ⟨hr, _, hn⟩

/-- The word 1. -/
abbrev one : Nat := 4607182418800017408
theorem read_one : Ieee.double.read one = .number false 4503599627370496 (-52) := by decide
theorem one_num : Num one false 1 0 := ⟨_, _, read_one, ⟨-52, by omega, by omega, by decide⟩⟩

theorem p52 : 2 ^ Ieee.double.fractionBits ≤ 4503599627370496 := by rw [fbD]; exact Nat.le_refl _
theorem p53 : 4503599627370496 < 2 ^ (Ieee.double.fractionBits + 1) := by rw [fbD]; decide

theorem num_of_word {x j : Nat} (hx : x < 9223372036854775808) (h : x ≤ (j + 1023) * 4503599627370496) (hj : j ≤ 1000) : Num x false 1 (j : Int) := by
  have hlt : x < Ieee.double.infRung := by rw [hiD]; omega
  have hw : Ieee.double.word false x = x := rfl
  have hr := read_num Ieee.double false x hlt
  rw [hw] at hr
  have hP : ((j : Int) - 52 - Ieee.double.leastPlace).toNat = j + 1022 := by rw [hlpD]; omega
  have hQ : Ieee.double.leastPlace ≤ (j : Int) - 52 := by rw [hlpD]; omega
  have hX : x ≤ ((j : Int) - 52 - Ieee.double.leastPlace).toNat * Ieee.double.binade + 4503599627370496 := by
    rw [hP, hbD]
    refine Nat.le_trans h (Nat.le_of_eq ?_)
    rw [← Nat.succ_mul]
  have hl := le_of_rung Ieee.double p52 p53 hQ hX
  refine ⟨_, _, hr, ?_⟩
  obtain ⟨b, h1, h2, h3⟩ := hl
  refine ⟨b, h1, by omega, ?_⟩
  have e2 : ((j : Int) - b).toNat = 52 + ((j : Int) - 52 - b).toNat := by omega
  rw [e2, Nat.pow_add, ← Nat.mul_assoc]
  exact h3

/-- 1 + s is at least 1, for s of at least 0. -/
theorem one_add_big {x : Nat} {j : Int} (hx : Num x false 1 j) (hj0 : 0 ≤ j) (hj : j ≤ 900) : FloatKind.f64.format.add one x = some (a64 one x) ∧ Num (a64 one x) false 1 (j + 1) ∧ Big (a64 one x) := by
  have h1 : Num one false 1 j := by
    obtain ⟨m, e, hr, hl⟩ := one_num
    exact ⟨m, e, hr, hl.up hj0⟩
  obtain ⟨r, u, hr, hn, hs⟩ := add_num h1 hx (by omega) (by omega)
  have hu := hs rfl rfl
  subst hu
  rw [a64_of hr]
  refine ⟨hr, hn, ?_⟩
  obtain ⟨m, e, hrx, hl⟩ := hx
  have hr2 : Ieee.double.add one x = some r := hr
  unfold Ieee.Format.add at hr2
  rw [read_one, hrx] at hr2
  simp only [Ieee.Datum.sum, Option.map_some, Option.some.injEq] at hr2
  generalize hb : min (-52 : Int) e = b at *
  have hge : 2 ^ (-b).toNat ≤ (Ieee.signed false 4503599627370496 (-52 - b).toNat + Ieee.signed false m (e - b).toNat).natAbs := by
    simp only [Ieee.signed, Bool.false_eq_true, if_false]
    have e1 : (4503599627370496 : Nat) <<< (-52 - b).toNat = 2 ^ (-b).toNat := by
      rw [Nat.shiftLeft_eq]
      have : (4503599627370496 : Nat) = 2 ^ 52 := by decide
      rw [this, ← Nat.pow_add]
      congr 1
      omega
    rw [e1]
    generalize 2 ^ (-b).toNat = A
    generalize m <<< (e - b).toNat = C
    omega
  generalize htot : Ieee.signed false 4503599627370496 (-52 - b).toNat + Ieee.signed false m (e - b).toNat = tot at *
  have hne : tot.natAbs ≠ 0 := by
    have : 0 < 2 ^ (-b).toNat := Nat.two_pow_pos _
    omega
  have hlog : (-b).toNat ≤ tot.natAbs.log2 := (Nat.le_log2 hne).2 hge
  have hw : Ieee.double.write (.number (if tot = 0 then false && false else decide (tot < 0)) tot.natAbs b) = Ieee.double.nearest (if tot = 0 then false && false else decide (tot < 0)) tot.natAbs b := rfl
  rw [hw] at hr2
  obtain ⟨ρ, h3, h4, h5⟩ := nearest_ge Ieee.double (neg := (if tot = 0 then false && false else decide (tot < 0))) (m := tot.natAbs) (e := b) (q := -52) hne (by rw [fbD]; omega) (by rw [hlpD]; omega)
  rw [h3] at hr2
  obtain ⟨m', e', hrr, _⟩ := hn
  by_cases hlt : ρ < Ieee.double.infRung
  · have h6 : ((-52 : Int) - Ieee.double.leastPlace).toNat * Ieee.double.binade + Ieee.double.binade ≤ ρ := by omega
    have hg := ge_of_rung Ieee.double (q := -52) (by rw [hlpD]; omega) h6
    have hrd := read_num Ieee.double (if tot = 0 then false && false else decide (tot < 0)) ρ hlt
    rw [hr2] at hrd
    refine .inl ⟨_, _, _, hrd, ?_⟩
    have e2 : (-52 : Int) + (Ieee.double.fractionBits : Int) = 0 := by rw [fbD]; omega
    rw [e2] at hg
    exact hg
  · exfalso
    have hρ : ρ = Ieee.double.infRung := by omega
    rw [hρ] at hr2
    have : ∀ s, (Ieee.double.read (Ieee.double.word s Ieee.double.infRung)) = .infinity s := by decide
    rw [← hr2, this] at hrr
    cases hrr

/-- One step of halving the angle. -/
def tS (t : Nat) : Nat := d64 t (a64 one (r64 (a64 one (m64 t t))))

theorem sq_num {t : Nat} (h : Sm t 0) : FloatKind.f64.format.mul t t = some (m64 t t) ∧ Num (m64 t t) false 1 0 := by
  obtain ⟨s, h⟩ := h
  obtain ⟨r, hr, hn⟩ := mul_num h h (by omega) (by omega)
  rw [m64_of hr]
  refine ⟨hr, ?_⟩
  have : (s ^^ s) = false := by cases s <;> rfl
  rw [this] at hn
  exact hn

theorem tS_ok {t : Nat} (h : Sm t 0) : FloatKind.f64.format.mul t t = some (m64 t t) ∧ FloatKind.f64.format.add one (m64 t t) = some (a64 one (m64 t t)) ∧
    FloatKind.f64.format.sqrt (a64 one (m64 t t)) = some (r64 (a64 one (m64 t t))) ∧ FloatKind.f64.format.add one (r64 (a64 one (m64 t t))) = some (a64 one (r64 (a64 one (m64 t t)))) ∧
    FloatKind.f64.format.div t (a64 one (r64 (a64 one (m64 t t)))) = some (tS t) ∧ Sm (tS t) 0 := by
  obtain ⟨h1, n1⟩ := sq_num h
  obtain ⟨h2, n2, _⟩ := one_add_big n1 (by omega) (by omega)
  have n2' : Num (a64 one (m64 t t)) false (4503599627370496 * 4503599627370496) (2 * (-51)) := by
    obtain ⟨m, e, hr, hl⟩ := n2
    refine ⟨m, e, hr, ?_⟩
    have hl' : LeP m e 1 (-102 + (104 : Nat)) := hl.up (by omega)
    exact (hl'.shift).mono (by decide)
  obtain ⟨r, h3, n3⟩ := sqrt_num n2' (by decide) (by decide) (by omega) (by omega)
  have n3' : Num r false 1 1 := by
    obtain ⟨m, e, hr, hl⟩ := n3
    refine ⟨m, e, hr, ?_⟩
    obtain ⟨b, b1, b2, b3⟩ := hl
    refine ⟨b, b1, by omega, ?_⟩
    have e2 : ((1 : Int) - b).toNat = 52 + ((-51 : Int) - b).toNat := by omega
    rw [e2, Nat.pow_add, ← Nat.mul_assoc]
    exact b3
  have h3r := h3
  rw [← r64_of h3] at h3r n3'
  obtain ⟨h4, n4, b4⟩ := one_add_big n3' (by omega) (by omega)
  obtain ⟨h5, n5⟩ := divS h b4 (by omega) (by omega)
  exact ⟨h1, h2, h3r, h4, h5, n5⟩

def tN (t0 : Nat) : Nat → Nat
  | 0 => t0
  | k + 1 => tS (tN t0 k)

theorem tN_sm {t0 : Nat} (h : Sm t0 0) : ∀ k, Sm (tN t0 k) 0
  | 0 => h
  | k + 1 => (tS_ok (tN_sm h k)).2.2.2.2.2

/-! ### The sum of the series -/
def kth (j : Nat) : Nat := floatOfInt .f64 (15 - 2 * (j : Int))
theorem kth_ok : ∀ j : Fin 8, FloatKind.f64.format.div one (kth j.val) = some (d64 one (kth j.val)) ∧ d64 one (kth j.val) < 9223372036854775808 ∧ d64 one (kth j.val) ≤ (0 + 1023) * 4503599627370496 := by decide +kernel

def pN (u : Nat) : Nat → Nat
  | 0 => 0
  | j + 1 => s64 (d64 one (kth j)) (m64 u (pN u j))

theorem zero_sm : Sm 0 0 := ⟨false, num_of_word (by decide) (by decide) (by decide)⟩

theorem pN_ok {u : Nat} (hu : Sm u 0) : ∀ j, j ≤ 8 → Sm (pN u j) (j : Int) ∧ (j < 8 → FloatKind.f64.format.div one (kth j) = some (d64 one (kth j)) ∧ FloatKind.f64.format.mul u (pN u j) = some (m64 u (pN u j)) ∧
    FloatKind.f64.format.sub (d64 one (kth j)) (m64 u (pN u j)) = some (pN u (j + 1))) := by
  have step : ∀ j, j < 8 → Sm (pN u j) (j : Int) → (FloatKind.f64.format.div one (kth j) = some (d64 one (kth j)) ∧ FloatKind.f64.format.mul u (pN u j) = some (m64 u (pN u j)) ∧
      FloatKind.f64.format.sub (d64 one (kth j)) (m64 u (pN u j)) = some (pN u (j + 1))) ∧ Sm (pN u (j + 1)) ((j : Int) + 1) := by
    intro j hj hp
    obtain ⟨k1, k2, k3⟩ := kth_ok ⟨j, hj⟩
    have hk : Sm (d64 one (kth j)) 0 := ⟨false, num_of_word k2 k3 (by decide)⟩
    obtain ⟨h1, n1⟩ := mulS hu hp (by omega) (by omega)
    obtain ⟨h2, n2⟩ := subS (hk.up (by omega : (0 : Int) ≤ (j : Int))) (n1.up (by omega : (0 : Int) + (j : Int) ≤ (j : Int))) (by omega) (by omega)
    exact ⟨⟨k1, h1, h2⟩, n2⟩
  have all : ∀ j, j ≤ 8 → Sm (pN u j) (j : Int) := by
    intro j
    induction j with
    | zero => intro _; exact zero_sm
    | succ j ih =>
      intro hj
      have := (step j (by omega) (ih (by omega))).2
      have e : ((j + 1 : Nat) : Int) = (j : Int) + 1 := by omega
      rw [e]
      exact this
  intro j hj
  exact ⟨all j hj, fun h8 => (step j h8 (all j hj)).1⟩

/-! ### The angle -/
abbrev eight : Nat := 4620693217682128896
abbrev circle : Nat := 4618760256179416344
abbrev quarter : Nat := 4598175219545276416
abbrev half64 : Nat := 4602678819172646912

theorem circle_big : Big circle := by
  have hr := read_num Ieee.double false circle (by decide)
  have hw : Ieee.double.word false circle = circle := rfl
  rw [hw] at hr
  have hg := ge_of_rung Ieee.double (r := circle) (q := -52) (by decide) (by decide)
  exact .inl ⟨_, _, _, hr, hg⟩

/-- The angle of a point whose ratio is t0, from the nearer axis. -/
def ang0 (t0 : Nat) : Nat := d64 (m64 eight (m64 (tN t0 3) (pN (m64 (tN t0 3) (tN t0 3)) 8))) circle

theorem ang0_ok {t0 : Nat} (h : Sm t0 0) : FloatKind.f64.format.mul (tN t0 3) (pN (m64 (tN t0 3) (tN t0 3)) 8) = some (m64 (tN t0 3) (pN (m64 (tN t0 3) (tN t0 3)) 8)) ∧
    FloatKind.f64.format.mul eight (m64 (tN t0 3) (pN (m64 (tN t0 3) (tN t0 3)) 8)) = some (m64 eight (m64 (tN t0 3) (pN (m64 (tN t0 3) (tN t0 3)) 8))) ∧
    FloatKind.f64.format.div (m64 eight (m64 (tN t0 3) (pN (m64 (tN t0 3) (tN t0 3)) 8))) circle = some (ang0 t0) ∧ Sm (ang0 t0) 11 := by
  have ht := tN_sm h 3
  have hu : Sm (m64 (tN t0 3) (tN t0 3)) 0 := ⟨false, (sq_num ht).2⟩
  have hp := (pN_ok hu 8 (by omega)).1
  obtain ⟨h1, n1⟩ := mulS ht hp (by omega) (by omega)
  have h8 : Sm eight 3 := ⟨false, num_of_word (j := 3) (by decide) (by decide) (by decide)⟩
  obtain ⟨h2, n2⟩ := mulS h8 n1 (by omega) (by omega)
  obtain ⟨h3, n3⟩ := divS n2 circle_big (by omega) (by omega)
  exact ⟨h1, h2, h3, n3.up (by omega)⟩

def ang1 (over : Bool) (t0 : Nat) : Nat := if over then s64 quarter (ang0 t0) else ang0 t0
def ang2 (over left : Bool) (t0 : Nat) : Nat := if left then s64 half64 (ang1 over t0) else ang1 over t0

theorem ang1_ok {t0 : Nat} (h : Sm t0 0) (over : Bool) : FloatKind.f64.format.sub quarter (ang0 t0) = some (s64 quarter (ang0 t0)) ∧ Sm (ang1 over t0) 12 := by
  have hq0 : Sm quarter 0 := ⟨false, num_of_word (j := 0) (by decide) (by decide) (by decide)⟩
  have hq : Sm quarter 11 := hq0.up (by omega)
  obtain ⟨h1, n1⟩ := subS hq (ang0_ok h).2.2.2 (by omega) (by omega)
  refine ⟨h1, ?_⟩
  unfold ang1
  cases over
  · exact (ang0_ok h).2.2.2.up (by omega)
  · exact n1
theorem ang2_ok {t0 : Nat} (h : Sm t0 0) (over left : Bool) : FloatKind.f64.format.sub half64 (ang1 over t0) = some (s64 half64 (ang1 over t0)) ∧ Sm (ang2 over left t0) 13 := by
  have hq0 : Sm half64 0 := ⟨false, num_of_word (j := 0) (by decide) (by decide) (by decide)⟩
  have hq : Sm half64 12 := hq0.up (by omega)
  obtain ⟨h1, n1⟩ := subS hq (ang1_ok h over).2 (by omega) (by omega)
  refine ⟨h1, ?_⟩
  unfold ang2
  cases left
  · exact (ang1_ok h over).2.up (by omega)
  · exact n1
end Fl
end Go.Proofs.Ythddnjhdonnojaa
