/- Bounds of IEEE numbers: quotients, roots, narrowing. No program is in sight. -/
import Derived.Test.YthddnjhdonnojaaBe
namespace Go.Proofs.Ythddnjhdonnojaa
set_option linter.unusedVariables false
set_option linter.unusedSimpArgs false
namespace Fl

theorem toNat_ne (a : Nat) : (a != 0).toNat = if a = 0 then 0 else 1 := by
  by_cases h : a = 0 <;> simp [h]

theorem quot_le {m n : Nat} {i k j : Int} {d : Nat} (hn : n ≠ 0) (h : LeP m i n (k + j)) :
    LeP (2 * ((m <<< (d + 1 + n.log2 - m.log2)) / n) + ((m <<< (d + 1 + n.log2 - m.log2)) % n != 0).toNat) (i - k - ((d + 1 + n.log2 - m.log2 : Nat) : Int) - 1) 1 j := by
  rw [toNat_ne]
  generalize hmore : d + 1 + n.log2 - m.log2 = more
  by_cases hm : m = 0
  · subst hm
    simp only [Nat.zero_shiftLeft, Nat.zero_div, Nat.zero_mod, Nat.mul_zero, if_true, Nat.add_zero]
    exact ⟨min (i - k - (more : Int) - 1) j, by omega, by omega, by rw [Nat.zero_mul]; exact Nat.zero_le _⟩
  · have hlo : 2 ^ m.log2 ≤ m := Nat.log2_self_le hm
    have hnhi : n < 2 ^ (n.log2 + 1) := Nat.lt_log2_self
    have hD : m <<< more = m * 2 ^ more := Nat.shiftLeft_eq _ _
    have hDn : n < m <<< more := by
      rw [hD]
      refine Nat.lt_of_lt_of_le hnhi ?_
      refine Nat.le_trans ?_ (Nat.mul_le_mul_right _ hlo)
      rw [← Nat.pow_add]
      exact Nat.pow_le_pow_right (by omega) (by omega)
    have key := h.at (min (i - (more : Int)) (k + j)) (by omega) (by omega)
    have e1 : (i - min (i - (more : Int)) (k + j)).toNat = more + (i - (more : Int) - min (i - (more : Int)) (k + j)).toNat := by omega
    rw [e1, Nat.pow_add, ← Nat.mul_assoc, ← hD] at key
    generalize hDD : m <<< more = D at *
    have hX : i - (more : Int) ≤ k + j := by
      rcases Int.lt_or_le (k + j) (i - (more : Int)) with hc | hc
      · exfalso
        have e2 : (k + j - min (i - (more : Int)) (k + j)).toNat = 0 := by omega
        rw [e2, Nat.pow_zero, Nat.mul_one] at key
        have : 1 ≤ 2 ^ (i - (more : Int) - min (i - (more : Int)) (k + j)).toNat := Nat.two_pow_pos _
        have := Nat.le_mul_of_pos_right D this
        omega
      · exact hc
    have e3 : (i - (more : Int) - min (i - (more : Int)) (k + j)).toNat = 0 := by omega
    rw [e3, Nat.pow_zero, Nat.mul_one] at key
    have e4 : (k + j - min (i - (more : Int)) (k + j)).toNat = (j - (i - k - (more : Int))).toNat := by omega
    rw [e4] at key
    refine ⟨i - k - (more : Int) - 1, Int.le_refl _, by omega, ?_⟩
    have e5 : (i - k - (more : Int) - 1 - (i - k - (more : Int) - 1)).toNat = 0 := by omega
    have e6 : (j - (i - k - (more : Int) - 1)).toNat = (j - (i - k - (more : Int))).toNat + 1 := by omega
    rw [e5, e6, Nat.pow_succ, Nat.pow_zero, Nat.mul_one, Nat.one_mul]
    generalize 2 ^ (j - (i - k - (more : Int))).toNat = N at *
    have hdm := Nat.div_add_mod D n
    have h1 : D / n ≤ N := Nat.div_le_of_le_mul key
    split
    · omega
    · rename_i hr
      have h2 : D / n ≠ N := by
        intro hc
        rw [hc] at hdm
        omega
      omega

theorem div_gen {x y : Nat} {s t : Bool} {m n : Nat} {i k j : Int} (hx : Ieee.double.read x = .number s m i) (hy : Ieee.double.read y = .number t n k) (hn : n ≠ 0) (h : LeP m i n (k + j)) (h1 : -1000 ≤ j) (h2 : j ≤ 1000) :
    ∃ r, FloatKind.f64.format.div x y = some r ∧ Num r (s ^^ t) 1 j := by
  show ∃ r, Ieee.double.div x y = some r ∧ _
  unfold Ieee.Format.div
  rw [hx, hy]
  simp only [Ieee.Datum.quotient, if_neg hn, Option.map_some]
  exact ⟨_, rfl, nearest_pow (quot_le (d := 53) hn h) h1 h2⟩

/-- A number of at least 1, or an infinity. -/
def Big (y : Nat) : Prop := (∃ t n k, Ieee.double.read y = .number t n k ∧ GeP n k 0) ∨ ∃ t, Ieee.double.read y = .infinity t

theorem le_of_big {m n : Nat} {i k j : Int} (h : LeP m i 1 j) (hg : GeP n k 0) : n ≠ 0 ∧ LeP m i n (k + j) := by
  obtain ⟨c, hc1, hc2, hg⟩ := hg
  obtain ⟨b, hb1, hb2, h⟩ := h
  refine ⟨?_, b + c, by omega, by omega, ?_⟩
  · rintro rfl
    have : 0 < 2 ^ (0 - c).toNat := Nat.two_pow_pos _
    omega
  · have e1 : (i - (b + c)).toNat = (i - b).toNat + (0 - c).toNat := by omega
    have e2 : (k + j - (b + c)).toNat = (k - c).toNat + (j - b).toNat := by omega
    rw [e1, e2, Nat.pow_add, Nat.pow_add, ← Nat.mul_assoc, ← Nat.mul_assoc]
    rw [Nat.one_mul] at h
    calc m * 2 ^ (i - b).toNat * 2 ^ (0 - c).toNat ≤ 2 ^ (j - b).toNat * (n * 2 ^ (k - c).toNat) := Nat.mul_le_mul h hg
      _ = n * 2 ^ (k - c).toNat * 2 ^ (j - b).toNat := Nat.mul_comm _ _

theorem div_big {x y : Nat} {s : Bool} {j : Int} (hx : Num x s 1 j) (hy : Big y) (h1 : -1000 ≤ j) (h2 : j ≤ 1000) : ∃ r u, FloatKind.f64.format.div x y = some r ∧ Num r u 1 j := by
  obtain ⟨m, i, hr, hl⟩ := hx
  rcases hy with ⟨t, n, k, hr', hg⟩ | ⟨t, hr'⟩
  · obtain ⟨hn, hle⟩ := le_of_big hl hg
    obtain ⟨r, h3, h4⟩ := div_gen hr hr' hn hle h1 h2
    exact ⟨r, _, h3, h4⟩
  · show ∃ r u, Ieee.double.div x y = some r ∧ _
    unfold Ieee.Format.div
    rw [hr, hr']
    exact ⟨_, _, rfl, nearest_pow (m := 0) ⟨min 0 j, by omega, by omega, by rw [Nat.zero_mul]; exact Nat.zero_le _⟩ h1 h2⟩

/-! ## Roots -/
theorem rootFrom_le (n : Nat) : ∀ (todo root : Nat), root * root ≤ n → Ieee.Datum.rootFrom n todo root * Ieee.Datum.rootFrom n todo root ≤ n
  | 0, root, h => h
  | todo + 1, root, h => by
    unfold Ieee.Datum.rootFrom
    simp only
    split
    · rename_i hc; exact rootFrom_le n todo _ hc
    · exact rootFrom_le n todo _ h

theorem root_le {m : Nat} {i : Int} {K : Nat} {q : Int} (hm : m ≠ 0) (hK : K < 9007199254740992) (h : LeP m i (K * K) (2 * q)) :
    ∃ v e, Ieee.Datum.root 54 (.number false m i) = some (.number false v e) ∧ LeP v e K q := by
  unfold Ieee.Datum.root
  simp only [if_neg hm, Bool.false_eq_true, if_false]
  refine ⟨_, _, rfl, ?_⟩
  generalize hm0 : 2 * 54 - m.log2 = more0
  generalize hmm : more0 + ((i - (more0 : Int)) % 2).toNat = more
  generalize hn : m <<< more = n
  generalize hw : Ieee.Datum.rootFrom n (n.log2 / 2 + 1) 0 = whole
  have hsq : whole * whole ≤ n := by rw [← hw]; exact rootFrom_le n _ 0 (Nat.zero_le _)
  have heven : i - (more : Int) = 2 * ((i - (more : Int)) / 2) := by omega
  generalize hh : (i - (more : Int)) / 2 = hlf at *
  have hlo : 2 ^ m.log2 ≤ m := Nat.log2_self_le hm
  have hnE : n = m * 2 ^ more := by rw [← hn, Nat.shiftLeft_eq]
  have hbig : 2 ^ 108 ≤ n := by
    rw [hnE]
    refine Nat.le_trans ?_ (Nat.mul_le_mul_right _ hlo)
    rw [← Nat.pow_add]
    exact Nat.pow_le_pow_right (by omega) (by omega)
  have hKK : K * K < 2 ^ 106 := by
    have : K * K < 9007199254740992 * 9007199254740992 := Nat.mul_lt_mul'' hK hK
    exact this
  have hle : hlf ≤ q := by
    rcases Int.lt_or_le q hlf with hc | hc
    · exfalso
      have a := h.at (2 * q) (by omega) (by omega)
      have e1 : (i - 2 * q).toNat = more + (2 * hlf - 2 * q).toNat := by omega
      have e2 : (2 * q - 2 * q).toNat = 0 := by omega
      rw [e1, e2, Nat.pow_add, ← Nat.mul_assoc, ← hnE, Nat.pow_zero, Nat.mul_one] at a
      have : 1 ≤ 2 ^ (2 * hlf - 2 * q).toNat := Nat.two_pow_pos _
      have := Nat.le_mul_of_pos_right n this
      omega
    · exact hc
  have a := h.at (2 * hlf) (by omega) (by omega)
  have e1 : (i - 2 * hlf).toNat = more := by omega
  have e2 : (2 * q - 2 * hlf).toNat = (q - hlf).toNat + (q - hlf).toNat := by omega
  rw [e1, ← hnE, e2, Nat.pow_add] at a
  have hN : n ≤ (K * 2 ^ (q - hlf).toNat) * (K * 2 ^ (q - hlf).toNat) := by
    refine Nat.le_trans a (Nat.le_of_eq ?_)
    ac_rfl
  refine ⟨hlf - 1, Int.le_refl _, by omega, ?_⟩
  have e3 : (hlf - 1 - (hlf - 1)).toNat = 0 := by omega
  have e4 : (q - (hlf - 1)).toNat = (q - hlf).toNat + 1 := by omega
  rw [e3, e4, Nat.pow_succ, Nat.pow_zero, Nat.mul_one, ← Nat.mul_assoc]
  generalize K * 2 ^ (q - hlf).toNat = N at *
  have hwN : whole ≤ N := Nat.mul_self_le_mul_self_iff.1 (Nat.le_trans hsq hN)
  by_cases hc : whole = N
  · subst hc
    have hnn : whole * whole = n := by omega
    have : (whole * whole != n) = false := by rw [hnn]; simp
    rw [this]
    simp
    omega
  · have := Bool.toNat_le (whole * whole != n)
    omega

theorem sqrt_num {x K : Nat} {q : Int} (hx : Num x false (K * K) (2 * q)) (hK : 4503599627370496 ≤ K) (hK' : K < 9007199254740992) (h1 : -1000 ≤ q) (h2 : q ≤ 900) : ∃ r, FloatKind.f64.format.sqrt x = some r ∧ Num r false K q := by
  obtain ⟨m, i, hr, hl⟩ := hx
  show ∃ r, Ieee.double.sqrt x = some r ∧ _
  unfold Ieee.Format.sqrt
  rw [hr]
  by_cases hm : m = 0
  · subst hm
    simp only [Ieee.Datum.root, if_true, Option.map_some]
    exact ⟨_, rfl, nearest_num ⟨min i q, by omega, by omega, by rw [Nat.zero_mul]; exact Nat.zero_le _⟩ hK hK' (by omega) (by omega)⟩
  · obtain ⟨v, e, hv, hle⟩ := root_le hm hK' hl
    have hv' : Ieee.Datum.root (Ieee.double.fractionBits + 2) (.number false m i) = some (.number false v e) := hv
    rw [hv']
    exact ⟨_, rfl, nearest_num hle hK hK' (by omega) (by omega)⟩

/-! ## Narrowing -/
theorem narrow_bits {x : Nat} {s : Bool} (h : Num x s 16777215 104) : ∃ r, floatToFloatBits .f64 x .f32 = some r ∧ fin .f32 r = true := by
  obtain ⟨m, e, hr, hl⟩ := h
  have hr' : FloatKind.f64.decode x = .number s m e := hr
  have hlpS : Ieee.single.leastPlace = -149 := by decide
  obtain ⟨r, h1, h2, h3⟩ := nearest_le Ieee.single (neg := s) hl (by decide) (by decide) (by rw [hlpS]; omega)
  rw [hlpS, hbS] at h2
  have hlt : r < Ieee.single.infRung := by rw [hiS]; omega
  have hrd := read_num Ieee.single s r hlt
  have henc : FloatKind.f32.encode (.number s m e) = Ieee.single.word s r := h1
  have hdec : FloatKind.f32.decode (Ieee.single.word s r) = .number s (mant Ieee.single r) (plc Ieee.single r) := hrd
  refine ⟨Ieee.single.word s r, ?_, ?_⟩
  · unfold floatToFloatBits
    rw [if_neg (by decide), hr']
    simp only [henc, hdec]
    rfl
  · unfold fin
    rw [hdec]

theorem narrow_inf {x : Nat} {s : Bool} (h : Ieee.double.read x = .infinity s) : floatToFloatBits .f64 x .f32 = some (FloatKind.f32.encode (.infinity s)) := by
  have h' : FloatKind.f64.decode x = .infinity s := h
  unfold floatToFloatBits
  rw [if_neg (by decide), h']
end Fl
end Go.Proofs.Ythddnjhdonnojaa
