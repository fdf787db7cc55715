/- Bounds of IEEE numbers: what a word's rung says of its number; sums, products, quotients and roots of bounded numbers. No program is in sight. -/
import Derived.Test.YthddnjhdonnojaaBd
namespace Go.Proofs.Ythddnjhdonnojaa
set_option linter.unusedVariables false
set_option linter.unusedSimpArgs false
namespace Fl

section
variable (f : Ieee.Format)
def mant (r : Nat) : Nat := if r < f.binade then r else f.binade + r % f.binade
def plc (r : Nat) : Int := if r < f.binade then f.leastPlace else f.leastPlace + (r / f.binade - 1 : Nat)

theorem sw_pos : 0 < f.signWeight := Nat.two_pow_pos _
theorem bin_pos : 0 < f.binade := Nat.two_pow_pos _

theorem read_num (neg : Bool) (r : Nat) (h : r < f.infRung) : f.read (f.word neg r) = .number neg (mant f r) (plc f r) := by
  have hi := f.infRung_lt
  have h1 : f.word neg r % f.signWeight = r := by
    unfold Ieee.Format.word
    split
    · rw [Nat.add_mod_left]; exact Nat.mod_eq_of_lt (by omega)
    · exact Nat.mod_eq_of_lt (by omega)
  have h2 : (f.word neg r / f.signWeight % 2 == 1) = neg := by
    unfold Ieee.Format.word
    have hp := sw_pos f
    cases neg
    · simp only [Bool.false_eq_true, if_false]
      rw [Nat.div_eq_of_lt (by omega)]
      rfl
    · simp only [if_true]
      rw [Nat.add_div_left _ hp, Nat.div_eq_of_lt (by omega)]
      rfl
  unfold Ieee.Format.read
  simp only [h1, h2]
  unfold mant plc
  by_cases hlt : r < f.binade
  · simp only [if_pos hlt]
  · simp only [if_neg hlt, if_pos h]

theorem plc_ge (r : Nat) : f.leastPlace ≤ plc f r := by
  unfold plc
  split <;> omega

theorem le_of_rung {r K : Nat} {q : Int} (hK : 2 ^ f.fractionBits ≤ K) (hK' : K < 2 ^ (f.fractionBits + 1)) (hq : f.leastPlace ≤ q) (h : r ≤ (q - f.leastPlace).toNat * f.binade + K) :
    LeP (mant f r) (plc f r) K q := by
  have hb := bin_pos f
  have hbin : f.binade = 2 ^ f.fractionBits := rfl
  have hK2 : K < 2 * f.binade := by rw [Nat.pow_succ] at hK'; omega
  unfold mant plc
  by_cases hlt : r < f.binade
  · simp only [if_pos hlt]
    exact (LeP.of (by omega : r ≤ K)).up hq
  · simp only [if_neg hlt]
    have hdm := Nat.div_add_mod r f.binade
    have hml := Nat.mod_lt r hb
    have hge : 1 ≤ r / f.binade := (Nat.le_div_iff_mul_le hb).2 (by omega)
    generalize hE : r / f.binade = E at *
    generalize hM : r % f.binade = M at *
    generalize hX : (q - f.leastPlace).toNat = X at *
    by_cases hEX : E = X + 1
    · have he : f.leastPlace + ((E - 1 : Nat) : Int) = q := by omega
      rw [he]
      refine LeP.of ?_
      rw [hEX, Nat.mul_add, Nat.mul_one, Nat.mul_comm] at hdm
      omega
    · have hle : E ≤ X := by
        rcases Nat.lt_or_ge X E with hc | hc
        · exfalso
          have h2 : X + 2 ≤ E := by omega
          have h3 : f.binade * (X + 2) ≤ f.binade * E := Nat.mul_le_mul_left _ h2
          rw [Nat.mul_add, Nat.mul_comm f.binade X] at h3
          omega
        · exact hc
      have he : f.leastPlace + ((E - 1 : Nat) : Int) + 1 ≤ q := by omega
      refine LeP.up (q := f.leastPlace + ((E - 1 : Nat) : Int) + 1) ?_ he
      refine ⟨f.leastPlace + ((E - 1 : Nat) : Int), Int.le_refl _, by omega, ?_⟩
      have z : (f.leastPlace + ((E - 1 : Nat) : Int) - (f.leastPlace + ((E - 1 : Nat) : Int))).toNat = 0 := by omega
      have z1 : (f.leastPlace + ((E - 1 : Nat) : Int) + 1 - (f.leastPlace + ((E - 1 : Nat) : Int))).toNat = 1 := by omega
      rw [z, z1]
      omega

/-- 2 ^ q ≤ m * 2 ^ e. -/
def GeP (m : Nat) (e q : Int) : Prop := ∃ b : Int, b ≤ e ∧ b ≤ q ∧ 2 ^ (q - b).toNat ≤ m * 2 ^ (e - b).toNat

theorem ge_of_rung {r : Nat} {q : Int} (hq : f.leastPlace ≤ q) (h : (q - f.leastPlace).toNat * f.binade + f.binade ≤ r) : GeP (mant f r) (plc f r) (q + f.fractionBits) := by
  have hb := bin_pos f
  have hbin : f.binade = 2 ^ f.fractionBits := rfl
  unfold mant plc
  rw [if_neg (by omega), if_neg (by omega)]
  have hge : (q - f.leastPlace).toNat + 1 ≤ r / f.binade := by
    refine (Nat.le_div_iff_mul_le hb).2 ?_
    rw [Nat.add_mul]; omega
  generalize hE : r / f.binade = E at *
  refine ⟨q, by omega, by omega, ?_⟩
  have z : (q + f.fractionBits - q).toNat = f.fractionBits := by omega
  rw [z, ← hbin]
  have hp : 1 ≤ 2 ^ (f.leastPlace + ((E - 1 : Nat) : Int) - q).toNat := Nat.two_pow_pos _
  exact Nat.le_trans (Nat.le_add_right _ (r % f.binade)) (Nat.le_mul_of_pos_right _ hp)
end

/-- A 64-bit number with a sign, at most K * 2 ^ q. -/
def Num (x : Nat) (s : Bool) (K : Nat) (q : Int) : Prop := ∃ m e, Ieee.double.read x = .number s m e ∧ LeP m e K q

theorem fbD : Ieee.double.fractionBits = 52 := rfl

/-- Rounding keeps a bound that is a number of the format. -/
theorem nearest_num {s : Bool} {m : Nat} {e : Int} {K : Nat} {q : Int} (h : LeP m e K q) (hK : 4503599627370496 ≤ K) (hK' : K < 9007199254740992) (hq : -1074 ≤ q) (hq' : q ≤ 970) : Num (Ieee.double.nearest s m e) s K q := by
  have a1 : 2 ^ Ieee.double.fractionBits ≤ K := hK
  have a2 : K < 2 ^ (Ieee.double.fractionBits + 1) := hK'
  have a3 : Ieee.double.leastPlace ≤ q := by rw [hlpD]; exact hq
  obtain ⟨r, hr, h1, h2⟩ := nearest_le Ieee.double (neg := s) h a1 a2 a3
  have h1' := h1
  rw [hlpD, hbD] at h1
  have hlt : r < Ieee.double.infRung := by rw [hiD]; omega
  exact ⟨_, _, by rw [hr]; exact read_num Ieee.double s r hlt, le_of_rung Ieee.double a1 a2 a3 h1'⟩

/-- .. a power of two. -/
theorem nearest_pow {s : Bool} {m : Nat} {e j : Int} (h : LeP m e 1 j) (hj : -1000 ≤ j) (hj' : j ≤ 1000) : Num (Ieee.double.nearest s m e) s 1 j := by
  have h1 : LeP m e (1 * 2 ^ 52) (j - 52) := LeP.shift (by have : j - 52 + ((52 : Nat) : Int) = j := by omega
                                                           rw [this]; exact h)
  obtain ⟨m', e', hr, hl⟩ := nearest_num (s := s) h1 (by decide) (by decide) (by omega) (by omega)
  refine ⟨m', e', hr, ?_⟩
  refine ⟨min e' (j - 52), by omega, by omega, ?_⟩
  have := hl.at (min e' (j - 52)) (by omega) (by omega)
  have e2 : (j - min e' (j - 52)).toNat = 52 + (j - 52 - min e' (j - 52)).toNat := by omega
  rw [e2, Nat.pow_add, ← Nat.mul_assoc]
  exact this

theorem mul_num {x y : Nat} {s t : Bool} {j k : Int} (hx : Num x s 1 j) (hy : Num y t 1 k) (h1 : -1000 ≤ j + k) (h2 : j + k ≤ 1000) : ∃ r, FloatKind.f64.format.mul x y = some r ∧ Num r (s ^^ t) 1 (j + k) := by
  obtain ⟨m, e, hr, hl⟩ := hx
  obtain ⟨n, i, hr', hl'⟩ := hy
  show ∃ r, Ieee.double.mul x y = some r ∧ _
  unfold Ieee.Format.mul
  rw [hr, hr']
  exact ⟨_, rfl, nearest_pow (hl.mul hl') h1 h2⟩

theorem sum_le {m n : Nat} {i k j : Int} {s t : Bool} (h : LeP m i 1 j) (h' : LeP n k 1 j) :
    LeP (Ieee.signed s m (i - min i k).toNat + Ieee.signed t n (k - min i k).toNat).natAbs (min i k) 1 (j + 1) := by
  refine ⟨min (min i k) j, by omega, by omega, ?_⟩
  have a := h.at (min (min i k) j) (by omega) (by omega)
  have b := h'.at (min (min i k) j) (by omega) (by omega)
  have e1 : (i - min (min i k) j).toNat = (i - min i k).toNat + (min i k - min (min i k) j).toNat := by omega
  have e2 : (k - min (min i k) j).toNat = (k - min i k).toNat + (min i k - min (min i k) j).toNat := by omega
  have e3 : (j + 1 - min (min i k) j).toNat = (j - min (min i k) j).toNat + 1 := by omega
  rw [e1, Nat.pow_add, ← Nat.mul_assoc] at a
  rw [e2, Nat.pow_add, ← Nat.mul_assoc] at b
  rw [e3, Nat.pow_succ]
  generalize (min i k - min (min i k) j).toNat = u at *
  have c : (Ieee.signed s m (i - min i k).toNat + Ieee.signed t n (k - min i k).toNat).natAbs ≤ m * 2 ^ (i - min i k).toNat + n * 2 ^ (k - min i k).toNat := by
    unfold Ieee.signed
    rw [Nat.shiftLeft_eq, Nat.shiftLeft_eq]
    generalize m * 2 ^ (i - min i k).toNat = p
    generalize n * 2 ^ (k - min i k).toNat = q
    cases s <;> cases t <;> simp <;> omega
  refine Nat.le_trans (Nat.mul_le_mul_right _ c) ?_
  rw [Nat.add_mul]
  omega

theorem add_num {x y : Nat} {s t : Bool} {j : Int} (hx : Num x s 1 j) (hy : Num y t 1 j) (h1 : -1000 ≤ j) (h2 : j ≤ 999) : ∃ r u, FloatKind.f64.format.add x y = some r ∧ Num r u 1 (j + 1) ∧ (s = false → t = false → u = false) := by
  obtain ⟨m, e, hr, hl⟩ := hx
  obtain ⟨n, i, hr', hl'⟩ := hy
  show ∃ r u, Ieee.double.add x y = some r ∧ _
  unfold Ieee.Format.add
  rw [hr, hr']
  refine ⟨_, _, rfl, nearest_pow (sum_le hl hl') (by omega) (by omega), ?_⟩
  rintro rfl rfl
  simp only [Ieee.signed, Bool.false_eq_true, if_false, Bool.and_self]
  split
  · rfl
  · rw [decide_eq_false_iff_not]
    have p1 := Int.natCast_nonneg (m <<< (e - min e i).toNat)
    have p2 := Int.natCast_nonneg (n <<< (i - min e i).toNat)
    generalize ((m <<< (e - min e i).toNat : Nat) : Int) = a at *
    generalize ((n <<< (i - min e i).toNat : Nat) : Int) = b at *
    omega

theorem sub_num {x y : Nat} {s t : Bool} {j : Int} (hx : Num x s 1 j) (hy : Num y t 1 j) (h1 : -1000 ≤ j) (h2 : j ≤ 999) : ∃ r u, FloatKind.f64.format.sub x y = some r ∧ Num r u 1 (j + 1) := by
  obtain ⟨m, e, hr, hl⟩ := hx
  obtain ⟨n, i, hr', hl'⟩ := hy
  show ∃ r u, Ieee.double.sub x y = some r ∧ _
  unfold Ieee.Format.sub
  rw [hr, hr']
  exact ⟨_, _, rfl, nearest_pow (sum_le hl hl') (by omega) (by omega)⟩
end Fl
end Go.Proofs.Ythddnjhdonnojaa
