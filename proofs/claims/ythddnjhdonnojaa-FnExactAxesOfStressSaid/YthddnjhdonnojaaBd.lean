/- Bounds of IEEE numbers: rounding keeps a bound that is itself a number of the format. No program is in sight. -/
import Derived.Test.YthddnjhdonnojaaFl2
namespace Go.Proofs.Ythddnjhdonnojaa
set_option linter.unusedVariables false
set_option linter.unusedSimpArgs false
namespace Fl

/-- m * 2 ^ e ≤ K * 2 ^ q. -/
def LeP (m : Nat) (e : Int) (K : Nat) (q : Int) : Prop := ∃ b : Int, b ≤ e ∧ b ≤ q ∧ m * 2 ^ (e - b).toNat ≤ K * 2 ^ (q - b).toNat

theorem LeP.at {m : Nat} {e : Int} {K : Nat} {q : Int} (h : LeP m e K q) (b : Int) (he : b ≤ e) (hq : b ≤ q) : m * 2 ^ (e - b).toNat ≤ K * 2 ^ (q - b).toNat := by
  obtain ⟨c, hce, hcq, h⟩ := h
  by_cases hbc : b ≤ c
  · have e1 : (e - b).toNat = (e - c).toNat + (c - b).toNat := by omega
    have e2 : (q - b).toNat = (q - c).toNat + (c - b).toNat := by omega
    rw [e1, e2, Nat.pow_add, Nat.pow_add, ← Nat.mul_assoc, ← Nat.mul_assoc]
    exact Nat.mul_le_mul_right _ h
  · have e1 : (e - c).toNat = (e - b).toNat + (b - c).toNat := by omega
    have e2 : (q - c).toNat = (q - b).toNat + (b - c).toNat := by omega
    rw [e1, e2, Nat.pow_add, Nat.pow_add, ← Nat.mul_assoc, ← Nat.mul_assoc] at h
    exact Nat.le_of_mul_le_mul_right h (Nat.two_pow_pos _)

theorem LeP.mul {m n : Nat} {i j : Int} {K K' : Nat} {q q' : Int} (h : LeP m i K q) (h' : LeP n j K' q') : LeP (m * n) (i + j) (K * K') (q + q') := by
  obtain ⟨b, hb1, hb2, h⟩ := h
  obtain ⟨b', hb1', hb2', h'⟩ := h'
  refine ⟨b + b', by omega, by omega, ?_⟩
  have e1 : (i + j - (b + b')).toNat = (i - b).toNat + (j - b').toNat := by omega
  have e2 : (q + q' - (b + b')).toNat = (q - b).toNat + (q' - b').toNat := by omega
  rw [e1, e2, Nat.pow_add, Nat.pow_add]
  have := Nat.mul_le_mul h h'
  calc m * n * (2 ^ (i - b).toNat * 2 ^ (j - b').toNat) = m * 2 ^ (i - b).toNat * (n * 2 ^ (j - b').toNat) := by ac_rfl
    _ ≤ K * 2 ^ (q - b).toNat * (K' * 2 ^ (q' - b').toNat) := this
    _ = K * K' * (2 ^ (q - b).toNat * 2 ^ (q' - b').toNat) := by ac_rfl

theorem LeP.shift {m : Nat} {e : Int} {K : Nat} {q : Int} {s : Nat} (h : LeP m e K (q + s)) : LeP m e (K * 2 ^ s) q := by
  refine ⟨min e q, by omega, by omega, ?_⟩
  have := h.at (min e q) (by omega) (by omega)
  have e2 : (q + s - min e q).toNat = s + (q - min e q).toNat := by omega
  rw [e2, Nat.pow_add, ← Nat.mul_assoc] at this
  exact this

theorem LeP.mono {m : Nat} {e : Int} {K K' : Nat} {q : Int} (h : LeP m e K q) (hk : K ≤ K') : LeP m e K' q := by
  obtain ⟨b, h1, h2, h⟩ := h
  exact ⟨b, h1, h2, Nat.le_trans h (Nat.mul_le_mul_right _ hk)⟩

theorem LeP.up {m : Nat} {e : Int} {K : Nat} {q q' : Int} (h : LeP m e K q) (hq : q ≤ q') : LeP m e K q' := by
  obtain ⟨b, h1, h2, h⟩ := h
  exact ⟨b, h1, by omega, Nat.le_trans h (Nat.mul_le_mul_left _ (Nat.pow_le_pow_right (by omega) (by omega)))⟩

theorem LeP.of {m : Nat} {e : Int} {K : Nat} (h : m ≤ K) : LeP m e K e := ⟨e, Int.le_refl _, Int.le_refl _, Nat.mul_le_mul_right _ h⟩

/-! ## The cut -/
theorem cut_le {neg : Bool} {n d K : Nat} (h : n ≤ K * 2 ^ d) : Ieee.Toward.even.cut neg n d ≤ K := by
  unfold Ieee.Toward.cut
  simp only
  by_cases hd : d ≤ n.log2 + 2
  · rw [Nat.min_eq_left hd, Nat.shiftLeft_eq, Nat.one_mul]
    have hp : 0 < 2 ^ d := Nat.two_pow_pos _
    by_cases hk : n / 2 ^ d = K
    · have hn : n % 2 ^ d = 0 := by
        have h1 := Nat.div_add_mod n (2 ^ d)
        rw [hk, Nat.mul_comm] at h1
        omega
      rw [hk, hn]
      have : ¬ (2 ^ d < 2 * 0) := by omega
      have h0 : (2 ^ d == 2 * 0) = false := by simp
      simp [this, h0]
    · have h1 : n / 2 ^ d ≤ K := by
        rw [Nat.mul_comm] at h
        exact Nat.div_le_of_le_mul h
      have h2 : n / 2 ^ d + 1 ≤ K := by omega
      refine Nat.le_trans (Nat.add_le_add_left ?_ _) h2
      exact Bool.toNat_le _
  · have hd' : n.log2 + 2 ≤ d := by omega
    rw [Nat.min_eq_right hd', Nat.shiftLeft_eq, Nat.one_mul]
    have hlt : n < 2 ^ (n.log2 + 1) := Nat.lt_log2_self
    have e2 : 2 ^ (n.log2 + 2) = 2 * 2 ^ (n.log2 + 1) := by rw [Nat.pow_succ 2 (n.log2 + 1), Nat.mul_comm]
    have h1 : n / 2 ^ (n.log2 + 2) = 0 := Nat.div_eq_of_lt (by omega)
    have h2 : n % 2 ^ (n.log2 + 2) = n := Nat.mod_eq_of_lt (by omega)
    rw [h1, h2]
    have h3 : ¬ (2 ^ (n.log2 + 2) < 2 * n) := by omega
    have h4 : (2 ^ (n.log2 + 2) == 2 * n) = false := by
      rw [beq_eq_false_iff_ne]; omega
    simp [h3, h4]

theorem cut_ge {neg : Bool} {n d K : Nat} (h : K * 2 ^ d ≤ n) : K ≤ Ieee.Toward.even.cut neg n d := by
  unfold Ieee.Toward.cut
  simp only
  by_cases hd : d ≤ n.log2 + 2
  · rw [Nat.min_eq_left hd, Nat.shiftLeft_eq, Nat.one_mul]
    have h1 : K ≤ n / 2 ^ d := (Nat.le_div_iff_mul_le (Nat.two_pow_pos _)).2 h
    omega
  · have hlt : n < 2 ^ (n.log2 + 1) := Nat.lt_log2_self
    have hp : 2 ^ (n.log2 + 1) ≤ 2 ^ d := Nat.pow_le_pow_right (by omega) (by omega)
    have hK : K = 0 := by
      rcases Nat.eq_zero_or_pos K with h0 | h0
      · exact h0
      · have : 2 ^ d ≤ K * 2 ^ d := Nat.le_mul_of_pos_left _ h0
        omega
    rw [hK]
    exact Nat.zero_le _

/-! ## The rung of a rounded number -/
section
variable (f : Ieee.Format)

theorem nearest_le {neg : Bool} {m : Nat} {e : Int} {K : Nat} {q : Int} (h : LeP m e K q) (hK : 2 ^ f.fractionBits ≤ K) (hK' : K < 2 ^ (f.fractionBits + 1)) (hq : f.leastPlace ≤ q) :
    ∃ r, f.nearest neg m e = f.word neg r ∧ r ≤ (q - f.leastPlace).toNat * f.binade + K ∧ r ≤ f.infRung := by
  unfold Ieee.Format.nearest
  by_cases hm : m = 0
  · rw [if_pos hm]; exact ⟨0, rfl, Nat.zero_le _, Nat.zero_le _⟩
  · rw [if_neg hm]
    simp only
    generalize hlast : max (e + (m.log2 : Int) - (f.fractionBits : Int)) f.leastPlace = last
    refine ⟨_, rfl, ?_, Nat.min_le_right _ _⟩
    refine Nat.le_trans (Nat.min_le_left _ _) ?_
    have hlo : 2 ^ m.log2 ≤ m := Nat.log2_self_le hm
    have hhi : m < 2 ^ (m.log2 + 1) := Nat.lt_log2_self
    have hbin : f.binade = 2 ^ f.fractionBits := rfl
    have hA : Ieee.Toward.even.cut neg (m <<< (e - last).toNat) (last - e).toNat ≤ 2 ^ (f.fractionBits + 1) := by
      refine cut_le ?_
      rw [Nat.shiftLeft_eq, ← Nat.pow_add]
      refine Nat.le_trans (Nat.mul_le_mul_right _ (Nat.le_of_lt hhi)) ?_
      rw [← Nat.pow_add]
      exact Nat.pow_le_pow_right (by omega) (by omega)
    rcases Int.lt_trichotomy last q with hlt | heq | hgt
    · have e1 : (last - f.leastPlace).toNat + 1 ≤ (q - f.leastPlace).toNat := by omega
      have h1 : (last - f.leastPlace).toNat * f.binade + 1 * f.binade ≤ (q - f.leastPlace).toNat * f.binade := by
        rw [← Nat.add_mul]; exact Nat.mul_le_mul_right _ e1
      have h2 : 2 ^ (f.fractionBits + 1) = f.binade + f.binade := by rw [Nat.pow_succ, hbin]; omega
      omega
    · subst heq
      refine Nat.add_le_add_left (cut_le ?_) _
      rw [Nat.shiftLeft_eq]
      by_cases hc : e ≤ last
      · have := h.at e (Int.le_refl _) hc
        have z : (e - last).toNat = 0 := by omega
        have z2 : (e - e).toNat = 0 := by omega
        rw [z2] at this
        rw [z]
        exact this
      · have := h.at last (by omega) (Int.le_refl _)
        have z : (last - e).toNat = 0 := by omega
        have z2 : (last - last).toNat = 0 := by omega
        rw [z2] at this
        rw [z]
        exact this
    · exfalso
      have h1 := h.at (min e q) (by omega) (by omega)
      have h2 : 2 ^ (m.log2 + (e - min e q).toNat) ≤ m * 2 ^ (e - min e q).toNat := by
        rw [Nat.pow_add]; exact Nat.mul_le_mul_right _ hlo
      have h3 : K * 2 ^ (q - min e q).toNat < 2 ^ (f.fractionBits + 1 + (q - min e q).toNat) := by
        rw [Nat.pow_add]; exact Nat.mul_lt_mul_of_pos_right hK' (Nat.two_pow_pos _)
      have h4 : 2 ^ (m.log2 + (e - min e q).toNat) < 2 ^ (f.fractionBits + 1 + (q - min e q).toNat) := by omega
      have h5 := (Nat.pow_lt_pow_iff_right (by omega : 1 < 2)).1 h4
      omega

theorem nearest_ge {neg : Bool} {m : Nat} {e : Int} {q : Int} (hm : m ≠ 0) (h : q + f.fractionBits ≤ m.log2 + e) (hq : f.leastPlace ≤ q) :
    ∃ r, f.nearest neg m e = f.word neg r ∧ min ((q - f.leastPlace).toNat * f.binade + f.binade) f.infRung ≤ r ∧ r ≤ f.infRung := by
  unfold Ieee.Format.nearest
  rw [if_neg hm]
  simp only
  generalize hlast : max (e + (m.log2 : Int) - (f.fractionBits : Int)) f.leastPlace = last
  refine ⟨_, rfl, ?_, Nat.min_le_right _ _⟩
  have hlo : 2 ^ m.log2 ≤ m := Nat.log2_self_le hm
  have hbin : f.binade = 2 ^ f.fractionBits := rfl
  have hl : last = e + (m.log2 : Int) - (f.fractionBits : Int) := by omega
  have hA : f.binade ≤ Ieee.Toward.even.cut neg (m <<< (e - last).toNat) (last - e).toNat := by
    refine cut_ge ?_
    rw [Nat.shiftLeft_eq, hbin, ← Nat.pow_add]
    refine Nat.le_trans ?_ (Nat.mul_le_mul_right _ hlo)
    rw [← Nat.pow_add]
    exact Nat.pow_le_pow_right (by omega) (by omega)
  have h1 : (q - f.leastPlace).toNat * f.binade ≤ (last - f.leastPlace).toNat * f.binade := Nat.mul_le_mul_right _ (by omega)
  omega
end
end Fl
end Go.Proofs.Ythddnjhdonnojaa
