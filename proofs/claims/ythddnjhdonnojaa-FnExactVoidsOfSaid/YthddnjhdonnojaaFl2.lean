/- Plain facts about IEEE words: a sum with a finite number, a quotient by a whole number are no NaNs. No program is in sight. -/
import Derived.Test.YthddnjhdonnojaaFl
namespace Go.Proofs.Ythddnjhdonnojaa
set_option linter.unusedVariables false
set_option linter.unusedSimpArgs false
namespace Fl

theorem hbS : Ieee.single.binade = 8388608 := by decide
theorem hiS : Ieee.single.infRung = 2139095040 := by decide
theorem hsS : Ieee.single.signWeight = 2147483648 := by decide

theorem word_single (neg : Bool) (r : Nat) (h : r ≤ 2139095040) : (Ieee.single.read (Ieee.single.word neg r)).isNaN = false := by
  have hb := hbS
  have hi := hiS
  have hs := hsS
  have h1 : Ieee.single.word neg r % Ieee.single.signWeight = r := by
    unfold Ieee.Format.word
    rw [hs]
    split <;> omega
  unfold Ieee.Format.read
  simp only [h1]
  split
  · rfl
  · split
    · rfl
    · split
      · rfl
      · omega

theorem nearest_single (neg : Bool) (mag : Nat) (place : Int) : (Ieee.single.read (Ieee.single.nearest neg mag place)).isNaN = false := by
  unfold Ieee.Format.nearest
  split
  · exact word_single neg 0 (by omega)
  · exact word_single neg _ (by rw [hiS]; exact Nat.min_le_right _ _)

theorem write_single {d : Ieee.Datum} (h : d.isNaN = false) : isNaN .f32 (Ieee.single.write d) = false := by
  cases d with
  | number s m e => exact nearest_single s m e
  | infinity s => exact word_single s _ (by rw [hiS]; omega)
  | nan s t => simp [Ieee.Datum.isNaN] at h

theorem add_fin {x y : Nat} (hx : isNaN .f32 x = false) (hy : fin .f32 y = true) : ∃ r, FloatKind.f32.format.add x y = some r ∧ isNaN .f32 r = false := by
  obtain ⟨t, m, j, hy⟩ := fin_number hy
  have hy : Ieee.single.read y = .number t m j := hy
  have hx : (Ieee.single.read x).isNaN = false := hx
  show ∃ r, Ieee.single.add x y = some r ∧ _
  unfold Ieee.Format.add
  rw [hy]
  cases hd : Ieee.single.read x with
  | number s n i => exact ⟨_, rfl, write_single rfl⟩
  | infinity s => exact ⟨_, rfl, write_single rfl⟩
  | nan s t => rw [hd] at hx; simp [Ieee.Datum.isNaN] at hx

/-- x is a number other than nought. -/
def nonz (x : Nat) : Bool := match Ieee.single.read x with | .number _ m _ => m != 0 | _ => false

theorem div_nonz {x y : Nat} (hx : isNaN .f32 x = false) (hy : nonz y = true) : ∃ r, FloatKind.f32.format.div x y = some r ∧ isNaN .f32 r = false := by
  have hx : (Ieee.single.read x).isNaN = false := hx
  unfold nonz at hy
  show ∃ r, Ieee.single.div x y = some r ∧ _
  unfold Ieee.Format.div
  cases he : Ieee.single.read y with
  | number t m j =>
    rw [he] at hy
    have hm : m ≠ 0 := by simpa using hy
    cases hd : Ieee.single.read x with
    | number s n i =>
      simp only [Ieee.Datum.quotient, if_neg hm, Option.map_some]
      exact ⟨_, rfl, write_single rfl⟩
    | infinity s =>
      simp only [Ieee.Datum.quotient, Option.map_some]
      exact ⟨_, rfl, write_single rfl⟩
    | nan s t => rw [hd] at hx; simp [Ieee.Datum.isNaN] at hx
  | infinity s => rw [he] at hy; simp at hy
  | nan s t => rw [he] at hy; simp at hy

theorem count_nonz : ∀ n : Fin 257, n.val ≠ 0 → nonz (floatOfInt .f32 (n.val : Int)) = true := by decide +kernel

/-- The sum of the first k numbers, from left to right, each sum rounded. -/
def sumF (S : Nat → Nat) : Nat → Nat
  | 0 => 0
  | k + 1 => (FloatKind.f32.format.add (sumF S k) (S k)).getD 0

theorem sumF_ok {S : Nat → Nat} {n : Nat} (h : ∀ j, j < n → fin .f32 (S j) = true) : ∀ k, k ≤ n → isNaN .f32 (sumF S k) = false
  | 0, _ => by show isNaN .f32 0 = false; decide
  | k + 1, hk => by
    obtain ⟨r, hr, hn⟩ := add_fin (sumF_ok h k (by omega)) (h k (by omega))
    simp only [sumF, hr, Option.getD_some]
    exact hn

theorem sumF_step {S : Nat → Nat} {n : Nat} (h : ∀ j, j < n → fin .f32 (S j) = true) {k : Nat} (hk : k < n) : FloatKind.f32.format.add (sumF S k) (S k) = some (sumF S (k + 1)) := by
  obtain ⟨r, hr, _⟩ := add_fin (sumF_ok h k (by omega)) (h k hk)
  simp only [sumF, hr, Option.getD_some]

/-- The mean of n numbers. -/
def meanF (S : Nat → Nat) (n : Nat) : Nat := (FloatKind.f32.format.div (sumF S n) (floatOfInt .f32 (n : Int))).getD 0

theorem meanF_div {S : Nat → Nat} {n : Nat} (h : ∀ j, j < n → fin .f32 (S j) = true) (h0 : n ≠ 0) (h1 : n ≤ 256) : FloatKind.f32.format.div (sumF S n) (floatOfInt .f32 (n : Int)) = some (meanF S n) := by
  obtain ⟨r, hr, _⟩ := div_nonz (sumF_ok h n (by omega)) (count_nonz ⟨n, by omega⟩ h0)
  simp only [meanF]
  rw [hr]
  rfl
end Fl
end Go.Proofs.Ythddnjhdonnojaa
