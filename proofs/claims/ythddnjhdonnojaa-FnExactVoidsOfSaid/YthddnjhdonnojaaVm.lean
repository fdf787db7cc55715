/- A map that numbers classes by first appearance: what it holds behind i cells. No program is in sight. -/
import Derived.Test.YthddnjhdonnojaaVb
import Derived.Maps.Views
namespace Go.Proofs.Ythddnjhdonnojaa
open Go.Maps
set_option linter.unusedVariables false
set_option linter.unusedSimpArgs false
namespace Vd

def key (x : Nat) : Lit := .int .i64 (x : Int)
theorem key_ne {x y : Nat} (h : x ≠ y) : key x ≠ key y := by
  intro he
  unfold key at he
  injection he with _ h1
  omega
theorem key_is (x : Nat) : WideAt.IsKeyLit (key x) := trivial

structure MInv (sel : Nat → Bool) (f : Nat → Nat) (i : Nat) (D : DataW Unit) : Prop where
  tidy : Tidy D
  size : Maps.size D = cnt sel f i
  yes : ∀ j, j < i → sel j = true → Maps.has D (key (f j)) = true ∧ D.atKey (key (f j)) (.lit (.int .i64 0)) = .lit (.int .i64 ((num sel f j : Nat) : Int))
  no : ∀ x, (∀ j, j < i → sel j = true → f j ≠ x) → Maps.has D (key x) = false

variable {sel : Nat → Bool} {f : Nat → Nat} {i : Nat} {D : DataW Unit}

theorem MInv.start : MInv sel f 0 (.map []) := ⟨tidy_empty, rfl, fun j hj => by omega, fun x _ => rfl⟩

theorem MInv.skip (h : MInv sel f i D) (hs : sel i = false) : MInv sel f (i + 1) D := by
  have hf : first sel f i = false := by
    cases hf : first sel f i
    · rfl
    · have := (first_iff.1 hf).1; rw [hs] at this; cases this
  refine ⟨h.tidy, by rw [h.size, cnt_succ, hf]; rfl, fun j hj hsj => ?_, fun x hx => h.no x fun j hj => hx j (by omega)⟩
  have : j ≠ i := by intro e; subst e; rw [hs] at hsj; cases hsj
  exact h.yes j (by omega) hsj

theorem MInv.seen (h : MInv sel f i D) (hs : sel i = true) (hh : Maps.has D (key (f i)) = true) : MInv sel f (i + 1) D ∧ D.atKey (key (f i)) (.lit (.int .i64 0)) = .lit (.int .i64 ((num sel f i : Nat) : Int)) := by
  have hex : ∃ j, j < i ∧ sel j = true ∧ f j = f i := by
    apply Classical.byContradiction
    intro hn
    have := h.no (f i) fun j hj hsj he => hn ⟨j, hj, hsj, he⟩
    rw [hh] at this; cases this
  obtain ⟨j, hj, hsj, he⟩ := hex
  have hf : first sel f i = false := by
    cases hf : first sel f i
    · rfl
    · exact absurd he ((first_iff.1 hf).2 j hj hsj)
  have hy := h.yes j hj hsj
  have hnum : num sel f j = num sel f i := (num_inj hsj hs).2 he
  rw [he, hnum] at hy
  refine ⟨⟨h.tidy, by rw [h.size, cnt_succ, hf]; rfl, fun k hk hsk => ?_, fun x hx => h.no x fun j hj => hx j (by omega)⟩, hy.2⟩
  by_cases e : k = i
  · subst e; exact hy
  · exact h.yes k (by omega) hsk

theorem MInv.new (h : MInv sel f i D) (hs : sel i = true) (hh : Maps.has D (key (f i)) = false) :
    MInv sel f (i + 1) (D.put (key (f i)) (.lit (.int .i64 ((Maps.size D : Nat) : Int)))) ∧ (D.put (key (f i)) (.lit (.int .i64 ((Maps.size D : Nat) : Int)))).atKey (key (f i)) (.lit (.int .i64 0)) = .lit (.int .i64 ((num sel f i : Nat) : Int)) := by
  have hf : first sel f i = true := by
    rw [first_iff]
    refine ⟨hs, fun j hj hsj he => ?_⟩
    have := (h.yes j hj hsj).1
    rw [he, hh] at this; cases this
  have hnum : num sel f i = Maps.size D := by rw [num_first hf, h.size]
  have hat : (D.put (key (f i)) (.lit (.int .i64 ((Maps.size D : Nat) : Int)))).atKey (key (f i)) (.lit (.int .i64 0)) = .lit (.int .i64 ((num sel f i : Nat) : Int)) := by
    rw [atKey_put_same h.tidy.isMap (key_is _), hnum]
  refine ⟨⟨h.tidy.put (key_is _) _, by rw [size_put h.tidy, hh, cnt_succ, hf, h.size]; rfl, fun k hk hsk => ?_, fun x hx => ?_⟩, hat⟩
  · by_cases e : k = i
    · subst e
      exact ⟨has_put_same h.tidy.isMap (key_is _) _, hat⟩
    · have hy := h.yes k (by omega) hsk
      have hne : f k ≠ f i := (first_iff.1 hf).2 k (by omega) hsk
      exact ⟨by rw [has_put_other (key_ne hne)]; exact hy.1, by rw [atKey_put_other (key_ne hne)]; exact hy.2⟩
  · have hne : x ≠ f i := fun e => hx i (by omega) hs e.symm
    rw [has_put_other (key_ne hne)]
    exact h.no x fun j hj => hx j (by omega)
end Vd
end Go.Proofs.Ythddnjhdonnojaa
