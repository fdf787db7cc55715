/- How a list of Bonds that came in is opened. -/
import Derived.Test.YthddnjhdonnojaaOpenT
import Derived.Test.YthddnjhdonnojaaBond1
namespace Go.Proofs.Ythddnjhdonnojaa
open Go.ChangeShapes Go.WideShapes Go.Deep Go.ChangeAt Go.RowKit Go.Joins
set_option linter.unusedVariables false
set_option linter.unusedSimpArgs false
section
variable {H : Type} {enc : TypeId × Value → H} {P : Program} {w : World} {base : Nat} {spare : Nat → Bool} {held : Bool}
set_option maxRecDepth 100000 in
theorem open_Bonds {r : Reach} {b0 : Nat} {v : Value} {d : DataW H} {p : List MemPlace}
    (hv : Value.okWide Try.prog w r b0 52 v) (h : DataW.Trod enc Try.prog w base spare held 52 v d p) :
    ∃ (ao : Option Addr) (b off n c : Nat) (A B : Nat → Int) (S R : Nat → Nat), v = .slice ao n c ∧ n ≤ 9223372036854775807 ∧ (0 < n → ao = some ⟨b, off, none⟩) ∧ NRow w b off n A B S R := by
  obtain ⟨a0, len, cap, rfl⟩ := okWide_slice Try.underlying52 hv
  obtain ⟨fuel, hf⟩ := h
  rcases open_slice_fields Try.underlying52 Try.underlying106 (by kernel_rfl) (by kernel_rfl) hf with ⟨hcs, hx⟩ | ⟨a, len', cap', m, D, Pl, hcs, hb, hl, hm, hmm, hx, hi⟩
  · simp [Value.cells] at hcs
    obtain ⟨rfl, rfl, rfl⟩ := hcs
    exact ⟨none, 0, 0, 0, 0, fun _ => 0, fun _ => 0, fun _ => 0, fun _ => 0, rfl, by omega, fun h => by omega, fun i hi => by omega⟩
  · simp [Value.cells] at hcs
    obtain ⟨rfl, rfl, rfl⟩ := hcs
    have hlm : len ≤ m := by rw [hmm]; split <;> omega
    unfold maxLen at hm
    obtain ⟨b, off, spot⟩ := a
    have key : ∀ i, i < len → ∃ (x y : Int) (s r : Nat), w.cell? ((⟨b, off, spot⟩ : Addr).add (i * 4)) = some (.int .i64 x) ∧ w.cell? ((⟨b, off, spot⟩ : Addr).add (i * 4 + 1)) = some (.int .i64 y) ∧ w.cell? ((⟨b, off, spot⟩ : Addr).add (i * 4 + 2)) = some (.float .f32 s) ∧ w.cell? ((⟨b, off, spot⟩ : Addr).add (i * 4 + 3)) = some (.float .f32 r) := by
      intro i hil
      obtain ⟨ys, n, _, _, _, hfld⟩ := hi i (by omega)
      obtain ⟨v0, y0, hc0, _, ht0⟩ := hfld 0 _ rfl
      obtain ⟨v1, y1, hc1, _, ht1⟩ := hfld 1 _ rfl
      obtain ⟨v2, y2, hc2, _, ht2⟩ := hfld 2 _ rfl
      obtain ⟨v3, y3, hc3, _, ht3⟩ := hfld 3 _ rfl
      obtain ⟨x, hx0, _⟩ := DataW.trod_int (k := .i64) Try.underlying2 ht0
      obtain ⟨y, hy0, _⟩ := DataW.trod_int (k := .i64) Try.underlying2 ht1
      obtain ⟨s, hs0, _⟩ := trod_float (k := .f32) Try.underlying22 ht2
      obtain ⟨r, hr0, _⟩ := trod_float (k := .f32) Try.underlying22 ht3
      simp only [List.cons.injEq, and_true] at hx0 hy0 hs0 hr0
      subst hx0 hy0 hs0 hr0
      exact ⟨x, y, s, r, hc0, hc1, hc2, hc3⟩
    by_cases hl0 : len = 0
    · subst hl0
      exact ⟨_, 0, 0, 0, cap, fun _ => 0, fun _ => 0, fun _ => 0, fun _ => 0, rfl, by omega, fun h => by omega, fun i hi => by omega⟩
    · have hspot : spot = none := by
        obtain ⟨x, y, s, r, h0, _, _, _⟩ := key 0 (by omega)
        simpa [Addr.add] using World.cell?_spot h0
      subst hspot
      refine ⟨_, b, off, len, cap, fun i => intAt w ⟨b, off + i * 4, none⟩, fun i => intAt w ⟨b, off + i * 4 + 1, none⟩, fun i => fltAt w ⟨b, off + i * 4 + 2, none⟩, fun i => fltAt w ⟨b, off + i * 4 + 3, none⟩, rfl, by omega, fun _ => rfl, fun i hil => ?_⟩
      obtain ⟨x, y, s, r, h0, h1, h2, h3⟩ := key i hil
      have h0 : w.cell? ⟨b, off + i * 4, none⟩ = some (.int .i64 x) := by rw [addr_plain] at h0; exact h0
      have h1 : w.cell? ⟨b, off + i * 4 + 1, none⟩ = some (.int .i64 y) := by rw [addr_plain] at h1; exact h1
      have h2 : w.cell? ⟨b, off + i * 4 + 2, none⟩ = some (.float .f32 s) := by rw [addr_plain] at h2; exact h2
      have h3 : w.cell? ⟨b, off + i * 4 + 3, none⟩ = some (.float .f32 r) := by rw [addr_plain] at h3; exact h3
      simp only [intAt_of h0, intAt_of h1, fltAt_of h2, fltAt_of h3]
      exact ⟨h0, h1, h2, h3⟩
end
end Go.Proofs.Ythddnjhdonnojaa
