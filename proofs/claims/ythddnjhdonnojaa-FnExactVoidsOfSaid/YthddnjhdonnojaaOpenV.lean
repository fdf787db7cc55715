/- How a list of 32-bit numbers, and a view, that came in are opened. -/
import Derived.Test.YthddnjhdonnojaaOpenT
import Derived.Test.YthddnjhdonnojaaV
namespace Go.Proofs.Ythddnjhdonnojaa
open Go.ChangeShapes Go.WideShapes Go.Deep Go.ChangeAt Go.RowKit Go.Joins
set_option linter.unusedVariables false
set_option linter.unusedSimpArgs false
section
variable {H : Type} {enc : TypeId × Value → H} {P : Program} {w : World} {base : Nat} {spare : Nat → Bool} {held : Bool}

set_option maxRecDepth 100000 in
theorem open_floats {fuel : Nat} {v : Value} {x : DataW H × List MemPlace} (h : DataW.trod enc Try.prog w base spare held fuel 37 [v] = some x) :
    ∃ (ao : Option Addr) (b off n c : Nat) (S : Nat → Nat), v = .slice ao n c ∧ n ≤ 9223372036854775807 ∧ (0 < n → ao = some ⟨b, off, none⟩) ∧ FRow w b off n S := by
  rcases open_slice Try.underlying37 h with ⟨hcs, hx⟩ | ⟨a, len, cap, m, n, D, Pl, hcs, hb, hl, hm, hmm, hx, hi⟩
  · simp only [List.cons.injEq, and_true] at hcs
    subst hcs
    exact ⟨none, 0, 0, 0, 0, fun _ => 0, rfl, by omega, fun h => by omega, fun i hi => by omega⟩
  · simp only [List.cons.injEq, and_true] at hcs
    subst hcs
    have hlm : len ≤ m := by rw [hmm]; split <;> omega
    unfold maxLen at hm
    obtain ⟨b, off, spot⟩ := a
    have hC : Try.prog.cellsOf 22 = 1 := by kernel_rfl
    have key : ∀ i, i < len → ∃ (s : Nat), w.cell? ((⟨b, off, spot⟩ : Addr).add i) = some (.float .f32 s) := by
      intro i hil
      obtain ⟨cs', hc, ht'⟩ := hi i (by omega)
      rw [hC, Nat.mul_one] at hc
      obtain ⟨_, hcl, hat⟩ := World.cells?_some hc
      obtain ⟨s, hs, _⟩ := trod_float (k := .f32) Try.underlying22 ht'
      have h0 := hat 0 (by omega)
      rw [hs] at h0
      exact ⟨s, by simpa [Addr.add] using h0⟩
    by_cases hl0 : len = 0
    · subst hl0
      exact ⟨_, 0, 0, 0, cap, fun _ => 0, rfl, by omega, fun h => by omega, fun i hi => by omega⟩
    · have hspot : spot = none := by
        obtain ⟨s, h0⟩ := key 0 (by omega)
        simpa [Addr.add] using World.cell?_spot h0
      subst hspot
      refine ⟨_, b, off, len, cap, fun i => fltAt w ⟨b, off + i, none⟩, rfl, by omega, fun _ => rfl, fun i hil => ?_⟩
      obtain ⟨s, h0⟩ := key i hil
      have h0 : w.cell? ⟨b, off + i, none⟩ = some (.float .f32 s) := by rw [addr_plain] at h0; exact h0
      simp only [fltAt_of h0]
      exact h0

set_option maxRecDepth 100000 in
theorem open_view {r : Reach} {b0 : Nat} {v : Value} {d : DataW H} {p : List MemPlace}
    (hv : Value.okWide Try.prog w r b0 39 v) (h : DataW.Trod enc Try.prog w base spare held 39 v d p) :
    ∃ (W Hh : Int) (ao : Option Addr) (b off n c : Nat) (S : Nat → Nat), v = vw W Hh ao n c ∧ n ≤ 9223372036854775807 ∧ (0 < n → ao = some ⟨b, off, none⟩) ∧ FRow w b off n S := by
  obtain ⟨v0, v1, v2, y0, y1, y2, n, rfl, _, _, h0, h1, h2⟩ := open_agg3 Try.underlying39 (by kernel_rfl) (by kernel_rfl) hv h
  obtain ⟨x, hx, _⟩ := DataW.trod_int (k := .i64) Try.underlying2 h0
  obtain ⟨y, hy, _⟩ := DataW.trod_int (k := .i64) Try.underlying2 h1
  simp only [List.cons.injEq, and_true] at hx hy
  subst hx hy
  obtain ⟨ao, b, off, m, c, S, rfl, hn, hao, hR⟩ := open_floats h2
  exact ⟨x, y, ao, b, off, m, c, S, rfl, hn, hao, hR⟩
end
end Go.Proofs.Ythddnjhdonnojaa
