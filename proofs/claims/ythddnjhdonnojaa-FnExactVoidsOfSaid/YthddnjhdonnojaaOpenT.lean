/- How an argument that is a slice of structs is opened, whatever the number of one-cell fields; the touches. -/
import Derived.Test.YthddnjhdonnojaaOpen
import Derived.Test.YthddnjhdonnojaaD
import Derived.Deep.Slices
import Derived.Deep.Fields
import Derived.ChangeSame
namespace Go.Proofs.Ythddnjhdonnojaa
open Go.ChangeShapes Go.WideShapes Go.Deep Go.ChangeAt Go.RowKit Go.Joins
set_option linter.unusedVariables false
set_option linter.unusedSimpArgs false

section
variable {H : Type} {enc : TypeId × Value → H} {P : Program} {w : World} {base : Nat} {spare : Nat → Bool} {held : Bool}
theorem open_slice_fields {t e : TypeId} {fs : Array Field} {fuel : Nat} {cs : List Value} {x : DataW H × List MemPlace} (ht : P.underlying t = some (.slice e)) (he : P.underlying e = some (.struct fs))
    (hone : oneCellFields P fs = true) (hC : P.cellsOf e = fs.size) (h : DataW.trod enc P w base spare held fuel t cs = some x) :
    (cs = [.slice none 0 0] ∧ x = (.nil, [])) ∨
    ∃ (a : Addr) (len cap m : Nat) (D : Nat → DataW H) (Pl : Nat → List MemPlace), cs = [.slice (some a) len cap] ∧ base ≤ a.block ∧ len ≤ cap ∧ cap ≤ maxLen ∧ m = (if spare a.block then cap else len) ∧
      x = (.slice ((List.range len).map D) ((List.range (m - len)).map fun j => D (len + j)), MemPlace.row a (m * fs.size) ++ (List.range m).flatMap Pl) ∧
      ∀ i, i < m → ∃ (ys : List (DataW H × List MemPlace)) (n : Nat), D i = .agg (ys.map (·.1)) ∧ Pl i = ys.flatMap (·.2) ∧ ys.length = fs.size ∧
        ∀ (j : Nat) (f : Field), fs[j]? = some f → ∃ (v : Value) (y : DataW H × List MemPlace), w.cell? (a.add (i * fs.size + j)) = some v ∧ ys[j]? = some y ∧ DataW.trod enc P w base spare held n f.type [v] = some y := by
  rcases open_slice ht h with h0 | ⟨a, len, cap, m, n, D, Pl, hcs, hb, hl, hm, hmm, hx, hi⟩
  · exact .inl h0
  · refine .inr ⟨a, len, cap, m, D, Pl, hcs, hb, hl, hm, hmm, by rw [hC] at hx; exact hx, fun i him => ?_⟩
    obtain ⟨cs', hc, ht'⟩ := hi i him
    rw [hC] at hc
    obtain ⟨ys, n', hn', hy, hlen, hyl, hf⟩ := DataW.trod_struct he ht'
    obtain ⟨_, hcl, hat⟩ := World.cells?_some hc
    simp only [Prod.mk.injEq] at hy
    refine ⟨ys, n', hy.1, hy.2, hyl, fun j f hj => ?_⟩
    obtain ⟨ho, hk⟩ := hone_of hone j f hj
    have hjl : j < fs.size := (Array.getElem?_eq_some_iff.1 hj).1
    have hcell := hat j hjl
    have hv : cs'[j]? = some (cs'[j]'(by omega)) := List.getElem?_eq_getElem (by omega)
    have h1 := hf j f hj
    rw [ho, hk] at h1
    have hone' : (cs'.drop j).take 1 = [cs'[j]'(by omega)] := by
      rw [List.drop_eq_getElem_cons (by omega)]
      rfl
    rw [hone'] at h1
    have hys : ys[j]? = some (ys[j]'(by omega)) := List.getElem?_eq_getElem (by omega)
    refine ⟨_, _, ?_, hys, h1.trans hys⟩
    rw [← Go.Deep.add_add, hcell, hv]

theorem addr_plain (b off j : Nat) : (⟨b, off, none⟩ : Addr).add j = ⟨b, off + j, none⟩ := by
  by_cases h : j = 0
  · simp [Addr.add, h]
  · simp [Addr.add, h]

def intAt (w : World) (a : Addr) : Int := match w.cell? a with | some (.int _ x) => x | _ => 0
def fltAt (w : World) (a : Addr) : Nat := match w.cell? a with | some (.float _ x) => x | _ => 0
theorem intAt_of {w : World} {a : Addr} {k : IntKind} {x : Int} (h : w.cell? a = some (.int k x)) : intAt w a = x := by simp [intAt, h]
theorem fltAt_of {w : World} {a : Addr} {k : FloatKind} {x : Nat} (h : w.cell? a = some (.float k x)) : fltAt w a = x := by simp [fltAt, h]

set_option maxRecDepth 100000 in
theorem open_touches {r : Reach} {b0 : Nat} {v : Value} {d : DataW H} {p : List MemPlace}
    (hv : Value.okWide Try.prog w r b0 31 v) (h : DataW.Trod enc Try.prog w base spare held 31 v d p) :
    ∃ (ao : Option Addr) (b off n c : Nat) (A B : Nat → Int) (S : Nat → Nat), v = .slice ao n c ∧ n ≤ 9223372036854775807 ∧ (0 < n → ao = some ⟨b, off, none⟩) ∧ TRow w b off n A B S := by
  obtain ⟨a0, len, cap, rfl⟩ := okWide_slice Try.underlying31 hv
  obtain ⟨fuel, hf⟩ := h
  rcases open_slice_fields Try.underlying31 Try.underlying88 (by kernel_rfl) (by kernel_rfl) hf with ⟨hcs, hx⟩ | ⟨a, len', cap', m, D, Pl, hcs, hb, hl, hm, hmm, hx, hi⟩
  · simp [Value.cells] at hcs
    obtain ⟨rfl, rfl, rfl⟩ := hcs
    exact ⟨none, 0, 0, 0, 0, fun _ => 0, fun _ => 0, fun _ => 0, rfl, by omega, fun h => by omega, fun i hi => by omega⟩
  · simp [Value.cells] at hcs
    obtain ⟨rfl, rfl, rfl⟩ := hcs
    have hlm : len ≤ m := by rw [hmm]; split <;> omega
    unfold maxLen at hm
    obtain ⟨b, off, spot⟩ := a
    have key : ∀ i, i < len → ∃ (x y : Int) (s : Nat), w.cell? ((⟨b, off, spot⟩ : Addr).add (i * 3)) = some (.int .i64 x) ∧ w.cell? ((⟨b, off, spot⟩ : Addr).add (i * 3 + 1)) = some (.int .i64 y) ∧ w.cell? ((⟨b, off, spot⟩ : Addr).add (i * 3 + 2)) = some (.float .f32 s) := by
      intro i hil
      obtain ⟨ys, n, _, _, _, hfld⟩ := hi i (by omega)
      obtain ⟨v0, y0, hc0, _, ht0⟩ := hfld 0 _ rfl
      obtain ⟨v1, y1, hc1, _, ht1⟩ := hfld 1 _ rfl
      obtain ⟨v2, y2, hc2, _, ht2⟩ := hfld 2 _ rfl
      obtain ⟨x, hx0, _⟩ := DataW.trod_int (k := .i64) Try.underlying2 ht0
      obtain ⟨y, hy0, _⟩ := DataW.trod_int (k := .i64) Try.underlying2 ht1
      obtain ⟨s, hs0, _⟩ := trod_float (k := .f32) Try.underlying22 ht2
      simp only [List.cons.injEq, and_true] at hx0 hy0 hs0
      subst hx0 hy0 hs0
      exact ⟨x, y, s, hc0, hc1, hc2⟩
    by_cases hl0 : len = 0
    · subst hl0
      exact ⟨_, 0, 0, 0, cap, fun _ => 0, fun _ => 0, fun _ => 0, rfl, by omega, fun h => by omega, fun i hi => by omega⟩
    · have hspot : spot = none := by
        obtain ⟨x, y, s, h0, _, _⟩ := key 0 (by omega)
        simpa [Addr.add] using World.cell?_spot h0
      subst hspot
      refine ⟨_, b, off, len, cap, fun i => intAt w ⟨b, off + i * 3, none⟩, fun i => intAt w ⟨b, off + i * 3 + 1, none⟩, fun i => fltAt w ⟨b, off + i * 3 + 2, none⟩, rfl, by omega, fun _ => rfl, fun i hil => ?_⟩
      obtain ⟨x, y, s, h0, h1, h2⟩ := key i hil
      have h0 : w.cell? ⟨b, off + i * 3, none⟩ = some (.int .i64 x) := by rw [addr_plain] at h0; exact h0
      have h1 : w.cell? ⟨b, off + i * 3 + 1, none⟩ = some (.int .i64 y) := by rw [addr_plain] at h1; exact h1
      have h2 : w.cell? ⟨b, off + i * 3 + 2, none⟩ = some (.float .f32 s) := by rw [addr_plain] at h2; exact h2
      simp only [intAt_of h0, intAt_of h1, fltAt_of h2]
      exact ⟨h0, h1, h2⟩
end
end Go.Proofs.Ythddnjhdonnojaa
