/- How the laws' arguments are opened: a struct of four floats; one cell of a float. -/
import Derived.Test.YthddnjhdonnojaaRows
import Derived.ProofKit
import Derived.WalkKit
import Derived.WalkLawsBesides
import Derived.OpenShut
import Derived.Lib.SmallJoins
namespace Go.Proofs.Ythddnjhdonnojaa
open Go.ChangeShapes Go.WideShapes Go.ChangeAt Go.RowKit Go.Joins
set_option linter.unusedVariables false
set_option linter.unusedSimpArgs false

theorem own : ownKnob Try.prog.godebug = none := by kernel_rfl
theorem laidOut : laidOutB Try.prog = true := by kernel_rfl

section
variable {H : Type} {enc : TypeId × Value → H} {P : Program} {w : World} {base : Nat} {spare : Nat → Bool} {held : Bool}

theorem trod_float {k : FloatKind} {t : TypeId} {fuel : Nat} {cs : List Value} {x : DataW H × List MemPlace} (ht : P.underlying t = some (.float k)) (h : DataW.trod enc P w base spare held fuel t cs = some x) : ∃ b, cs = [.float k b] ∧ (Lit.float k b).wf = true := by
  cases fuel with
  | zero => simp [DataW.trod] at h
  | succ n =>
    unfold DataW.trod at h
    rw [ht] at h
    split at h <;> simp_all

set_option maxRecDepth 100000 in
theorem open_rules {r : Reach} {b0 : Nat} {v : Value} {d : DataW H} {p : List MemPlace}
    (hv : Value.okWide Try.prog w r b0 24 v) (h : DataW.Trod enc Try.prog w base spare held 24 v d p) :
    ∃ a b c e : Nat, v = .agg #[.float .f32 a, .float .f32 b, .float .f32 c, .float .f32 e] := by
  obtain ⟨v0, v1, v2, v3, y0, y1, y2, y3, n, rfl, _, _, h0, h1, h2, h3⟩ := open_agg4 Try.underlying24 (by kernel_rfl) (by kernel_rfl) hv h
  obtain ⟨a, ha, _⟩ := trod_float (k := .f32) Try.underlying22 h0
  obtain ⟨b, hb, _⟩ := trod_float (k := .f32) Try.underlying22 h1
  obtain ⟨c, hc, _⟩ := trod_float (k := .f32) Try.underlying22 h2
  obtain ⟨e, he, _⟩ := trod_float (k := .f32) Try.underlying22 h3
  simp only [List.cons.injEq, and_true] at ha hb hc he
  subst ha hb hc he
  exact ⟨a, b, c, e, rfl⟩
end
end Go.Proofs.Ythddnjhdonnojaa
