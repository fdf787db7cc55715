/- Rules: the two laws on rules (ValidRules, SameRules): contracts of what they call. -/
import Derived.Test.YthddnjhdonnojaaA
namespace Go.Proofs.Ythddnjhdonnojaa
open Go.RowKit
set_option linter.unusedVariables false
set_option linter.unusedSimpArgs false

theorem run_store_float (P : Program) (w : World) (a : Addr) (m : Mode) (k : FloatKind) (b : Nat) : (store a (.float k b) m).run P w = stored P w a (.float k b) m := run_store P w a _ m rfl
attribute [local go_sem] run_store_float

/-- It returns v; what lay in memory before lies there unchanged. -/
def Ret (v : Value) (w : World) (e : Ending) (w' : World) : Prop := e = .returned v ∧ Below w.heap.size w w'

abbrev f4 (a b c d : Nat) : Value := .agg #[.float .f32 a, .float .f32 b, .float .f32 c, .float .f32 d]

theorem Ret.of_quiet {v : Value} {w : World} {e : Ending} {w' : World} (h : Quiet v w e w') : Ret v w e w' := by
  obtain ⟨he, n, hw⟩ := h
  exact ⟨he, by rw [hw]; exact below_drewN (Below.refl _ _) n⟩

theorem toRules_any (a b c d : Nat) (w : World) : Calls Try.prog 15 #[f4 a b c d] w (Ret (f4 a b c d) w) := by
  go_enter Try.func15, Try.ntmps15
  go_wp2
  exact bodyPost_ret (v := f4 a b c d) (by simp [results, Try.results15, go_sem]) rfl ⟨rfl, (((Below.refl _ _).alloc (Nat.le_refl _) _).alloc (by simp) _).alloc (by simp; omega) _⟩

def rulesB (a b c d : Nat) : Bool := amtB a && amtB b && amtB c && amtB d

theorem validRules_impl (a b c d : Nat) (w : World) : Calls Try.prog 16 #[f4 a b c d] w (Ret (.bool (rulesB a b c d)) w) := by
  cases ha : amtB a <;> cases hb : amtB b <;> cases hc : amtB c <;> cases hd : amtB d
  all_goals
    go_enter Try.func16, Try.ntmps16
    go_wp2_with (go_at_call 60; refine (isAmount_any _ _).mono ?_; rintro e w' ⟨rfl, n, rfl⟩)
    go_ret
    exact ⟨by simp [rulesB, ha, hb, hc, hd], below_drewN ((Below.refl _ _).alloc (Nat.le_refl _) _) _⟩

theorem l03Rules_any (a b c d : Nat) (B o : Nat) (w : World) (h0 : w.cell? ⟨B, o, none⟩ = some (.float .f32 a)) (h1 : w.cell? ⟨B, o + 1, none⟩ = some (.float .f32 b)) (h2 : w.cell? ⟨B, o + 2, none⟩ = some (.float .f32 c)) (h3 : w.cell? ⟨B, o + 3, none⟩ = some (.float .f32 d)) :
    Calls Try.prog 59 #[.pointer (some ⟨B, o, none⟩)] w (Quiet (.bool (rulesB a b c d)) w) := by
  cases ha : amtB a <;> cases hb : amtB b <;> cases hc : amtB c <;> cases hd : amtB d
  all_goals
    go_enter Try.func59, Try.ntmps59
    go_wp2_with (go_at_call 101; refine (l02Least_any _ _).mono ?_; rintro e w' ⟨rfl, n, rfl⟩)
    go_ret
    exact ⟨by simp [rulesB, ha, hb, hc, hd], _, rfl⟩

theorem validRules_spec (a b c d : Nat) (w : World) : Calls Try.prog 14 #[f4 a b c d] w (Ret (.bool (rulesB a b c d)) w) := by
  go_enter Try.func14, Try.ntmps14
  go_wp2_with (go_at_call 59; refine (l03Rules_any a b c d _ _ _ ?_ ?_ ?_ ?_).mono ?_; rotate_right; rintro e w' ⟨rfl, n, rfl⟩)
  all_goals first | (go_ret; exact ⟨rfl, below_drewN ((Below.refl _ _).alloc (Nat.le_refl _) _) _⟩) | (simp; done)

/-- Four floats lie in block B. -/
def F4 (w : World) (B : Nat) (a b c d : Nat) : Prop :=
  w.cell? ⟨B, 0, none⟩ = some (.float .f32 a) ∧ w.cell? ⟨B, 1, none⟩ = some (.float .f32 b) ∧ w.cell? ⟨B, 2, none⟩ = some (.float .f32 c) ∧ w.cell? ⟨B, 3, none⟩ = some (.float .f32 d)

theorem F4.keep {w w' : World} {B : Nat} {a b c d : Nat} (h : F4 w B a b c d) (hb : Below w.heap.size w w') : F4 w' B a b c d := by
  have l : B < w.heap.size := World.block_lt_of_cell? w _ h.1
  exact ⟨(hb.cell l).trans h.1, (hb.cell l).trans h.2.1, (hb.cell l).trans h.2.2.1, (hb.cell l).trans h.2.2.2⟩

theorem F4.new (w : World) (a b c d : Nat) (t : TypeId) : F4 (w.alloc (.cells #[.float .f32 a, .float .f32 b, .float .f32 c, .float .f32 d] t)) w.heap.size a b c d := by
  refine ⟨?_, ?_, ?_, ?_⟩ <;> simp

theorem validRules_law (a b c d : Nat) (w : World) : Calls Try.prog 3 #[f4 a b c d] w (Ret (.bool true) w) := by
  have hF := F4.new w a b c d 24
  have hB : Below w.heap.size w (w.alloc (.cells #[.float .f32 a, .float .f32 b, .float .f32 c, .float .f32 d] 24)) := (Below.refl _ _).alloc (Nat.le_refl _) _
  go_enter Try.func3, Try.ntmps3
  go_wp2_with fail
  generalize (w.alloc (.cells #[.float .f32 a, .float .f32 b, .float .f32 c, .float .f32 d] 24)) = w0 at *
  refine (toRules_any _ _ _ _ _).mono ?_
  rintro e w1 ⟨rfl, hb1⟩
  have hF1 := hF.keep hb1
  have hB1 := hB.trans (hb1.mono hB.size)
  go_wp2_with fail
  refine (validRules_spec _ _ _ _ _).mono ?_
  rintro e w2 ⟨rfl, hb2⟩
  have hF2 := hF1.keep hb2
  have hB2 := hB1.trans (hb2.mono hB1.size)
  obtain ⟨g0, g1, g2, g3⟩ := hF2
  go_wp2_with fail
  refine (toRules_any _ _ _ _ _).mono ?_
  rintro e w3 ⟨rfl, hb3⟩
  have hB3 := hB2.trans (hb3.mono hB2.size)
  go_wp2_with fail
  refine (validRules_impl _ _ _ _ _).mono ?_
  rintro e w4 ⟨rfl, hb4⟩
  have hB4 := hB3.trans (hb4.mono hB3.size)
  clear hb1 hb2 hb3 hb4 hB hB1 hB2 hB3
  go_wp2
  go_ret
  exact ⟨rfl, hB4⟩
end Go.Proofs.Ythddnjhdonnojaa
