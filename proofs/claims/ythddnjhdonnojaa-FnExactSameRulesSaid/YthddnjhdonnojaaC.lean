/- Rules: what SameRules needs: spec and program compare the four numbers by their bits. -/
import Derived.Test.YthddnjhdonnojaaB
import Derived.Deep.RegionHeld3
namespace Go.Proofs.Ythddnjhdonnojaa
open Go.RowKit
set_option linter.unusedVariables false
set_option linter.unusedSimpArgs false

def sameRulesB (a b c d a' b' c' d' : Nat) : Bool := sameB a a' && sameB b b' && sameB c c' && sameB d d'

theorem sameRules_impl (a b c d a' b' c' d' : Nat) (w : World) : Calls Try.prog 18 #[f4 a b c d, f4 a' b' c' d'] w (Ret (.bool (sameRulesB a b c d a' b' c' d')) w) := by
  cases h1 : sameB a a' <;> cases h2 : sameB b b' <;> cases h3 : sameB c c' <;> cases h4 : sameB d d'
  all_goals
    go_enter Try.func18, Try.ntmps18
    go_wp2_with (go_at_call 62; refine (sameNumber_any _ _ _).mono ?_; rintro e w' ⟨rfl, n, rfl⟩)
    go_ret
    exact ⟨by simp [sameRulesB, h1, h2, h3, h4], below_drewN (((Below.refl _ _).alloc (Nat.le_refl _) _).alloc (by simp) _) _⟩

theorem sameRules_spec (a b c d a' b' c' d' : Nat) (w : World) : Calls Try.prog 17 #[f4 a b c d, f4 a' b' c' d'] w (Ret (.bool (sameRulesB a b c d a' b' c' d')) w) := by
  cases h1 : sameB a a' <;> cases h2 : sameB b b' <;> cases h3 : sameB c c' <;> cases h4 : sameB d d'
  all_goals
    go_enter Try.func17, Try.ntmps17
    go_wp2_with (go_at_call 61; refine (l01Same_any _ _ _).mono ?_; rintro e w' ⟨rfl, n, rfl⟩)
    go_ret
    exact ⟨by simp [sameRulesB, h1, h2, h3, h4], below_drewN (((Below.refl _ _).alloc (Nat.le_refl _) _).alloc (by simp) _) _⟩

/-- Two structs of four floats lie in blocks B and B'; of what lay there in W nothing has turned. -/
def S8 (W : World) (B B' a b c d a' b' c' d' : Nat) (w : World) : Prop :=
  Below W.heap.size W w ∧ F4 w B a b c d ∧ F4 w B' a' b' c' d'

theorem S8.keep {W : World} {B B' a b c d a' b' c' d' : Nat} {w w' : World} (h : S8 W B B' a b c d a' b' c' d' w) (hb : Below w.heap.size w w') :
    S8 W B B' a b c d a' b' c' d' w' := ⟨h.1.trans (hb.mono h.1.size), h.2.1.keep hb, h.2.2.keep hb⟩

theorem sameRules_law (a b c d a' b' c' d' : Nat) (w : World) : Calls Try.prog 4 #[f4 a b c d, f4 a' b' c' d'] w (Ret (.bool true) w) := by
  have hS : S8 w w.heap.size (w.heap.size + 1) a b c d a' b' c' d' ((w.alloc (.cells #[.float .f32 a, .float .f32 b, .float .f32 c, .float .f32 d] 24)).alloc (.cells #[.float .f32 a', .float .f32 b', .float .f32 c', .float .f32 d'] 24)) := by
    refine ⟨((Below.refl _ _).alloc (Nat.le_refl _) _).alloc (by simp) _, (F4.new w a b c d 24).keep ((Below.refl _ _).alloc (Nat.le_refl _) _), ?_⟩
    have h := F4.new (w.alloc (.cells #[.float .f32 a, .float .f32 b, .float .f32 c, .float .f32 d] 24)) a' b' c' d' 24
    simpa using h
  go_enter Try.func4, Try.ntmps4
  go_wp2_with fail
  generalize ((w.alloc (.cells #[.float .f32 a, .float .f32 b, .float .f32 c, .float .f32 d] 24)).alloc (.cells #[.float .f32 a', .float .f32 b', .float .f32 c', .float .f32 d'] 24)) = w0 at *
  have hS1 := hS.keep (below_drewN (Below.refl _ _) 1)
  go_region_held3 (fun w' => Below w.heap.size w w' ∧ (w'.cell? ⟨w.heap.size, 0, none⟩ = some (.float .f32 a) ∧ w'.cell? ⟨w.heap.size, 1, none⟩ = some (.float .f32 b) ∧ w'.cell? ⟨w.heap.size, 2, none⟩ = some (.float .f32 c) ∧ w'.cell? ⟨w.heap.size, 3, none⟩ = some (.float .f32 d)) ∧
      (w'.cell? ⟨w.heap.size + 1, 0, none⟩ = some (.float .f32 a') ∧ w'.cell? ⟨w.heap.size + 1, 1, none⟩ = some (.float .f32 b') ∧ w'.cell? ⟨w.heap.size + 1, 2, none⟩ = some (.float .f32 c') ∧ w'.cell? ⟨w.heap.size + 1, 3, none⟩ = some (.float .f32 d')))
    (first | exact hS1 | exact S8.keep (by assumption) (by assumption))
    (first
      | (go_at_call 15; refine (toRules_any _ _ _ _ _).mono ?_; rintro e w1 ⟨rfl, hb1⟩)
      | (go_at_call 17; refine (sameRules_spec _ _ _ _ _ _ _ _ _).mono ?_; rintro e w1 ⟨rfl, hb1⟩))
  have hS2 : S8 w w.heap.size (w.heap.size + 1) a b c d a' b' c' d' w1 := by assumption
  have hS3 := hS2.keep (below_drewN (Below.refl _ _) 1)
  clear hS hS1 hS2 hb1
  go_wp2_with fail
  go_region_held3 (fun w' => Below w.heap.size w w' ∧ (w'.cell? ⟨w.heap.size, 0, none⟩ = some (.float .f32 a) ∧ w'.cell? ⟨w.heap.size, 1, none⟩ = some (.float .f32 b) ∧ w'.cell? ⟨w.heap.size, 2, none⟩ = some (.float .f32 c) ∧ w'.cell? ⟨w.heap.size, 3, none⟩ = some (.float .f32 d)) ∧
      (w'.cell? ⟨w.heap.size + 1, 0, none⟩ = some (.float .f32 a') ∧ w'.cell? ⟨w.heap.size + 1, 1, none⟩ = some (.float .f32 b') ∧ w'.cell? ⟨w.heap.size + 1, 2, none⟩ = some (.float .f32 c') ∧ w'.cell? ⟨w.heap.size + 1, 3, none⟩ = some (.float .f32 d')))
    (first | exact hS3 | exact S8.keep (by assumption) (by assumption))
    (first
      | (go_at_call 15; refine (toRules_any _ _ _ _ _).mono ?_; rintro e w2 ⟨rfl, hb2⟩)
      | (go_at_call 18; refine (sameRules_impl _ _ _ _ _ _ _ _ _).mono ?_; rintro e w2 ⟨rfl, hb2⟩))
  have hS4 : S8 w w.heap.size (w.heap.size + 1) a b c d a' b' c' d' w2 := by assumption
  have hB := hS4.1
  clear hS3 hS4 hb2
  go_wp2
  go_ret
  exact ⟨rfl, hB⟩
end Go.Proofs.Ythddnjhdonnojaa
