/- The program's angle of any point. -/
import Derived.Test.YthddnjhdonnojaaAu
namespace Go.Proofs.Ythddnjhdonnojaa
open Go.RowKit
set_option linter.unusedVariables false
set_option linter.unusedSimpArgs false

theorem angleTurns_fin {y x : Nat} (hy : Fl.fin .f32 y = true) (hx : Fl.fin .f32 x = true) (w : World) : Calls Try.prog 117 #[.float .f32 y, .float .f32 x] w (Ret (.float .f32 (Fl.angB y x)) w) := by
  cases hz : Fl.zeroB x && Fl.zeroB y
  · obtain ⟨p1, p2, p3⟩ := Fl.pt_ratio hy hx hz
    obtain ⟨r1, r2, r3⟩ := Fl.ratio_ok p1 p2 p3
    have he : Fl.angB y x = Fl.angN y x := by simp [Fl.angB, hz]
    rw [he]
    exact angleTurns_core y x _ _ _ _ _ _ _ hy hx rfl rfl hz rfl rfl p1 p2 rfl r1 r2 r3 (Fl.angW_ok hy hx hz).1 w
  · have he : Fl.angB y x = 0 := by simp [Fl.angB, hz]
    rw [he]
    have hB : Below w.heap.size w (w.alloc (.cells #[.float .f32 x, .float .f32 y] 22)) := (Below.refl _ _).alloc (Nat.le_refl _) _
    have hR := FRow.two w x y 22
    have hA := allFin_two x y
    rw [hx, hy] at hA
    simp only [Fl.zeroB, Bool.and_eq_true, beq_iff_eq] at hz
    obtain ⟨o1, o2⟩ := hz
    clear hx hy
    go_enter Try.func117, Try.ntmps117
    go_wp2_with fail
    refine (areFinite_any w.heap.size 0 2 2 (two x y) _ (by omega) _ (fun _ => rfl) hR).mono ?_
    rintro e w1' ⟨rfl, q, rfl⟩
    rw [hA]
    clear hR hA
    go_wp2
    go_ret
    exact ⟨rfl, below_drewN hB _⟩

/-- Some 32-bit number; what there was stays. -/
def SomeRet (w : World) (e : Ending) (w' : World) : Prop := ∃ v, Ret (.float .f32 v) w e w'

theorem angleTurns_inf {y x : Nat} (h : Fl.Hinf y ∨ Fl.Hinf x) (w : World) : Calls Try.prog 117 #[.float .f32 y, .float .f32 x] w (SomeRet w) := by
  have hB : Below w.heap.size w (w.alloc (.cells #[.float .f32 x, .float .f32 y] 22)) := (Below.refl _ _).alloc (Nat.le_refl _) _
  have hR := FRow.two w x y 22
  have hA : allFin 2 (two x y) = false := by
    rw [allFin_two]
    rcases h with h | h <;> simp [h.fin]
  obtain ⟨v, hop⟩ := narrow_nan
  clear h
  go_enter Try.func117, Try.ntmps117
  go_wp2_with fail
  refine (areFinite_any w.heap.size 0 2 2 (two x y) _ (by omega) _ (fun _ => rfl) hR).mono ?_
  rintro e w1' ⟨rfl, q, rfl⟩
  rw [hA]
  clear hR hA
  go_wp2_with (first | (go_at_call 125; refine (nan_any _).mono ?_; rintro e w' ⟨rfl, q2, rfl⟩) | (simp only [hop]))
  go_ret
  exact ⟨_, rfl, below_drewN (below_drewN hB _) 1⟩

theorem angleOf_fin {re im : Nat} (hy : Fl.fin .f32 im = true) (hx : Fl.fin .f32 re = true) (w : World) : Calls Try.prog 100 #[.complex .f32 re im] w (Ret (.float .f32 (Fl.angB im re)) w) := by
  go_enter Try.func100, Try.ntmps100
  go_wp2_with fail
  refine (angleTurns_fin hy hx _).mono ?_
  rintro e w1 ⟨rfl, hb⟩
  go_wp2
  go_ret
  exact ⟨rfl, hb⟩

theorem angleOf_inf {re im : Nat} (h : Fl.Hinf im ∨ Fl.Hinf re) (w : World) : Calls Try.prog 100 #[.complex .f32 re im] w (SomeRet w) := by
  go_enter Try.func100, Try.ntmps100
  go_wp2_with fail
  refine (angleTurns_inf h _).mono ?_
  rintro e w1 ⟨v, rfl, hb⟩
  go_wp2
  go_ret
  exact ⟨v, rfl, hb⟩
end Go.Proofs.Ythddnjhdonnojaa
