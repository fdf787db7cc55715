/- The contracts of the functions of lengths and angles. -/
import Derived.Test.YthddnjhdonnojaaAp
import Derived.Test.YthddnjhdonnojaaX
namespace Go.Proofs.Ythddnjhdonnojaa
open Go.RowKit
set_option linter.unusedVariables false
set_option linter.unusedSimpArgs false

theorem ext124 (x r : Nat) (h : FloatKind.f64.format.sqrt x = some r) (w : World) : (callFunc 124 #[.float .f64 x]).run Try.prog w = .ok (.value (.float .f64 r)) w := by
  rw [run_callFunc_extern Try.func124 (by kernel_rfl) (by kernel_rfl) (by kernel_rfl) (e := Extern.MathSqrt.sqrt) (by kernel_rfl)]
  have e : Extern.MathSqrt.sqrt #[.float .f64 x] = (match FloatKind.f64.format.sqrt x with | some r => pure (.float .f64 r) | none => do pure (.float .f64 (← choose (.nanBits .f64 x x)))) := rfl
  rw [e, h]
  rfl
theorem ext134 (n : Int) (w : World) : (callFunc 134 #[.int .u64 n]).run Try.prog w = .ok (.value (.float .f64 n.toNat)) w := by
  rw [run_callFunc_extern Try.func134 (by kernel_rfl) (by kernel_rfl) (by kernel_rfl) (e := Extern.MathFloatBits.float64frombits) (by kernel_rfl)]
  rfl
theorem ext135 (x : Nat) (w : World) : (callFunc 135 #[.float .f64 x]).run Try.prog w = .ok (.value (.int .u64 x)) w := by
  rw [run_callFunc_extern Try.func135 (by kernel_rfl) (by kernel_rfl) (by kernel_rfl) (e := Extern.MathFloatBits.float64bits) (by kernel_rfl)]
  rfl

theorem sqrt_any (x r : Nat) (h : FloatKind.f64.format.sqrt x = some r) (w : World) : Calls Try.prog 113 #[.float .f64 x] w (Quiet (.float .f64 r) w) := by
  have hop := fun w => ext124 x r h w
  go_enter Try.func113, Try.ntmps113
  go_wp2_with (simp only [hop])
  go_ret
  exact ⟨rfl, 0, rfl⟩

theorem nan_any (w : World) : Calls Try.prog 125 #[] w (Quiet (.float .f64 9221120237041090561) w) := by
  have hop := fun n w => ext134 n w
  go_enter Try.func125, Try.ntmps125
  go_wp2_with (simp only [hop])
  go_ret
  exact ⟨rfl, 0, rfl⟩

theorem abs_any (x : Nat) (w : World) : Calls Try.prog 126 #[.float .f64 x] w (Quiet (.float .f64 (Fl.absB x)) w) := by
  have hop := fun x w => ext135 x w
  have hop2 := fun n w => ext134 n w
  go_enter Try.func126, Try.ntmps126
  go_wp2_with (first | (simp only [hop]) | (simp only [hop2]))
  go_ret
  exact ⟨by simp [Fl.absB], 0, rfl⟩

theorem narrow_some {x r : Nat} (h : floatToFloatBits .f64 x .f32 = some r) (w : World) : (convert 62 22 (.float .f64 x)).run Try.prog w = .ok (.float .f32 r) w :=
  run_convert_float_float w 62 22 .f64 .f32 x r (by kernel_rfl) (by kernel_rfl) h

/-- Some number is drawn for the NaN. -/
theorem narrow_nan : ∃ (v : World → Nat), ∀ (w : World), (convert 62 22 (.float .f64 9221120237041090561)).run Try.prog w = .ok (.float .f32 (v w)) (w.drewN 1) := by
  refine ⟨Fl.nanOf .f32 (.nanConv .f32 9221120237041090561), fun w => ?_⟩
  have h1 : Try.prog.underlying 62 = some (.float .f64) := by kernel_rfl
  have h2 : Try.prog.underlying 22 = some (.float .f32) := by kernel_rfl
  have h3 : (FloatKind.f64.decode 9221120237041090561).isNaN = true := by decide
  generalize hz : (9221120237041090561 : Nat) = z at *
  cases hx : FloatKind.f64.decode z with
  | number s m e => rw [hx] at h3; simp [Ieee.Datum.isNaN] at h3
  | infinity s => rw [hx] at h3; simp [Ieee.Datum.isNaN] at h3
  | nan s t =>
    simp [convert, run_underlying h1, run_underlying h2, Conv.floatToFloat, hx] <;> rfl

theorem l01Narrow_some {x r : Nat} (h : floatToFloatBits .f64 x .f32 = some r) (w : World) : Calls Try.prog 112 #[.float .f64 x] w (Quiet (.float .f32 r) w) := by
  have hop := fun w => narrow_some h w
  go_enter Try.func112, Try.ntmps112
  go_wp2_with (simp only [hop])
  go_ret
  exact ⟨rfl, 0, rfl⟩

/-- Some 32-bit number. -/
def Some32 (w : World) (e : Ending) (w' : World) : Prop := ∃ v, Quiet (.float .f32 v) w e w'

theorem l01Narrow_nan (w : World) : Calls Try.prog 112 #[.float .f64 9221120237041090561] w (Some32 w) := by
  obtain ⟨v, hop⟩ := narrow_nan
  go_enter Try.func112, Try.ntmps112
  go_wp2_with (simp only [hop])
  go_ret
  exact ⟨_, rfl, 1, rfl⟩

/-! ## Lengths -/
theorem isNaN_half {x : Nat} (h : Fl.Hfin x ∨ Fl.Hinf x) : Fl.isNaN .f32 x = false := by
  rcases h with h | h
  · exact Fl.fin_not_nan h.fin
  · exact h.nan

theorem l01PowerWide_any {re im : Nat} (h1 : Fl.isNaN .f32 re = false) (h2 : Fl.isNaN .f32 im = false) (hL : Fl.LongOk re im) (w : World) : Calls Try.prog 114 #[.complex .f32 re im] w (Quiet (.float .f64 (Fl.powB re im)) w) := by
  have w1 := fun w => wideF h1 w
  have w2 := fun w => wideF h2 w
  have m1 := fun t w => run_float_arith (P := Try.prog) w .mul t .f64 _ _ _ hL.m1
  have m2 := fun t w => run_float_arith (P := Try.prog) w .mul t .f64 _ _ _ hL.m2
  have ad := fun t w => run_float_arith (P := Try.prog) w .add t .f64 _ _ _ hL.ad
  clear hL
  go_enter Try.func114, Try.ntmps114
  go_wp2_with (first | (simp only [w1]) | (simp only [w2]) | (simp only [m1]) | (simp only [m2]) | (simp only [ad]))
  go_ret
  exact ⟨rfl, 0, rfl⟩

theorem wideParts_any {re im : Nat} (h1 : Fl.isNaN .f32 re = false) (h2 : Fl.isNaN .f32 im = false) (w : World) : Calls Try.prog 127 #[.complex .f32 re im] w (Quiet (.tuple #[.float .f64 (Fl.wide re), .float .f64 (Fl.wide im)]) w) := by
  have w1 := fun w => wideF h1 w
  have w2 := fun w => wideF h2 w
  go_enter Try.func127, Try.ntmps127
  go_wp2_with (first | (simp only [w1]) | (simp only [w2]))
  go_ret2
  exact ⟨rfl, 0, rfl⟩

theorem widePower_any {re im : Nat} (h1 : Fl.isNaN .f32 re = false) (h2 : Fl.isNaN .f32 im = false) (hL : Fl.LongOk re im) (w : World) : Calls Try.prog 116 #[.complex .f32 re im] w (Quiet (.float .f64 (Fl.powB re im)) w) := by
  have m1 := fun t w => run_float_arith (P := Try.prog) w .mul t .f64 _ _ _ hL.m1
  have m2 := fun t w => run_float_arith (P := Try.prog) w .mul t .f64 _ _ _ hL.m2
  have ad := fun t w => run_float_arith (P := Try.prog) w .add t .f64 _ _ _ hL.ad
  clear hL
  go_enter Try.func116, Try.ntmps116
  go_wp2_with (first | (go_at_call 127; refine (wideParts_any h1 h2 _).mono ?_; rintro e w' ⟨rfl, q, rfl⟩) | (simp only [m1]) | (simp only [m2]) | (simp only [ad]))
  go_ret
  exact ⟨rfl, q, rfl⟩

theorem l01Long_any {re im : Nat} (h1 : Fl.isNaN .f32 re = false) (h2 : Fl.isNaN .f32 im = false) (hL : Fl.LongOk re im) (w : World) : Calls Try.prog 97 #[.complex .f32 re im] w (Quiet (.float .f32 (Fl.longB re im)) w) := by
  go_enter Try.func97, Try.ntmps97
  go_wp2_with fail
  refine (l01PowerWide_any h1 h2 hL _).mono ?_
  rintro e w1 ⟨rfl, q1, rfl⟩
  go_wp2_with fail
  refine (sqrt_any _ _ hL.sq _).mono ?_
  rintro e w1 ⟨rfl, q2, rfl⟩
  go_wp2_with fail
  refine (l01Narrow_some hL.nr _).mono ?_
  rintro e w1 ⟨rfl, q3, rfl⟩
  clear hL
  go_wp2
  go_ret
  exact ⟨rfl, _, rfl⟩

theorem longOf_any {re im : Nat} (h1 : Fl.isNaN .f32 re = false) (h2 : Fl.isNaN .f32 im = false) (hL : Fl.LongOk re im) (w : World) : Calls Try.prog 99 #[.complex .f32 re im] w (Quiet (.float .f32 (Fl.longB re im)) w) := by
  have nr := fun w => narrow_some hL.nr w
  go_enter Try.func99, Try.ntmps99
  go_wp2_with fail
  refine (widePower_any h1 h2 hL _).mono ?_
  rintro e w1 ⟨rfl, q1, rfl⟩
  go_wp2_with fail
  refine (sqrt_any _ _ hL.sq _).mono ?_
  rintro e w1 ⟨rfl, q2, rfl⟩
  clear hL
  go_wp2_with (simp only [nr])
  go_ret
  exact ⟨rfl, _, rfl⟩
end Go.Proofs.Ythddnjhdonnojaa
