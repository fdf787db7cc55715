/- The contracts of the small functions on floats: what each returns, as a plain function of the bits. -/
import Derived.Test.YthddnjhdonnojaaRows
import Derived.Test.YthddnjhdonnojaaFl
import Derived.WalkSpells
import Derived.Lib.Hide
namespace Go.Proofs.Ythddnjhdonnojaa
open Go.RowKit
set_option linter.unusedVariables false
set_option linter.unusedSimpArgs false

def Quiet (v : Value) (w : World) (e : Ending) (w' : World) : Prop := e = .returned v ∧ ∃ n, w' = w.drewN n

theorem z00 : FloatKind.f32.format.order 0 0 = some .eq := by decide

theorem isFinite_any (x : Nat) (w : World) : Calls Try.prog 102 #[.float .f32 x] w (Quiet (.bool (Fl.fin .f32 x)) w) := by
  by_cases h : Fl.fin .f32 x = true
  · have hop := fun t w => Fl.run_sub_self (P := Try.prog) w h t
    go_enter Try.func102, Try.ntmps102
    go_wp2_with (simp only [hop])
    go_ret
    exact ⟨by simp [z00, h], 0, rfl⟩
  · have h := Bool.eq_false_iff.2 h
    have hop := fun t w => Fl.run_sub_self_nan (P := Try.prog) w h t
    go_enter Try.func102, Try.ntmps102
    go_wp2_with (simp only [hop])
    go_ret
    exact ⟨by simp [Fl.order_nan_left (Fl.isNaN_bits _ _ _ _), h], 1, rfl⟩

theorem l01Finite_any (x : Nat) (w : World) : Calls Try.prog 96 #[.float .f32 x] w (Quiet (.bool (Fl.fin .f32 x)) w) := by
  by_cases h : Fl.fin .f32 x = true
  · have hop := fun t w => Fl.run_sub_self (P := Try.prog) w h t
    go_enter Try.func96, Try.ntmps96
    go_wp2_with (simp only [hop])
    go_ret
    exact ⟨by simp [z00, h], 0, rfl⟩
  · have h := Bool.eq_false_iff.2 h
    have hop := fun t w => Fl.run_sub_self_nan (P := Try.prog) w h t
    go_enter Try.func96, Try.ntmps96
    go_wp2_with (simp only [hop])
    go_ret
    exact ⟨by simp [Fl.order_nan_left (Fl.isNaN_bits _ _ _ _), h], 1, rfl⟩

/-- Finite and at least 0. -/
def amtB (x : Nat) : Bool := Fl.fin .f32 x && (FloatKind.f32.format.order x 0 == some .gt || FloatKind.f32.format.order x 0 == some .eq)
/-- Finite and greater than 0. -/
def lenB (x : Nat) : Bool := Fl.fin .f32 x && (FloatKind.f32.format.order x 0 == some .gt)

theorem isAmount_any (x : Nat) (w : World) : Calls Try.prog 60 #[.float .f32 x] w (Quiet (.bool (amtB x)) w) := by
  by_cases h : Fl.fin .f32 x = true
  · go_enter Try.func60, Try.ntmps60
    go_wp2_with (go_at_call 102; refine (isFinite_any _ _).mono ?_; rintro e w' ⟨rfl, n, rfl⟩)
    go_ret
    exact ⟨by simp [amtB, h], n, rfl⟩
  · have h := Bool.eq_false_iff.2 h
    go_enter Try.func60, Try.ntmps60
    go_wp2_with (go_at_call 102; refine (isFinite_any _ _).mono ?_; rintro e w' ⟨rfl, n, rfl⟩)
    go_ret
    exact ⟨by simp [amtB, h], n, rfl⟩

theorem ext118 (x : Nat) (w : World) : (callFunc 118 #[.float .f32 x]).run Try.prog w = .ok (.value (.int .u32 x)) w := by
  rw [run_callFunc_extern Try.func118 (by kernel_rfl) (by kernel_rfl) (by kernel_rfl) (e := Extern.MathFloatBits.float32bits) (by kernel_rfl)]
  rfl

def bitsB (x : Nat) : Int := if FloatKind.f32.format.order x x == some .eq then wrap64 x else 2143289344

set_option maxRecDepth 100000 in
theorem l01Bits_any (x : Nat) (w : World) : Calls Try.prog 103 #[.float .f32 x] w (Quiet (.int .i64 (bitsB x)) w) := by
  have hx := ext118
  go_enter Try.func103, Try.ntmps103
  go_wp2
  all_goals go_ret
  all_goals
    first
      | (have h : (FloatKind.f32.format.order x x != some Ordering.eq) = true := by assumption
         exact ⟨by simp_all [bitsB], 0, rfl⟩)
      | (have h : (FloatKind.f32.format.order x x != some Ordering.eq) = false := by assumption
         exact ⟨by simp_all [bitsB], 0, rfl⟩)

set_option maxRecDepth 100000 in
theorem bitsOf_any (x : Nat) (w : World) : Calls Try.prog 104 #[.float .f32 x] w (Quiet (.int .i64 (bitsB x)) w) := by
  have hx := ext118
  go_enter Try.func104, Try.ntmps104
  go_wp2
  all_goals go_ret
  all_goals
    first
      | (have h : (FloatKind.f32.format.order x x != some Ordering.eq) = true := by assumption
         exact ⟨by simp_all [bitsB], 0, rfl⟩)
      | (have h : (FloatKind.f32.format.order x x != some Ordering.eq) = false := by assumption
         exact ⟨by simp_all [bitsB], 0, rfl⟩)

/-- The same number: by its bits, all NaNs being one. -/
def sameB (x y : Nat) : Bool := bitsB x == bitsB y

theorem l01Same_any (x y : Nat) (w : World) : Calls Try.prog 61 #[.float .f32 x, .float .f32 y] w (Quiet (.bool (sameB x y)) w) := by
  go_enter Try.func61, Try.ntmps61
  go_wp2_with (go_at_call 103; refine (l01Bits_any _ _).mono ?_; rintro e w' ⟨rfl, n, rfl⟩)
  go_ret
  exact ⟨rfl, _, rfl⟩

theorem sameNumber_any (x y : Nat) (w : World) : Calls Try.prog 62 #[.float .f32 x, .float .f32 y] w (Quiet (.bool (sameB x y)) w) := by
  go_enter Try.func62, Try.ntmps62
  go_wp2_with (go_at_call 104; refine (bitsOf_any _ _).mono ?_; rintro e w' ⟨rfl, n, rfl⟩)
  go_ret
  exact ⟨rfl, _, rfl⟩

theorem l02Least_any (x : Nat) (w : World) : Calls Try.prog 101 #[.float .f32 x] w (Quiet (.bool (amtB x)) w) := by
  cases h : Fl.fin .f32 x
  all_goals
    go_enter Try.func101, Try.ntmps101
    go_wp2_with (go_at_call 96; refine (l01Finite_any _ _).mono ?_; rintro e w' ⟨rfl, n, rfl⟩)
    go_ret
    exact ⟨by simp [amtB, h], n, rfl⟩

theorem isLength_any (x : Nat) (w : World) : Calls Try.prog 88 #[.float .f32 x] w (Quiet (.bool (lenB x)) w) := by
  cases h : Fl.fin .f32 x
  all_goals
    go_enter Try.func88, Try.ntmps88
    go_wp2_with (go_at_call 102; refine (isFinite_any _ _).mono ?_; rintro e w' ⟨rfl, n, rfl⟩)
    go_ret
    exact ⟨by simp [lenB, h], n, rfl⟩

theorem l02Above_any (x : Nat) (w : World) : Calls Try.prog 86 #[.float .f32 x] w (Quiet (.bool (lenB x)) w) := by
  cases h : Fl.fin .f32 x
  all_goals
    go_enter Try.func86, Try.ntmps86
    go_wp2_with (go_at_call 96; refine (l01Finite_any _ _).mono ?_; rintro e w' ⟨rfl, n, rfl⟩)
    go_ret
    exact ⟨by simp [lenB, h], n, rfl⟩

def inB (x lo hi : Int) : Bool := decide (lo ≤ x) && decide (x ≤ hi)

theorem within_any (x lo hi : Int) (w : World) : Calls Try.prog 69 #[.int .i64 x, .int .i64 lo, .int .i64 hi] w (Quiet (.bool (inB x lo hi)) w) := by
  cases h : decide (lo ≤ x)
  all_goals
    go_enter Try.func69, Try.ntmps69
    go_wp2
    go_ret
    exact ⟨by simp [inB, h], 0, rfl⟩

theorem l00In_any (x lo hi : Int) (w : World) : Calls Try.prog 105 #[.int .i64 x, .int .i64 lo, .int .i64 hi] w (Quiet (.bool (inB x lo hi)) w) := by
  cases h : decide (lo ≤ x)
  all_goals
    go_enter Try.func105, Try.ntmps105
    go_wp2
    go_ret
    exact ⟨by simp [inB, h], 0, rfl⟩

theorem size_any (a : Option Addr) (n c : Nat) (w : World) : Calls Try.prog 70 #[.slice a n c] w (Quiet (.int .i64 n) w) := by
  go_enter Try.func70, Try.ntmps70
  go_wp2
  go_ret
  exact ⟨rfl, 0, rfl⟩

theorem areNumbers_any (a : Option Addr) (n c : Nat) (w : World) : Calls Try.prog 108 #[.slice a n c] w (Quiet (.bool (decide ((n : Int) ≤ 256))) w) := by
  go_enter Try.func108, Try.ntmps108
  go_wp2
  go_ret
  exact ⟨rfl, 0, rfl⟩

theorem number_any (x : Nat) (b : Bool) (w : World) : Calls Try.prog 85 #[.float .f32 x, .bool b] w
    (Quiet (.tuple #[.float .f32 (if b && Fl.fin .f32 x then x else 0), .bool (b && Fl.fin .f32 x)]) w) := by
  cases b <;> cases h : Fl.fin .f32 x
  all_goals
    go_enter Try.func85, Try.ntmps85
    go_wp2_with (go_at_call 102; refine (isFinite_any _ _).mono ?_; rintro e w' ⟨rfl, n, rfl⟩)
    go_ret2
    first | exact ⟨by simp, _, rfl⟩ | exact ⟨by simp, 0, rfl⟩

theorem l02Number_any (x : Nat) (w : World) : Calls Try.prog 83 #[.float .f32 x] w
    (Quiet (.tuple #[.float .f32 (if Fl.fin .f32 x then x else 0), .bool (Fl.fin .f32 x)]) w) := by
  cases h : Fl.fin .f32 x
  all_goals
    go_enter Try.func83, Try.ntmps83
    go_wp2_with (go_at_call 96; refine (l01Finite_any _ _).mono ?_; rintro e w' ⟨rfl, n, rfl⟩)
    go_ret2
    first | exact ⟨by simp, _, rfl⟩ | exact ⟨by simp, 0, rfl⟩

/-- Two 64-bit numbers that are the same: both NaNs, or one word. -/
def SameF (a b : Nat) : Prop := (Fl.isNaN .f64 a = true ∧ Fl.isNaN .f64 b = true) ∨ (a = b ∧ Fl.isNaN .f64 a = false)

set_option maxRecDepth 100000 in
theorem sameFloat_self (a b : Nat) (h : SameF a b) (w : World) : Calls Try.prog 43 #[.float .f64 a, .float .f64 b] w (Quiet (.bool true) w) := by
  rcases h with ⟨ha, hb⟩ | ⟨rfl, ha⟩
  · have h1 := Fl.order_nan_left ha a
    have h2 := Fl.order_nan_left hb b
    go_enter Try.func43, Try.ntmps43
    go_wp2
    go_ret
    exact ⟨by simp [h1, h2], 0, rfl⟩
  · have h1 := Fl.order_self ha
    cases hz : FloatKind.f64.format.order a 0 == some .eq
    · have hz' := Fl.order_self ha
      go_enter Try.func43, Try.ntmps43
      go_wp2
      go_ret
      exact ⟨by simp [h1], 0, rfl⟩
    · obtain ⟨r, hr⟩ := Fl.div_zero (by simpa using hz)
      have hop := fun t w => run_float_arith (P := Try.prog) w .quo t .f64 4607182418800017408 a r hr
      go_enter Try.func43, Try.ntmps43
      go_wp2_with (simp only [hop])
      go_ret
      exact ⟨by simp, 0, rfl⟩
end Go.Proofs.Ythddnjhdonnojaa
