/- The reference's angle; the program's angle. -/
import Derived.Test.YthddnjhdonnojaaAr
namespace Go.Proofs.Ythddnjhdonnojaa
open Go.RowKit
set_option linter.unusedVariables false
set_option linter.unusedSimpArgs false

theorem fin_wide_inf {x : Nat} (h : Fl.Hinf x) : Fl.fin .f64 (Fl.wide x) = false := by
  obtain ⟨s, hr⟩ := Fl.wide_infinity h
  have hr' : FloatKind.f64.decode (Fl.wide x) = _ := hr
  simp [Fl.fin, hr']

theorem l01AngleWide_fin {y x : Nat} (hy : Fl.fin .f32 y = true) (hx : Fl.fin .f32 x = true) (hne : (Fl.zeroB x && Fl.zeroB y) = false) (w : World) :
    Calls Try.prog 115 #[.float .f64 (Fl.wide y), .float .f64 (Fl.wide x)] w (Quiet (.float .f64 (Fl.angW y x)) w) := by
  obtain ⟨p1, p2, p3⟩ := Fl.pt_ratio hy hx hne
  obtain ⟨r1, r2, r3⟩ := Fl.ratio_ok p1 p2 p3
  exact l01AngleWide_core (Fl.wide y) (Fl.wide x) _ _ _ _ _ _ _ _ (fin_wide hy) (fin_wide hx) (by rw [Fl.order_zero hx]; rfl) (by rw [Fl.order_zero hy]; rfl) (by rw [Fl.order_zero hx]; rfl) (by rw [Fl.order_zero hy]; rfl) hne rfl rfl rfl r1 r2 r3 w

theorem l01AngleWide_zero {y x : Nat} (hy : Fl.fin .f32 y = true) (hx : Fl.fin .f32 x = true) (hz : (Fl.zeroB x && Fl.zeroB y) = true) (w : World) :
    Calls Try.prog 115 #[.float .f64 (Fl.wide y), .float .f64 (Fl.wide x)] w (Quiet (.float .f64 0) w) := by
  have sY := fun t w => Fl.run_sub_self (P := Try.prog) w (fin_wide hy) t
  have sX := fun t w => Fl.run_sub_self (P := Try.prog) w (fin_wide hx) t
  have o1 := Fl.order_zero hx
  have o2 := Fl.order_zero hy
  simp only [Fl.zeroB, Bool.and_eq_true, beq_iff_eq] at hz
  rw [hz.1] at o1
  rw [hz.2] at o2
  clear hz hy hx
  have z := z00d
  go_enter Try.func115, Try.ntmps115
  go_wp2_with (first | (simp only [sY]) | (simp only [sX]))
  go_ret
  exact ⟨rfl, 0, rfl⟩

set_option maxRecDepth 100000 in
theorem l01AngleWide_inf {Y X : Nat} (h : Fl.fin .f64 Y = false ∨ Fl.fin .f64 X = false) (w : World) :
    Calls Try.prog 115 #[.float .f64 Y, .float .f64 X] w (Quiet (.float .f64 9221120237041090561) w) := by
  have z := z00d
  cases hY : Fl.fin .f64 Y
  · have sY := fun t w => Fl.run_sub_self_nan (P := Try.prog) w hY t
    have oY := fun w => Fl.order_nan_left (Fl.isNaN_bits .f64 Y Y w) 0
    clear h hY
    go_enter Try.func115, Try.ntmps115
    go_wp2_with (first | (simp only [sY, oY]) | (go_at_call 125; refine (nan_any _).mono ?_; rintro e w' ⟨rfl, q, rfl⟩))
    go_ret
    exact ⟨rfl, Drew.add (w := w) (w' := w.drew) ⟨1, rfl⟩ q⟩
  · have hX : Fl.fin .f64 X = false := by
      rcases h with h | h
      · rw [hY] at h; cases h
      · exact h
    have sY := fun t w => Fl.run_sub_self (P := Try.prog) w hY t
    have sX := fun t w => Fl.run_sub_self_nan (P := Try.prog) w hX t
    have oX := fun w => Fl.order_nan_left (Fl.isNaN_bits .f64 X X w) 0
    clear h hY hX
    go_enter Try.func115, Try.ntmps115
    go_wp2_with (first | (simp only [sY]) | (simp only [sX, oX]) | (go_at_call 125; refine (nan_any _).mono ?_; rintro e w' ⟨rfl, q, rfl⟩))
    go_ret
    exact ⟨rfl, Drew.add (w := w) (w' := w.drew) ⟨1, rfl⟩ q⟩

theorem l01Angle_fin {y x : Nat} (hy : Fl.fin .f32 y = true) (hx : Fl.fin .f32 x = true) (w : World) : Calls Try.prog 98 #[.float .f32 y, .float .f32 x] w (Quiet (.float .f32 (Fl.angB y x)) w) := by
  have w1 := fun w => wideF (Fl.fin_not_nan hy) w
  have w2 := fun w => wideF (Fl.fin_not_nan hx) w
  cases hz : Fl.zeroB x && Fl.zeroB y
  · go_enter Try.func98, Try.ntmps98
    go_wp2_with (first | (simp only [w1]) | (simp only [w2]))
    refine (l01AngleWide_fin hy hx hz _).mono ?_
    rintro e w' ⟨rfl, q, rfl⟩
    go_wp2_with fail
    refine (l01Narrow_some (Fl.angW_ok hy hx hz).1 _).mono ?_
    rintro e w' ⟨rfl, q', rfl⟩
    go_wp2
    go_ret
    exact ⟨by simp [Fl.angB, hz], _, rfl⟩
  · go_enter Try.func98, Try.ntmps98
    go_wp2_with (first | (simp only [w1]) | (simp only [w2]))
    refine (l01AngleWide_zero hy hx hz _).mono ?_
    rintro e w' ⟨rfl, q, rfl⟩
    go_wp2_with fail
    refine (l01Narrow_some Fl.narrow_zero _).mono ?_
    rintro e w' ⟨rfl, q', rfl⟩
    go_wp2
    go_ret
    exact ⟨by simp [Fl.angB, hz], _, rfl⟩

theorem l01Angle_inf {y x : Nat} (h1 : Fl.isNaN .f32 y = false) (h2 : Fl.isNaN .f32 x = false) (h : Fl.Hinf y ∨ Fl.Hinf x) (w : World) : Calls Try.prog 98 #[.float .f32 y, .float .f32 x] w (Some32 w) := by
  have w1 := fun w => wideF h1 w
  have w2 := fun w => wideF h2 w
  have h' : Fl.fin .f64 (Fl.wide y) = false ∨ Fl.fin .f64 (Fl.wide x) = false := h.imp fin_wide_inf fin_wide_inf
  go_enter Try.func98, Try.ntmps98
  go_wp2_with (first | (simp only [w1]) | (simp only [w2]))
  refine (l01AngleWide_inf h' _).mono ?_
  rintro e w' ⟨rfl, q, rfl⟩
  go_wp2_with fail
  refine (l01Narrow_nan _).mono ?_
  rintro e w' ⟨v, rfl, q', rfl⟩
  go_wp2
  go_ret
  exact ⟨v, rfl, _, rfl⟩
end Go.Proofs.Ythddnjhdonnojaa
