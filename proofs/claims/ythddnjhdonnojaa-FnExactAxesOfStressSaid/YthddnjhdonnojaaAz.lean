/- The axes of a stress: the law's walk. -/
import Derived.Test.YthddnjhdonnojaaAy
import Derived.Test.YthddnjhdonnojaaW
namespace Go.Proofs.Ythddnjhdonnojaa
open Go.RowKit
set_option linter.unusedVariables false
set_option linter.unusedSimpArgs false

theorem axV_parts (n : Nat) (S : Nat → Nat) : ∃ (h l t : Nat) (ok : Bool), axV n S = .tuple #[.float .f32 h, .float .f32 l, .float .f32 t, .bool ok] ∧ Fl.isNaN .f32 h = false ∧ Fl.isNaN .f32 l = false ∧ Fl.isNaN .f32 t = false := by
  cases hs : Fl.strOk n S
  · exact ⟨0, 0, 0, false, axV_no hs, by decide, by decide, by decide⟩
  · refine ⟨_, _, _, true, axV_yes hs, ?_⟩
    simp only [Fl.strOk, Bool.and_eq_true] at hs
    exact ⟨Fl.fin_not_nan hs.1.1.2, Fl.fin_not_nan hs.1.2, Fl.fin_not_nan hs.2⟩

set_option maxRecDepth 100000 in
set_option maxHeartbeats 2000000 in
theorem axes_law (b off n c : Nat) (S : Nat → Nat) (w : World) (hn : n ≤ 9223372036854775807) (ao : Option Addr) (hao : 0 < n → ao = some ⟨b, off, none⟩) (hR : FRow w b off n S) :
    Calls Try.prog 13 #[.slice ao n c] w (Ret (.bool true) w) := by
  by_cases h1 : (n : Int) ≤ 1048576
  · obtain ⟨h, l, t, ok, hax, nh, nl, nt⟩ := axV_parts n S
    have ch := fun w => wideF nh w
    have cl := fun w => wideF nl w
    have ct := fun w => wideF nt w
    have sh : SameF (Fl.wide h) (Fl.wide h) := .inr ⟨rfl, Fl.wide_not_nan nh⟩
    have sl : SameF (Fl.wide l) (Fl.wide l) := .inr ⟨rfl, Fl.wide_not_nan nl⟩
    have st : SameF (Fl.wide t) (Fl.wide t) := .inr ⟨rfl, Fl.wide_not_nan nt⟩
    have HX := Lib.hid hax
    clear hax
    go_enter Try.func13, Try.ntmps13
    go_wp2_with fail
    refine (toFloats_any b off n c S _ (by omega) ao hao hR).mono ?_
    rintro e w1 ⟨rfl, r1, k1⟩
    go_wp2_with fail
    refine (axes_spec _ 0 n n S _ (by omega) _ (fun _ => rfl) r1).mono ?_
    rintro e w2 ⟨rfl, q2, rfl⟩
    rw [HX.out]
    have hB2 : Below w.heap.size w (w1.drewN q2) := below_drewN k1 _
    clear r1 k1
    generalize w1.drewN q2 = w2 at *
    go_wp2_with fail
    refine (toFloats_any b off n c S _ (by omega) ao hao (hR.keep hB2)).mono ?_
    rintro e w3 ⟨rfl, r3, k3⟩
    have hB3 := hB2.trans (k3.mono hB2.size)
    clear k3 hB2
    go_wp2_with fail
    refine (axes_impl _ 0 n n S _ (by omega) _ (fun _ => rfl) r3).mono ?_
    rintro e w4 ⟨rfl, k4⟩
    rw [HX.out]
    have hB4 := hB3.trans (k4.mono hB3.size)
    have r4 := r3.keep k4
    clear k4 hB3 r3
    go_wp2_with (first | (simp only [ch]) | (simp only [cl]) | (simp only [ct]) | (go_at_call 43; refine (sameFloat_self _ _ (by assumption) _).mono ?_; rintro e w7a ⟨rfl, q7, rfl⟩))
    have hB5 := fun q => below_drewN hB4 q
    have r5 := fun q => r4.drew (w' := w4.drewN q) ⟨q, rfl⟩
    clear hB4 r4
    refine (toFloats_any b off n c S _ (by omega) ao hao (hR.keep (hB5 _))).mono ?_
    rintro e w6 ⟨rfl, r6, k6⟩
    have hB6 := (hB5 _).trans (k6.mono (hB5 _).size)
    have r7 := (r5 _).keep k6
    clear k6 hB5 r5
    go_wp2_with fail
    refine (eqFloats_self _ 0 n n _ 0 n S _ (by omega) _ _ (fun _ => rfl) (fun _ => rfl) r7 r6).mono ?_
    rintro e w8 ⟨rfl, q8, rfl⟩
    have hB8 := below_drewN hB6 q8
    clear hB6 r6 r7
    go_wp2
    go_ret
    exact ⟨rfl, hB8⟩
  · have h1' : 1048576 < (n : Int) := by omega
    go_enter Try.func13, Try.ntmps13
    go_wp2
    go_ret
    exact ⟨rfl, Below.refl _ _⟩
end Go.Proofs.Ythddnjhdonnojaa
