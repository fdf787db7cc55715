/- Views: the law's walk of ValidView. -/
import Derived.Test.YthddnjhdonnojaaX
namespace Go.Proofs.Ythddnjhdonnojaa
open Go.RowKit
set_option linter.unusedVariables false
set_option linter.unusedSimpArgs false
attribute [local go_sem] run_store_float

/-- The law's own view lies in block B0, its copy in block Bx with its numbers in block bx; of what lay in W nothing has turned. -/
def LV (W0 : World) (B0 Bx bx : Nat) (W H : Int) (ao : Option Addr) (n c : Nat) (S : Nat → Nat) (w : World) : Prop :=
  Below W0.heap.size W0 w ∧ FRow w bx 0 n S ∧ VCell w B0 W H ao n c ∧ VCell w Bx W H (some ⟨bx, 0, none⟩) n n
theorem LV.keep {W0 : World} {B0 Bx bx : Nat} {W H : Int} {ao : Option Addr} {n c : Nat} {S : Nat → Nat} {w w' : World} (h : LV W0 B0 Bx bx W H ao n c S w) (hb : Below w.heap.size w w') : LV W0 B0 Bx bx W H ao n c S w' :=
  ⟨h.1.trans (hb.mono h.1.size), h.2.1.keep hb, h.2.2.1.keep hb, h.2.2.2.keep hb⟩

set_option maxRecDepth 100000 in
set_option maxHeartbeats 800000 in
theorem validView_law (W H : Int) (b off n c : Nat) (S : Nat → Nat) (w : World) (hn : n ≤ 9223372036854775807) (ao : Option Addr) (hao : 0 < n → ao = some ⟨b, off, none⟩) (hR : FRow w b off n S) :
    Calls Try.prog 6 #[vw W H ao n c] w (Ret (.bool true) w) := by
  have hB0 : Below w.heap.size w (w.alloc (.cells #[.int .i64 W, .int .i64 H, .slice ao n c] 39)) := (Below.refl _ _).alloc (Nat.le_refl _) _
  have hV0 := VCell.new w W H ao n c 39
  by_cases h1 : (n : Int) ≤ 1048576
  · go_enter Try.func6, Try.ntmps6
    go_wp2_with fail
    generalize w.alloc (.cells #[.int .i64 W, .int .i64 H, .slice ao n c] 39) = w1 at *
    refine (szView_any W H ao n c _ (by omega) (by omega) hn _).mono ?_
    rintro e w2 ⟨rfl, k2⟩
    rw [leftOf_yes h1]
    have hB2 := hB0.trans (k2.mono hB0.size)
    have hV2 := hV0.keep k2
    obtain ⟨u0, u1, u2⟩ := hV2
    go_wp2_with fail
    refine (toView_any W H b off n c S _ (by omega) ao hao (hR.keep hB2)).mono ?_
    rintro e w3 ⟨rfl, r3, k3⟩
    have hB3 := hB2.trans (k3.mono hB2.size)
    have hV3 := VCell.keep ⟨u0, u1, u2⟩ k3
    clear u0 u1 u2
    go_wp2_with fail
    refine (validView_spec W H _ 0 n n S _ (by omega) _ (fun _ => rfl) r3).mono ?_
    rintro e w4 ⟨rfl, k4⟩
    have hB4 := hB3.trans (k4.mono hB3.size)
    obtain ⟨u0, u1, u2⟩ := hV3.keep k4
    clear r3 k2 k3 k4 hV3 hB2 hB3
    go_wp2_with fail
    refine (toView_any W H b off n c S _ (by omega) ao hao (hR.keep hB4)).mono ?_
    rintro e w5 ⟨rfl, r5, k5⟩
    have hB5 := hB4.trans (k5.mono hB4.size)
    have hV5 := VCell.keep ⟨u0, u1, u2⟩ k5
    clear u0 u1 u2 k5
    have hL : LV w w.heap.size w5.heap.size (w4.heap.size + 3) W H ao n c S (w5.alloc (.cells #[.int .i64 W, .int .i64 H, .slice (some ⟨w4.heap.size + 3, 0, none⟩) n n] 42)) :=
      ⟨hB5.alloc hB5.size _, r5.keep ((Below.refl _ _).alloc (Nat.le_refl _) _), hV5.keep ((Below.refl _ _).alloc (Nat.le_refl _) _), VCell.new _ _ _ _ _ _ _⟩
    clear r5 hV5
    go_wp2_with fail
    generalize w5.alloc (.cells #[.int .i64 W, .int .i64 H, .slice (some ⟨w4.heap.size + 3, 0, none⟩) n n] 42) = w6 at *
    generalize w4.heap.size + 3 = bx at *
    generalize w5.heap.size = Bx at *
    refine (validView_impl W H _ 0 n n S _ (by omega) _ (fun _ => rfl) hL.2.1).mono ?_
    rintro e w7 ⟨rfl, k7⟩
    have hL7 := (hL.keep k7).keep (below_drewN (Below.refl _ _) 1)
    clear hL k7 hB0 hV0 hB4 hB5
    go_wp2_with fail
    go_region_held3 (fun w' => Below w.heap.size w w' ∧ FRow w' bx 0 n S ∧ (w'.cell? ⟨w.heap.size, 0, none⟩ = some (.int .i64 W) ∧ w'.cell? ⟨w.heap.size, 1, none⟩ = some (.int .i64 H) ∧ w'.cell? ⟨w.heap.size, 2, none⟩ = some (.slice ao n c)) ∧
        (w'.cell? ⟨Bx, 0, none⟩ = some (.int .i64 W) ∧ w'.cell? ⟨Bx, 1, none⟩ = some (.int .i64 H) ∧ w'.cell? ⟨Bx, 2, none⟩ = some (.slice (some ⟨bx, 0, none⟩) n n)))
      (first | exact hL7 | exact LV.keep (by assumption) (by assumption))
      (first
        | (go_at_call 26; refine (toView_any W H b off n c S _ (by omega) ao hao (hR.keep (And.left (by assumption)))).mono ?_; rintro e w8 ⟨rfl, r8, k8⟩)
        | (go_at_call 28; refine (eqView_self W H _ 0 n n _ 0 n S _ (by omega) _ _ (fun _ => rfl) (fun _ => rfl) (And.left (And.right (by assumption))) r8).mono ?_; rintro e w9 ⟨rfl, k9⟩))
    have hL9 : LV w w.heap.size Bx bx W H ao n c S w9 := by assumption
    have hB9 := hL9.1
    clear hL7 hL9 r8 k8 k9
    go_wp2
    go_ret
    exact ⟨rfl, hB9⟩
  · have h1' : 1048576 < (n : Int) := by omega
    go_enter Try.func6, Try.ntmps6
    go_wp2_with fail
    refine (szView_any W H ao n c _ (by omega) (by omega) hn _).mono ?_
    rintro e w2 ⟨rfl, k2⟩
    rw [leftOf_no h1']
    have hB2 := hB0.trans (k2.mono hB0.size)
    clear k2
    go_wp2
    go_ret
    exact ⟨rfl, hB2⟩
end Go.Proofs.Ythddnjhdonnojaa
