/- Views: validity and sameness, of the program and of the reference. -/
import Derived.Test.YthddnjhdonnojaaV
namespace Go.Proofs.Ythddnjhdonnojaa
open Go.RowKit
set_option linter.unusedVariables false
set_option linter.unusedSimpArgs false
attribute [local go_sem] run_store_float

set_option maxRecDepth 100000 in
theorem eqView_self (W H : Int) (b off n c b' off' c' : Nat) (S : Nat → Nat) (w : World) (hn : n ≤ 1048576) (ao ao' : Option Addr) (hao : 0 < n → ao = some ⟨b, off, none⟩) (hao' : 0 < n → ao' = some ⟨b', off', none⟩)
    (hR : FRow w b off n S) (hR' : FRow w b' off' n S) :
    Calls Try.prog 28 #[vw W H ao n c, vw W H ao' n c'] w (Ret (.bool true) w) := by
  have hB : Below w.heap.size w ((w.alloc (.cells #[.int .i64 W, .int .i64 H, .slice ao n c] 42)).alloc (.cells #[.int .i64 W, .int .i64 H, .slice ao' n c'] 42)) :=
    ((Below.refl _ _).alloc (Nat.le_refl _) _).alloc (by simp) _
  have hR1 := hR.keep hB
  have hR1' := hR'.keep hB
  go_enter Try.func28, Try.ntmps28
  go_wp2_with fail
  refine (eqFloats_self b off n c b' off' c' S _ hn ao ao' hao hao' hR1 hR1').mono ?_
  rintro e w1 ⟨rfl, q, rfl⟩
  go_wp2
  go_ret
  exact ⟨rfl, below_drewN hB _⟩

/-! ### All numbers are finite -/
def allFin (n : Nat) (S : Nat → Nat) : Bool := (List.range n).all fun k => Fl.fin .f32 (S k)

theorem allFin_all {n : Nat} {S : Nat → Nat} (h : ∀ j, j < n → Fl.fin .f32 (S j) = true) : allFin n S = true := by
  simp only [allFin, List.all_eq_true, List.mem_range]; exact h
theorem allFin_at {n : Nat} {S : Nat → Nat} {k : Nat} (hk : k < n) (h : Fl.fin .f32 (S k) = false) : allFin n S = false := by
  simp only [allFin, List.all_eq_false, List.mem_range]; exact ⟨k, hk, by simp [h]⟩
theorem upto_fin {S : Nat → Nat} {k : Nat} (h : ∀ j, j < k → Fl.fin .f32 (S j) = true) (hk : Fl.fin .f32 (S k) = true) : ∀ j, j < k + 1 → Fl.fin .f32 (S j) = true := by
  intro j hj
  by_cases e : j = k
  · rw [e]; exact hk
  · exact h j (by omega)

theorem notFinite_any (x : Nat) (w : World) : Calls Try.prog 107 #[.float .f32 x] w (Quiet (.bool (!Fl.fin .f32 x)) w) := by
  go_enter Try.func107, Try.ntmps107
  go_wp2_with (go_at_call 102; refine (isFinite_any _ _).mono ?_; rintro e w' ⟨rfl, n, rfl⟩)
  go_ret
  exact ⟨rfl, n, rfl⟩

/-- 'i' is the first number that is not finite, or -1. -/
def FirstBad (n : Nat) (S : Nat → Nat) (w : World) (e : Ending) (w' : World) : Prop := ∃ i : Int, e = .returned (.int .i64 i) ∧ (0 ≤ i ↔ allFin n S = false) ∧ Drew w w'

set_option maxRecDepth 100000 in
theorem indexBad_any (b off n c : Nat) (S : Nat → Nat) (w : World) (hn : n ≤ 1048576) (ao : Option Addr) (hao : 0 < n → ao = some ⟨b, off, none⟩) (hR : FRow w b off n S) :
    Calls Try.prog 119 #[.slice ao n c, .func (.func 107) #[] #[]] w (FirstBad n S w) := by
  go_enter Try.func119, Try.ntmps119
  go_wp2
  go_loopw [8] (fun i wr => ∃ k : Nat, k ≤ n ∧ i = .int .i64 k ∧ Drew w wr ∧ Hid (∀ j, j < k → Fl.fin .f32 (S j) = true)) (fun i _ => n - (intOf i).toNat)
  case atStart => exact ⟨0, Nat.zero_le _, rfl, Drew.refl _, fun j hj => by omega⟩
  case round =>
    obtain ⟨k, hk, rfl, hd, hall⟩ := hrel
    by_cases hlt : k < n
    · have ha := hao (by omega)
      subst ha
      have c0 := hR.drew hd k hlt
      clear hR
      cases hs : Fl.fin .f32 (S k)
      · have hf := Lib.hid (allFin_at hlt hs)
        go_wp2_with (go_at_call 107; refine (notFinite_any _ _).mono ?_; rintro e w' ⟨rfl, q, rfl⟩)
        go_ret
        exact ⟨k, rfl, by rw [hf.out]; simp, hd.add _⟩
      · have hf := Lib.hid (upto_fin hall.out hs)
        go_wp2_with (go_at_call 107; refine (notFinite_any _ _).mono ?_; rintro e w' ⟨rfl, q, rfl⟩)
        go_roundw
        case rel => exact ⟨k + 1, by omega, by go_num, hd.add _, hf⟩
        case measure => simp [intOf]; omega
    · have hkn : k = n := by omega
      subst hkn
      clear hR
      have hf := Lib.hid (allFin_all hall.out)
      go_wp2
      go_ret
      exact ⟨-1, rfl, by rw [hf.out]; simp, hd⟩

theorem containsBad_any (b off n c : Nat) (S : Nat → Nat) (w : World) (hn : n ≤ 1048576) (ao : Option Addr) (hao : 0 < n → ao = some ⟨b, off, none⟩) (hR : FRow w b off n S) :
    Calls Try.prog 106 #[.slice ao n c, .func (.func 107) #[] #[]] w (Quiet (.bool (!allFin n S)) w) := by
  go_enter Try.func106, Try.ntmps106
  go_wp2_with fail
  refine (indexBad_any b off n c S _ hn ao hao hR).mono ?_
  rintro e w1 ⟨i, rfl, hi, q, rfl⟩
  have hv : decide (0 ≤ i) = !allFin n S := by
    cases h : allFin n S
    · simp [hi.2 h]
    · simp; have := mt hi.1 (by simp [h]); omega
  have H := Lib.hid hv
  clear hv hi
  go_wp2
  go_ret
  exact ⟨by rw [← H.out]; rfl, q, rfl⟩

theorem areFinite_any (b off n c : Nat) (S : Nat → Nat) (w : World) (hn : n ≤ 1048576) (ao : Option Addr) (hao : 0 < n → ao = some ⟨b, off, none⟩) (hR : FRow w b off n S) :
    Calls Try.prog 71 #[.slice ao n c] w (Quiet (.bool (allFin n S)) w) := by
  go_enter Try.func71, Try.ntmps71
  go_wp2_with fail
  refine (containsBad_any b off n c S _ hn ao hao hR).mono ?_
  rintro e w1 ⟨rfl, q, rfl⟩
  go_wp2
  go_ret
  exact ⟨by simp, q, rfl⟩
end Go.Proofs.Ythddnjhdonnojaa
