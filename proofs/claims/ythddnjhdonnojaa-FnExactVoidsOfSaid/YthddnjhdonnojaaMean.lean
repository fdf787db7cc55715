/- Views: the mean, of the program and of the reference. -/
import Derived.Test.YthddnjhdonnojaaX
import Derived.Test.YthddnjhdonnojaaFl2
namespace Go.Proofs.Ythddnjhdonnojaa
open Go.RowKit
set_option linter.unusedVariables false
set_option linter.unusedSimpArgs false
attribute [local go_sem] run_store_float

theorem viewB_bounds {W H : Int} {n : Nat} {S : Nat → Nat} (h : viewB W H n S = true) : n ≠ 0 ∧ n ≤ 256 ∧ (n : Int) = W * H ∧ 1 ≤ W ∧ W ≤ 16 ∧ 1 ≤ H ∧ H ≤ 16 ∧ ∀ j, j < n → Fl.fin .f32 (S j) = true := by
  simp only [viewB, inB, Bool.and_eq_true, decide_eq_true_eq, beq_iff_eq] at h
  obtain ⟨⟨⟨⟨a1, a2⟩, b1, b2⟩, hn⟩, hf⟩ := h
  have p1 : 1 * 1 ≤ W * H := Int.mul_le_mul a1 b1 (by omega) (by omega)
  have p2 : W * H ≤ 16 * 16 := Int.mul_le_mul a2 b2 (by omega) (by omega)
  have hw : wrap64 (W * H) = W * H := IntWalk.wrap64_in _ ⟨by omega, by omega⟩
  rw [hw] at hn
  refine ⟨by omega, by omega, hn, a1, a2, b1, b2, ?_⟩
  simpa only [allFin, List.all_eq_true, List.mem_range] using hf

theorem viewB_fin {W H : Int} {n : Nat} {S : Nat → Nat} (h : viewB W H n S = true) : n ≠ 0 ∧ n ≤ 256 ∧ ∀ j, j < n → Fl.fin .f32 (S j) = true :=
  ⟨(viewB_bounds h).1, (viewB_bounds h).2.1, (viewB_bounds h).2.2.2.2.2.2.2⟩

set_option maxRecDepth 100000 in
theorem sumNumbers_any (b off n c : Nat) (S : Nat → Nat) (w : World) (hn : n ≤ 256) (ao : Option Addr) (hao : 0 < n → ao = some ⟨b, off, none⟩) (hR : FRow w b off n S) (hS : ∀ j, j < n → Fl.fin .f32 (S j) = true) :
    Calls Try.prog 84 #[.slice ao n c] w (Quiet (.tuple #[.float .f32 (Fl.sumF S n), .bool true]) w) := by
  have HS := Lib.hid hS
  clear hS
  have hd0 : decide ((n : Int) ≤ 256) = true := by simp; omega
  go_enter Try.func84, Try.ntmps84
  go_wp2_with (go_at_call 108; refine (areNumbers_any _ _ _ _).mono ?_; rintro e w' ⟨rfl, q, rfl⟩)
  go_loopw [4, 12] (fun s i wr => ∃ k : Nat, k ≤ n ∧ i = .int .i64 k ∧ s = .float .f32 (Fl.sumF S k) ∧ Drew w wr) (fun _ i _ => n - (intOf i).toNat)
  case atStart => exact ⟨0, Nat.zero_le _, rfl, rfl, ⟨_, rfl⟩⟩
  case round =>
    obtain ⟨k, hk, rfl, rfl, hd⟩ := hrel
    by_cases hlt : k < n
    · have ha := hao (by omega)
      subst ha
      have c0 := hR.drew hd k hlt
      have hop := fun t w => run_float_arith (P := Try.prog) w .add t .f32 _ _ _ (Fl.sumF_step HS.out hlt)
      clear hR
      go_wp2_with (simp only [hop])
      go_roundw
      case rel => exact ⟨k + 1, by omega, by go_num, rfl, hd⟩
      case measure => simp [intOf]; omega
    · have hkn : k = n := by omega
      subst hkn
      clear hR
      go_wp2
      go_ret2
      exact ⟨rfl, hd⟩

/-- The mean of a view, and whether there is one. -/
def meanV (W H : Int) (n : Nat) (S : Nat → Nat) : Nat := if viewB W H n S && Fl.fin .f32 (Fl.meanF S n) then Fl.meanF S n else 0
def meanOk (W H : Int) (n : Nat) (S : Nat → Nat) : Bool := viewB W H n S && Fl.fin .f32 (Fl.meanF S n)

set_option maxRecDepth 100000 in
theorem meanOfView_impl (W H : Int) (b off n c : Nat) (S : Nat → Nat) (w : World) (hn : n ≤ 1048576) (ao : Option Addr) (hao : 0 < n → ao = some ⟨b, off, none⟩) (hR : FRow w b off n S) :
    Calls Try.prog 42 #[vw W H ao n c] w (Ret (.tuple #[.float .f32 (meanV W H n S), .bool (meanOk W H n S)]) w) := by
  have hB : Below w.heap.size w (w.alloc (.cells #[.int .i64 W, .int .i64 H, .slice ao n c] 42)) := (Below.refl _ _).alloc (Nat.le_refl _) _
  have hV0 := VCell.new w W H ao n c 42
  have hR1 := hR.keep hB
  cases hv : viewB W H n S
  · go_enter Try.func42, Try.ntmps42
    go_wp2_with fail
    refine (validView_impl W H b off n c S _ hn ao hao hR1).mono ?_
    rintro e w1 ⟨rfl, k1⟩
    rw [hv]
    have hB1 := hB.trans (k1.mono hB.size)
    clear k1
    go_wp2
    go_ret2
    exact ⟨by simp [meanV, meanOk, hv], hB1⟩
  · obtain ⟨n0, n256, hfin⟩ := viewB_fin hv
    have hdiv := fun t w => run_float_arith (P := Try.prog) w .quo t .f32 _ _ _ (Fl.meanF_div hfin n0 n256)
    have HF := Lib.hid hfin
    clear hfin
    go_enter Try.func42, Try.ntmps42
    go_wp2_with fail
    refine (validView_impl W H b off n c S _ hn ao hao hR1).mono ?_
    rintro e w1 ⟨rfl, k1⟩
    rw [hv]
    have hB1 := hB.trans (k1.mono hB.size)
    have hR2 := hR1.keep k1
    obtain ⟨u0, u1, u2⟩ := hV0.keep k1
    clear k1 hR hR1 hV0 hB
    go_wp2_with fail
    refine (sumNumbers_any b off n c S _ n256 ao hao hR2 HF.out).mono ?_
    rintro e w2 ⟨rfl, q, rfl⟩
    go_wp2_with (first | (simp only [hdiv]) | (go_at_call 85; refine (number_any _ _ _).mono ?_; rintro e w3 ⟨rfl, q3, rfl⟩))
    all_goals go_ret2
    all_goals exact ⟨by simp [meanV, meanOk, hv, *], below_drewN hB1 _⟩

set_option maxRecDepth 100000 in
theorem meanOfView_spec (W H : Int) (b off n c : Nat) (S : Nat → Nat) (w : World) (hn : n ≤ 1048576) (ao : Option Addr) (hao : 0 < n → ao = some ⟨b, off, none⟩) (hR : FRow w b off n S) :
    Calls Try.prog 41 #[vw W H ao n c] w (Ret (.tuple #[.float .f32 (meanV W H n S), .bool (meanOk W H n S)]) w) := by
  have hB : Below w.heap.size w (w.alloc (.cells #[.int .i64 W, .int .i64 H, .slice ao n c] 42)) := (Below.refl _ _).alloc (Nat.le_refl _) _
  have hV0 := VCell.new w W H ao n c 42
  have hR1 := hR.keep hB
  cases hv : viewB W H n S
  · go_enter Try.func41, Try.ntmps41
    go_wp2_with fail
    refine (l06View_any _ W H b off n c S _ hn ao hao hR1 hV0).mono ?_
    rintro e w1 ⟨rfl, q, rfl⟩
    rw [hv]
    go_wp2
    go_ret2
    exact ⟨by simp [meanV, meanOk, hv], below_drewN hB _⟩
  · obtain ⟨n0, n256, hfin⟩ := viewB_fin hv
    have hdiv := fun t w => run_float_arith (P := Try.prog) w .quo t .f32 _ _ _ (Fl.meanF_div hfin n0 n256)
    have HF := Lib.hid hfin
    clear hfin
    go_enter Try.func41, Try.ntmps41
    go_wp2_with fail
    generalize w.alloc (.cells #[.int .i64 W, .int .i64 H, .slice ao n c] 42) = w0 at *
    refine (l06View_any _ W H b off n c S _ hn ao hao hR1 hV0).mono ?_
    rintro e w1 ⟨rfl, q, rfl⟩
    rw [hv]
    go_wp2
    go_loopw [4, 5] (fun s i wr => ∃ k : Nat, k ≤ n ∧ i = .int .i64 k ∧ s = .float .f32 (Fl.sumF S k) ∧ Drew w0 wr) (fun _ i _ => n - (intOf i).toNat)
    case atStart => exact ⟨0, Nat.zero_le _, rfl, rfl, ⟨_, rfl⟩⟩
    case round =>
      obtain ⟨k, hk, rfl, rfl, hd⟩ := hrel
      obtain ⟨u0, u1, u2⟩ := hV0.drew hd
      by_cases hlt : k < n
      · have ha := hao (by omega)
        subst ha
        have c0 := hR1.drew hd k hlt
        have hop := fun t w => run_float_arith (P := Try.prog) w .add t .f32 _ _ _ (Fl.sumF_step HF.out hlt)
        clear hR hR1 hV0 hdiv
        go_wp2_with (simp only [hop])
        go_roundw
        case rel => exact ⟨k + 1, by omega, by go_num, rfl, hd⟩
        case measure => simp [intOf]; omega
      · have hkn : k = n := by omega
        subst hkn
        obtain ⟨q2, rfl⟩ := hd
        clear hR hR1 hV0
        go_wp2_with (first | (simp only [hdiv]) | (go_at_call 83; refine (l02Number_any _ _).mono ?_; rintro e w3 ⟨rfl, q3, rfl⟩))
        all_goals go_ret2
        all_goals exact ⟨by simp [meanV, meanOk, hv, *], below_drewN hB _⟩
end Go.Proofs.Ythddnjhdonnojaa
