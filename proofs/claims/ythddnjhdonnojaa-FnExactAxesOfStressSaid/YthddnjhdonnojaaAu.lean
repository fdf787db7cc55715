/- The program's angle. -/
import Derived.Test.YthddnjhdonnojaaAt
namespace Go.Proofs.Ythddnjhdonnojaa
open Go.RowKit
set_option linter.unusedVariables false
set_option linter.unusedSimpArgs false

/-- Two numbers in a row. -/
def two (x y : Nat) : Nat → Nat := fun i => if i = 0 then x else y

theorem FRow.two (w : World) (x y : Nat) (t : TypeId) : FRow (w.alloc (.cells #[.float .f32 x, .float .f32 y] t)) w.heap.size 0 2 (two x y) := by
  intro i hi
  have h : i = 0 ∨ i = 1 := by omega
  rcases h with rfl | rfl <;> simp [two] <;> rfl

theorem allFin_two (x y : Nat) : allFin 2 (two x y) = (Fl.fin .f32 x && Fl.fin .f32 y) := by
  simp [allFin, List.range, List.range.loop, two]

theorem z00s : FloatKind.f32.format.order 0 0 = some .eq := by decide

set_option maxRecDepth 100000 in
set_option maxHeartbeats 2000000 in
/-- A point that is not zero: the program's angle. -/
theorem angleTurns_core (y x a b : Nat) (zx zy ov : Bool) (t0 r : Nat) (hy : Fl.fin .f32 y = true) (hx : Fl.fin .f32 x = true)
    (ozx : (FloatKind.f32.format.order x 0 == some .eq) = zx) (ozy : (FloatKind.f32.format.order y 0 == some .eq) = zy)
    (hne : (zx && zy) = false) (ha : Fl.absB (Fl.wide y) = a) (hb : Fl.absB (Fl.wide x) = b) (pa : a < Ieee.double.infRung) (pb : b < Ieee.double.infRung) (hov : Fl.overB a b = ov)
    (hd1 : ov = true → FloatKind.f64.format.div b a = some t0) (hd2 : ov = false → FloatKind.f64.format.div a b = some t0) (ht : Fl.Sm t0 0)
    (hn : floatToFloatBits .f64 (Fl.ang3 ov (Fl.negB x) (Fl.negB y) t0) .f32 = some r) (w : World) :
    Calls Try.prog 117 #[.float .f32 y, .float .f32 x] w (Ret (.float .f32 r) w) := by
  have hB : Below w.heap.size w (w.alloc (.cells #[.float .f32 x, .float .f32 y] 22)) := (Below.refl _ _).alloc (Nat.le_refl _) _
  have hR := FRow.two w x y 22
  have hA := allFin_two x y
  rw [hx, hy] at hA
  have w1 := fun w => wideF (Fl.fin_not_nan hy) w
  have w2 := fun w => wideF (Fl.fin_not_nan hx) w
  have rmin := fun ts t w => Fl.run_min (P := Try.prog) w pa pb ts t
  have rmax := fun ts t w => Fl.run_max (P := Try.prog) w pa pb ts t
  rw [hov] at rmin rmax
  have HN := Lib.hid hn
  have HT := Lib.hid ht
  have nrw : ∀ {ov nx ny}, floatToFloatBits .f64 (Fl.ang3 ov (Fl.negB x) (Fl.negB y) t0) .f32 = some r → Fl.negB x = nx → Fl.negB y = ny → floatToFloatBits .f64 (Fl.ang3 ov nx ny t0) .f32 = some r := by
    intro ov nx ny h h1 h2; rw [← h1, ← h2]; exact h
  unfold Fl.overB at hov
  clear ht hn hy hx pa pb
  cases ov
  · have dv := fun t w => run_float_arith (P := Try.prog) w .quo t .f64 _ _ _ (hd2 rfl)
    clear hd1 hd2
    simp only [Bool.false_eq_true, if_false] at rmin rmax
    cases zx
    · go_enter Try.func117, Try.ntmps117
      go_wp2_with fail
      refine (areFinite_any w.heap.size 0 2 2 (two x y) _ (by omega) _ (fun _ => rfl) hR).mono ?_
      rintro e w1' ⟨rfl, q, rfl⟩
      rw [hA]
      clear hR hA
      go_wp2_with (first | (simp only [w1]) | (simp only [w2]) | (go_at_call 126; refine (abs_any _ _).mono ?_; rintro e w' ⟨rfl, q, rfl⟩; simp only [ha, hb]) | (simp only [rmin]) | (simp only [rmax]) | (simp only [dv]))
      clear w1 w2 dv rmin rmax
      go_loopw [40, 7] (fun i t wr => ∃ k : Nat, k ≤ 3 ∧ i = .int .i64 k ∧ t = .float .f64 (Fl.tN t0 k) ∧ Below w.heap.size w wr) (fun i _ _ => 3 - (intOf i).toNat)
      case atStart => exact ⟨0, Nat.zero_le _, rfl, rfl, below_drewN hB _⟩
      case round =>
        obtain ⟨k, hk, rfl, rfl, hd⟩ := hrel
        by_cases hlt : k < 3
        · obtain ⟨x1, x2, x3, x4, x5⟩ := half_of (Fl.tN_sm HT.out k)
          go_wp2_with (first | (simp only [x1]) | (simp only [x2]) | (go_at_call 113; refine (x3 _).mono ?_; rintro e w' ⟨rfl, q, rfl⟩) | (simp only [x4]) | (simp only [x5]))
          go_roundw
          case rel => exact ⟨k + 1, by omega, by go_num, rfl, below_drewN hd _⟩
          case measure => simp [intOf]; omega
        · have hk3 : k = 3 := by omega
          subst hk3
          obtain ⟨x1, x2, x3, x4, x5, x6⟩ := last_of HT.out false (Fl.negB x)
          simp only [Fl.ang1, Bool.false_eq_true, if_false, if_true] at x6
          go_wp2_with (first | (simp only [x1]))
          go_loopw [10, 9] (fun i t wr => ∃ k : Nat, k ≤ 8 ∧ i = .int .i64 (15 - 2 * (k : Int)) ∧ t = .float .f64 (Fl.pN (Fl.m64 (Fl.tN t0 3) (Fl.tN t0 3)) k) ∧ Below w.heap.size w wr) (fun i _ _ => (intOf i + 1).toNat)
          case atStart => exact ⟨0, Nat.zero_le _, rfl, rfl, hd⟩
          case round =>
            obtain ⟨k, hk, rfl, rfl, hd⟩ := hrel
            by_cases hlt : k < 8
            · obtain ⟨y1, y2, y3⟩ := term_of ⟨false, (Fl.sq_num (Fl.tN_sm HT.out 3)).2⟩ hlt
              go_wp2_with (first | (simp only [y1]) | (simp only [y2]) | (simp only [y3]))
              go_roundw
              case rel => exact ⟨k + 1, by omega, by go_num, rfl, hd⟩
              case measure => simp [intOf]; omega
            · have hk8 : k = 8 := by omega
              subst hk8
              cases onx : Fl.negB x <;> cases ony : Fl.negB y
              all_goals have nr := fun w => narrow_some (nrw HN.out onx ony) w
              all_goals simp only [Fl.ang3, Fl.ang2, Fl.ang1, Bool.false_eq_true, if_false, if_true] at nr
              all_goals unfold Fl.negB at onx ony
              all_goals go_wp2_with (first | (simp only [x2]) | (simp only [x3]) | (simp only [x4]) | (simp only [x5]) | (simp only [x6]) | (simp only [run_neg64]) | (simp only [nr]))
              all_goals go_ret
              all_goals exact ⟨rfl, hd⟩
    · cases zy
      · go_enter Try.func117, Try.ntmps117
        go_wp2_with fail
        refine (areFinite_any w.heap.size 0 2 2 (two x y) _ (by omega) _ (fun _ => rfl) hR).mono ?_
        rintro e w1' ⟨rfl, q, rfl⟩
        rw [hA]
        clear hR hA
        go_wp2_with (first | (simp only [w1]) | (simp only [w2]) | (go_at_call 126; refine (abs_any _ _).mono ?_; rintro e w' ⟨rfl, q, rfl⟩; simp only [ha, hb]) | (simp only [rmin]) | (simp only [rmax]) | (simp only [dv]))
        clear w1 w2 dv rmin rmax
        go_loopw [40, 7] (fun i t wr => ∃ k : Nat, k ≤ 3 ∧ i = .int .i64 k ∧ t = .float .f64 (Fl.tN t0 k) ∧ Below w.heap.size w wr) (fun i _ _ => 3 - (intOf i).toNat)
        case atStart => exact ⟨0, Nat.zero_le _, rfl, rfl, below_drewN hB _⟩
        case round =>
          obtain ⟨k, hk, rfl, rfl, hd⟩ := hrel
          by_cases hlt : k < 3
          · obtain ⟨x1, x2, x3, x4, x5⟩ := half_of (Fl.tN_sm HT.out k)
            go_wp2_with (first | (simp only [x1]) | (simp only [x2]) | (go_at_call 113; refine (x3 _).mono ?_; rintro e w' ⟨rfl, q, rfl⟩) | (simp only [x4]) | (simp only [x5]))
            go_roundw
            case rel => exact ⟨k + 1, by omega, by go_num, rfl, below_drewN hd _⟩
            case measure => simp [intOf]; omega
          · have hk3 : k = 3 := by omega
            subst hk3
            obtain ⟨x1, x2, x3, x4, x5, x6⟩ := last_of HT.out false (Fl.negB x)
            simp only [Fl.ang1, Bool.false_eq_true, if_false, if_true] at x6
            go_wp2_with (first | (simp only [x1]))
            go_loopw [10, 9] (fun i t wr => ∃ k : Nat, k ≤ 8 ∧ i = .int .i64 (15 - 2 * (k : Int)) ∧ t = .float .f64 (Fl.pN (Fl.m64 (Fl.tN t0 3) (Fl.tN t0 3)) k) ∧ Below w.heap.size w wr) (fun i _ _ => (intOf i + 1).toNat)
            case atStart => exact ⟨0, Nat.zero_le _, rfl, rfl, hd⟩
            case round =>
              obtain ⟨k, hk, rfl, rfl, hd⟩ := hrel
              by_cases hlt : k < 8
              · obtain ⟨y1, y2, y3⟩ := term_of ⟨false, (Fl.sq_num (Fl.tN_sm HT.out 3)).2⟩ hlt
                go_wp2_with (first | (simp only [y1]) | (simp only [y2]) | (simp only [y3]))
                go_roundw
                case rel => exact ⟨k + 1, by omega, by go_num, rfl, hd⟩
                case measure => simp [intOf]; omega
              · have hk8 : k = 8 := by omega
                subst hk8
                cases onx : Fl.negB x <;> cases ony : Fl.negB y
                all_goals have nr := fun w => narrow_some (nrw HN.out onx ony) w
                all_goals simp only [Fl.ang3, Fl.ang2, Fl.ang1, Bool.false_eq_true, if_false, if_true] at nr
                all_goals unfold Fl.negB at onx ony
                all_goals go_wp2_with (first | (simp only [x2]) | (simp only [x3]) | (simp only [x4]) | (simp only [x5]) | (simp only [x6]) | (simp only [run_neg64]) | (simp only [nr]))
                all_goals go_ret
                all_goals exact ⟨rfl, hd⟩
      · cases hne
  · have dv := fun t w => run_float_arith (P := Try.prog) w .quo t .f64 _ _ _ (hd1 rfl)
    clear hd1 hd2
    simp only [if_true] at rmin rmax
    cases zx
    · go_enter Try.func117, Try.ntmps117
      go_wp2_with fail
      refine (areFinite_any w.heap.size 0 2 2 (two x y) _ (by omega) _ (fun _ => rfl) hR).mono ?_
      rintro e w1' ⟨rfl, q, rfl⟩
      rw [hA]
      clear hR hA
      go_wp2_with (first | (simp only [w1]) | (simp only [w2]) | (go_at_call 126; refine (abs_any _ _).mono ?_; rintro e w' ⟨rfl, q, rfl⟩; simp only [ha, hb]) | (simp only [rmin]) | (simp only [rmax]) | (simp only [dv]))
      clear w1 w2 dv rmin rmax
      go_loopw [40, 7] (fun i t wr => ∃ k : Nat, k ≤ 3 ∧ i = .int .i64 k ∧ t = .float .f64 (Fl.tN t0 k) ∧ Below w.heap.size w wr) (fun i _ _ => 3 - (intOf i).toNat)
      case atStart => exact ⟨0, Nat.zero_le _, rfl, rfl, below_drewN hB _⟩
      case round =>
        obtain ⟨k, hk, rfl, rfl, hd⟩ := hrel
        by_cases hlt : k < 3
        · obtain ⟨x1, x2, x3, x4, x5⟩ := half_of (Fl.tN_sm HT.out k)
          go_wp2_with (first | (simp only [x1]) | (simp only [x2]) | (go_at_call 113; refine (x3 _).mono ?_; rintro e w' ⟨rfl, q, rfl⟩) | (simp only [x4]) | (simp only [x5]))
          go_roundw
          case rel => exact ⟨k + 1, by omega, by go_num, rfl, below_drewN hd _⟩
          case measure => simp [intOf]; omega
        · have hk3 : k = 3 := by omega
          subst hk3
          obtain ⟨x1, x2, x3, x4, x5, x6⟩ := last_of HT.out true (Fl.negB x)
          simp only [Fl.ang1, Bool.false_eq_true, if_false, if_true] at x6
          go_wp2_with (first | (simp only [x1]))
          go_loopw [10, 9] (fun i t wr => ∃ k : Nat, k ≤ 8 ∧ i = .int .i64 (15 - 2 * (k : Int)) ∧ t = .float .f64 (Fl.pN (Fl.m64 (Fl.tN t0 3) (Fl.tN t0 3)) k) ∧ Below w.heap.size w wr) (fun i _ _ => (intOf i + 1).toNat)
          case atStart => exact ⟨0, Nat.zero_le _, rfl, rfl, hd⟩
          case round =>
            obtain ⟨k, hk, rfl, rfl, hd⟩ := hrel
            by_cases hlt : k < 8
            · obtain ⟨y1, y2, y3⟩ := term_of ⟨false, (Fl.sq_num (Fl.tN_sm HT.out 3)).2⟩ hlt
              go_wp2_with (first | (simp only [y1]) | (simp only [y2]) | (simp only [y3]))
              go_roundw
              case rel => exact ⟨k + 1, by omega, by go_num, rfl, hd⟩
              case measure => simp [intOf]; omega
            · have hk8 : k = 8 := by omega
              subst hk8
              cases onx : Fl.negB x <;> cases ony : Fl.negB y
              all_goals have nr := fun w => narrow_some (nrw HN.out onx ony) w
              all_goals simp only [Fl.ang3, Fl.ang2, Fl.ang1, Bool.false_eq_true, if_false, if_true] at nr
              all_goals unfold Fl.negB at onx ony
              all_goals go_wp2_with (first | (simp only [x2]) | (simp only [x3]) | (simp only [x4]) | (simp only [x5]) | (simp only [x6]) | (simp only [run_neg64]) | (simp only [nr]))
              all_goals go_ret
              all_goals exact ⟨rfl, hd⟩
    · cases zy
      · go_enter Try.func117, Try.ntmps117
        go_wp2_with fail
        refine (areFinite_any w.heap.size 0 2 2 (two x y) _ (by omega) _ (fun _ => rfl) hR).mono ?_
        rintro e w1' ⟨rfl, q, rfl⟩
        rw [hA]
        clear hR hA
        go_wp2_with (first | (simp only [w1]) | (simp only [w2]) | (go_at_call 126; refine (abs_any _ _).mono ?_; rintro e w' ⟨rfl, q, rfl⟩; simp only [ha, hb]) | (simp only [rmin]) | (simp only [rmax]) | (simp only [dv]))
        clear w1 w2 dv rmin rmax
        go_loopw [40, 7] (fun i t wr => ∃ k : Nat, k ≤ 3 ∧ i = .int .i64 k ∧ t = .float .f64 (Fl.tN t0 k) ∧ Below w.heap.size w wr) (fun i _ _ => 3 - (intOf i).toNat)
        case atStart => exact ⟨0, Nat.zero_le _, rfl, rfl, below_drewN hB _⟩
        case round =>
          obtain ⟨k, hk, rfl, rfl, hd⟩ := hrel
          by_cases hlt : k < 3
          · obtain ⟨x1, x2, x3, x4, x5⟩ := half_of (Fl.tN_sm HT.out k)
            go_wp2_with (first | (simp only [x1]) | (simp only [x2]) | (go_at_call 113; refine (x3 _).mono ?_; rintro e w' ⟨rfl, q, rfl⟩) | (simp only [x4]) | (simp only [x5]))
            go_roundw
            case rel => exact ⟨k + 1, by omega, by go_num, rfl, below_drewN hd _⟩
            case measure => simp [intOf]; omega
          · have hk3 : k = 3 := by omega
            subst hk3
            obtain ⟨x1, x2, x3, x4, x5, x6⟩ := last_of HT.out true (Fl.negB x)
            simp only [Fl.ang1, Bool.false_eq_true, if_false, if_true] at x6
            go_wp2_with (first | (simp only [x1]))
            go_loopw [10, 9] (fun i t wr => ∃ k : Nat, k ≤ 8 ∧ i = .int .i64 (15 - 2 * (k : Int)) ∧ t = .float .f64 (Fl.pN (Fl.m64 (Fl.tN t0 3) (Fl.tN t0 3)) k) ∧ Below w.heap.size w wr) (fun i _ _ => (intOf i + 1).toNat)
            case atStart => exact ⟨0, Nat.zero_le _, rfl, rfl, hd⟩
            case round =>
              obtain ⟨k, hk, rfl, rfl, hd⟩ := hrel
              by_cases hlt : k < 8
              · obtain ⟨y1, y2, y3⟩ := term_of ⟨false, (Fl.sq_num (Fl.tN_sm HT.out 3)).2⟩ hlt
                go_wp2_with (first | (simp only [y1]) | (simp only [y2]) | (simp only [y3]))
                go_roundw
                case rel => exact ⟨k + 1, by omega, by go_num, rfl, hd⟩
                case measure => simp [intOf]; omega
              · have hk8 : k = 8 := by omega
                subst hk8
                cases onx : Fl.negB x <;> cases ony : Fl.negB y
                all_goals have nr := fun w => narrow_some (nrw HN.out onx ony) w
                all_goals simp only [Fl.ang3, Fl.ang2, Fl.ang1, Bool.false_eq_true, if_false, if_true] at nr
                all_goals unfold Fl.negB at onx ony
                all_goals go_wp2_with (first | (simp only [x2]) | (simp only [x3]) | (simp only [x4]) | (simp only [x5]) | (simp only [x6]) | (simp only [run_neg64]) | (simp only [nr]))
                all_goals go_ret
                all_goals exact ⟨rfl, hd⟩
      · cases hne
end Go.Proofs.Ythddnjhdonnojaa
