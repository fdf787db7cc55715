/- The contracts of the functions of angles. -/
import Derived.Test.YthddnjhdonnojaaAq
namespace Go.Proofs.Ythddnjhdonnojaa
open Go.RowKit
set_option linter.unusedVariables false
set_option linter.unusedSimpArgs false

theorem z00d : FloatKind.f64.format.order 0 0 = some .eq := by decide

theorem fin_wide {x : Nat} (h : Fl.fin .f32 x = true) : Fl.fin .f64 (Fl.wide x) = true := by
  obtain ⟨s, m, e, r, hx, hw, hlt, hz⟩ := Fl.wide_word h
  have hr := Fl.read_num Ieee.double s r hlt
  rw [← hw] at hr
  have hr' : FloatKind.f64.decode (Fl.wide x) = _ := hr
  simp [Fl.fin, hr']

theorem run_neg64 (x : Nat) (w : World) : (Op.unary .neg (.float .f64 x)).run Try.prog w = .ok (.float .f64 (Op.negFloat .f64 x)) w := rfl

/-- What a walk wants of a round of the first loop. -/
structure Half (t : Nat) : Prop where
  m : ∀ ty w, (binOp .mul ty (.float .f64 t) (.float .f64 t)).run Try.prog w = .ok (.float .f64 (Fl.m64 t t)) w
  a : ∀ ty w, (binOp .add ty (.float .f64 4607182418800017408) (.float .f64 (Fl.m64 t t))).run Try.prog w = .ok (.float .f64 (Fl.a64 Fl.one (Fl.m64 t t))) w
  s : ∀ w, Calls Try.prog 113 #[.float .f64 (Fl.a64 Fl.one (Fl.m64 t t))] w (Quiet (.float .f64 (Fl.r64 (Fl.a64 Fl.one (Fl.m64 t t)))) w)
  b : ∀ ty w, (binOp .add ty (.float .f64 4607182418800017408) (.float .f64 (Fl.r64 (Fl.a64 Fl.one (Fl.m64 t t))))).run Try.prog w = .ok (.float .f64 (Fl.a64 Fl.one (Fl.r64 (Fl.a64 Fl.one (Fl.m64 t t))))) w
  d : ∀ ty w, (binOp .quo ty (.float .f64 t) (.float .f64 (Fl.a64 Fl.one (Fl.r64 (Fl.a64 Fl.one (Fl.m64 t t)))))).run Try.prog w = .ok (.float .f64 (Fl.tS t)) w
theorem half_of {t : Nat} (h : Fl.Sm t 0) : Half t := by
  obtain ⟨h1, h2, h3, h4, h5, _⟩ := Fl.tS_ok h
  exact ⟨fun ty w => run_float_arith w .mul ty .f64 _ _ _ h1, fun ty w => run_float_arith w .add ty .f64 _ _ _ h2, fun w => sqrt_any _ _ h3 w, fun ty w => run_float_arith w .add ty .f64 _ _ _ h4, fun ty w => run_float_arith w .quo ty .f64 _ _ _ h5⟩

/-- What a walk wants of a round of the second loop. -/
structure Term (u p k : Nat) : Prop where
  d : ∀ ty w, (binOp .quo ty (.float .f64 4607182418800017408) (.float .f64 (floatOfInt .f64 (15 - 2 * (k : Int))))).run Try.prog w = .ok (.float .f64 (Fl.d64 Fl.one (Fl.kth k))) w
  m : ∀ ty w, (binOp .mul ty (.float .f64 u) (.float .f64 p)).run Try.prog w = .ok (.float .f64 (Fl.m64 u p)) w
  s : ∀ ty w, (binOp .sub ty (.float .f64 (Fl.d64 Fl.one (Fl.kth k))) (.float .f64 (Fl.m64 u p))).run Try.prog w = .ok (.float .f64 (Fl.s64 (Fl.d64 Fl.one (Fl.kth k)) (Fl.m64 u p))) w
theorem term_of {u k : Nat} (hu : Fl.Sm u 0) (hk : k < 8) : Term u (Fl.pN u k) k := by
  obtain ⟨h1, h2, h3⟩ := (Fl.pN_ok hu k (by omega)).2 hk
  exact ⟨fun ty w => run_float_arith w .quo ty .f64 _ _ _ h1, fun ty w => run_float_arith w .mul ty .f64 _ _ _ h2, fun ty w => run_float_arith w .sub ty .f64 _ _ _ h3⟩

/-- What a walk wants behind the loops. -/
structure Last (ov nx : Bool) (t0 : Nat) : Prop where
  u : ∀ ty w, (binOp .mul ty (.float .f64 (Fl.tN t0 3)) (.float .f64 (Fl.tN t0 3))).run Try.prog w = .ok (.float .f64 (Fl.m64 (Fl.tN t0 3) (Fl.tN t0 3))) w
  m : ∀ ty w, (binOp .mul ty (.float .f64 (Fl.tN t0 3)) (.float .f64 (Fl.pN (Fl.m64 (Fl.tN t0 3) (Fl.tN t0 3)) 8))).run Try.prog w = .ok (.float .f64 (Fl.m64 (Fl.tN t0 3) (Fl.pN (Fl.m64 (Fl.tN t0 3) (Fl.tN t0 3)) 8))) w
  e : ∀ ty w, (binOp .mul ty (.float .f64 4620693217682128896) (.float .f64 (Fl.m64 (Fl.tN t0 3) (Fl.pN (Fl.m64 (Fl.tN t0 3) (Fl.tN t0 3)) 8)))).run Try.prog w = .ok (.float .f64 (Fl.m64 Fl.eight (Fl.m64 (Fl.tN t0 3) (Fl.pN (Fl.m64 (Fl.tN t0 3) (Fl.tN t0 3)) 8)))) w
  d : ∀ ty w, (binOp .quo ty (.float .f64 (Fl.m64 Fl.eight (Fl.m64 (Fl.tN t0 3) (Fl.pN (Fl.m64 (Fl.tN t0 3) (Fl.tN t0 3)) 8)))) (.float .f64 4618760256179416344)).run Try.prog w = .ok (.float .f64 (Fl.ang0 t0)) w
  q : ∀ ty w, (binOp .sub ty (.float .f64 4598175219545276416) (.float .f64 (Fl.ang0 t0))).run Try.prog w = .ok (.float .f64 (Fl.s64 Fl.quarter (Fl.ang0 t0))) w
  h : ∀ ty w, (binOp .sub ty (.float .f64 4602678819172646912) (.float .f64 (if ov = true then Fl.s64 Fl.quarter (Fl.ang0 t0) else Fl.ang0 t0))).run Try.prog w = .ok (.float .f64 (Fl.s64 Fl.half64 (Fl.ang1 ov t0))) w
theorem last_of {t0 : Nat} (h : Fl.Sm t0 0) (ov nx : Bool) : Last ov nx t0 := by
  obtain ⟨h1, h2, h3, _⟩ := Fl.ang0_ok h
  have h4 := (Fl.ang1_ok h ov).1
  have h5 := (Fl.ang2_ok h ov nx).1
  have h0 := (Fl.sq_num (Fl.tN_sm h 3)).1
  exact ⟨fun ty w => run_float_arith w .mul ty .f64 _ _ _ h0, fun ty w => run_float_arith w .mul ty .f64 _ _ _ h1, fun ty w => run_float_arith w .mul ty .f64 _ _ _ h2, fun ty w => run_float_arith w .quo ty .f64 _ _ _ h3, fun ty w => run_float_arith w .sub ty .f64 _ _ _ h4, fun ty w => run_float_arith w .sub ty .f64 _ _ _ h5⟩

set_option maxRecDepth 100000 in
theorem l01AngleWide_core (Y X a b : Nat) (zx zy nx ny ov : Bool) (t0 : Nat) (hfY : Fl.fin .f64 Y = true) (hfX : Fl.fin .f64 X = true)
    (ozx : (FloatKind.f64.format.order X 0 == some .eq) = zx) (ozy : (FloatKind.f64.format.order Y 0 == some .eq) = zy) (onx : (FloatKind.f64.format.order X 0 == some .lt) = nx) (ony : (FloatKind.f64.format.order Y 0 == some .lt) = ny)
    (hne : (zx && zy) = false) (ha : Fl.absB Y = a) (hb : Fl.absB X = b) (hov : (FloatKind.f64.format.order a b == some .gt) = ov)
    (hd1 : ov = true → FloatKind.f64.format.div b a = some t0) (hd2 : ov = false → FloatKind.f64.format.div a b = some t0) (ht : Fl.Sm t0 0) (w : World) :
    Calls Try.prog 115 #[.float .f64 Y, .float .f64 X] w (Quiet (.float .f64 (Fl.ang3 ov nx ny t0)) w) := by
  have sY := fun t w => Fl.run_sub_self (P := Try.prog) w hfY t
  have sX := fun t w => Fl.run_sub_self (P := Try.prog) w hfX t
  cases ov
  · have dv := fun t w => run_float_arith (P := Try.prog) w .quo t .f64 _ _ _ (hd2 rfl)
    clear hd1 hd2 hfY hfX
    have HT := Lib.hid ht
    clear ht
    cases zx
    · skip
      go_enter Try.func115, Try.ntmps115
      go_wp2_with (first | (simp only [sY]) | (simp only [sX]) | (go_at_call 126; refine (abs_any _ _).mono ?_; rintro e w' ⟨rfl, q, rfl⟩; simp only [ha, hb]) | (simp only [dv]))
      clear sY sX dv
      go_loopw [9, 8] (fun i t wr => ∃ k : Nat, k ≤ 3 ∧ i = .int .i64 k ∧ t = .float .f64 (Fl.tN t0 k) ∧ Drew w wr) (fun i _ _ => 3 - (intOf i).toNat)
      case atStart => exact ⟨0, Nat.zero_le _, rfl, rfl, _, rfl⟩
      case round =>
        obtain ⟨k, hk, rfl, rfl, hd⟩ := hrel
        by_cases hlt : k < 3
        · obtain ⟨x1, x2, x3, x4, x5⟩ := half_of (Fl.tN_sm HT.out k)
          go_wp2_with (first | (simp only [x1]) | (simp only [x2]) | (go_at_call 113; refine (x3 _).mono ?_; rintro e w' ⟨rfl, q, rfl⟩) | (simp only [x4]) | (simp only [x5]))
          go_roundw
          case rel => exact ⟨k + 1, by omega, by go_num, rfl, hd.add _⟩
          case measure => simp [intOf]; omega
        · have hk3 : k = 3 := by omega
          subst hk3
          obtain ⟨x1, x2, x3, x4, x5, x6⟩ := last_of HT.out false nx
          simp only [Bool.false_eq_true, if_false, if_true] at x6
          go_wp2_with (first | (simp only [x1]))
          go_loopw [12, 11] (fun i t wr => ∃ k : Nat, k ≤ 8 ∧ i = .int .i64 (15 - 2 * (k : Int)) ∧ t = .float .f64 (Fl.pN (Fl.m64 (Fl.tN t0 3) (Fl.tN t0 3)) k) ∧ Drew w wr) (fun i _ _ => (intOf i + 1).toNat)
          case atStart => exact ⟨0, Nat.zero_le _, rfl, rfl, hd⟩
          case round =>
            obtain ⟨k, hk, rfl, rfl, hd⟩ := hrel
            by_cases hlt : k < 8
            · obtain ⟨y1, y2, y3⟩ := term_of ⟨false, (Fl.sq_num (Fl.tN_sm HT.out 3)).2⟩ hlt
              go_wp2_with (first | (simp only [y1]) | (simp only [y2]) | (simp only [y3]))
              go_roundw
              case rel => exact ⟨k + 1, by omega, by go_num, rfl, hd⟩
              case measure => simp [intOf]; omega
            · have hk8 : k = 8 := by omega
              subst hk8
              go_wp2_with (first | (simp only [x2]) | (simp only [x3]) | (simp only [x4]) | (simp only [x5]) | (simp only [x6]) | (simp only [run_neg64]))
              all_goals go_ret
              all_goals exact ⟨by simp [Fl.ang3, Fl.ang2, Fl.ang1, *], hd⟩
    · cases zy
      · skip
        go_enter Try.func115, Try.ntmps115
        go_wp2_with (first | (simp only [sY]) | (simp only [sX]) | (go_at_call 126; refine (abs_any _ _).mono ?_; rintro e w' ⟨rfl, q, rfl⟩; simp only [ha, hb]) | (simp only [dv]))
        clear sY sX dv
        go_loopw [9, 8] (fun i t wr => ∃ k : Nat, k ≤ 3 ∧ i = .int .i64 k ∧ t = .float .f64 (Fl.tN t0 k) ∧ Drew w wr) (fun i _ _ => 3 - (intOf i).toNat)
        case atStart => exact ⟨0, Nat.zero_le _, rfl, rfl, _, rfl⟩
        case round =>
          obtain ⟨k, hk, rfl, rfl, hd⟩ := hrel
          by_cases hlt : k < 3
          · obtain ⟨x1, x2, x3, x4, x5⟩ := half_of (Fl.tN_sm HT.out k)
            go_wp2_with (first | (simp only [x1]) | (simp only [x2]) | (go_at_call 113; refine (x3 _).mono ?_; rintro e w' ⟨rfl, q, rfl⟩) | (simp only [x4]) | (simp only [x5]))
            go_roundw
            case rel => exact ⟨k + 1, by omega, by go_num, rfl, hd.add _⟩
            case measure => simp [intOf]; omega
          · have hk3 : k = 3 := by omega
            subst hk3
            obtain ⟨x1, x2, x3, x4, x5, x6⟩ := last_of HT.out false nx
            simp only [Bool.false_eq_true, if_false, if_true] at x6
            go_wp2_with (first | (simp only [x1]))
            go_loopw [12, 11] (fun i t wr => ∃ k : Nat, k ≤ 8 ∧ i = .int .i64 (15 - 2 * (k : Int)) ∧ t = .float .f64 (Fl.pN (Fl.m64 (Fl.tN t0 3) (Fl.tN t0 3)) k) ∧ Drew w wr) (fun i _ _ => (intOf i + 1).toNat)
            case atStart => exact ⟨0, Nat.zero_le _, rfl, rfl, hd⟩
            case round =>
              obtain ⟨k, hk, rfl, rfl, hd⟩ := hrel
              by_cases hlt : k < 8
              · obtain ⟨y1, y2, y3⟩ := term_of ⟨false, (Fl.sq_num (Fl.tN_sm HT.out 3)).2⟩ hlt
                go_wp2_with (first | (simp only [y1]) | (simp only [y2]) | (simp only [y3]))
                go_roundw
                case rel => exact ⟨k + 1, by omega, by go_num, rfl, hd⟩
                case measure => simp [intOf]; omega
              · have hk8 : k = 8 := by omega
                subst hk8
                go_wp2_with (first | (simp only [x2]) | (simp only [x3]) | (simp only [x4]) | (simp only [x5]) | (simp only [x6]) | (simp only [run_neg64]))
                all_goals go_ret
                all_goals exact ⟨by simp [Fl.ang3, Fl.ang2, Fl.ang1, *], hd⟩
      · cases hne
  · have dv := fun t w => run_float_arith (P := Try.prog) w .quo t .f64 _ _ _ (hd1 rfl)
    clear hd1 hd2 hfY hfX
    have HT := Lib.hid ht
    clear ht
    cases zx
    · skip
      go_enter Try.func115, Try.ntmps115
      go_wp2_with (first | (simp only [sY]) | (simp only [sX]) | (go_at_call 126; refine (abs_any _ _).mono ?_; rintro e w' ⟨rfl, q, rfl⟩; simp only [ha, hb]) | (simp only [dv]))
      clear sY sX dv
      go_loopw [9, 8] (fun i t wr => ∃ k : Nat, k ≤ 3 ∧ i = .int .i64 k ∧ t = .float .f64 (Fl.tN t0 k) ∧ Drew w wr) (fun i _ _ => 3 - (intOf i).toNat)
      case atStart => exact ⟨0, Nat.zero_le _, rfl, rfl, _, rfl⟩
      case round =>
        obtain ⟨k, hk, rfl, rfl, hd⟩ := hrel
        by_cases hlt : k < 3
        · obtain ⟨x1, x2, x3, x4, x5⟩ := half_of (Fl.tN_sm HT.out k)
          go_wp2_with (first | (simp only [x1]) | (simp only [x2]) | (go_at_call 113; refine (x3 _).mono ?_; rintro e w' ⟨rfl, q, rfl⟩) | (simp only [x4]) | (simp only [x5]))
          go_roundw
          case rel => exact ⟨k + 1, by omega, by go_num, rfl, hd.add _⟩
          case measure => simp [intOf]; omega
        · have hk3 : k = 3 := by omega
          subst hk3
          obtain ⟨x1, x2, x3, x4, x5, x6⟩ := last_of HT.out true nx
          simp only [Bool.false_eq_true, if_false, if_true] at x6
          go_wp2_with (first | (simp only [x1]))
          go_loopw [12, 11] (fun i t wr => ∃ k : Nat, k ≤ 8 ∧ i = .int .i64 (15 - 2 * (k : Int)) ∧ t = .float .f64 (Fl.pN (Fl.m64 (Fl.tN t0 3) (Fl.tN t0 3)) k) ∧ Drew w wr) (fun i _ _ => (intOf i + 1).toNat)
          case atStart => exact ⟨0, Nat.zero_le _, rfl, rfl, hd⟩
          case round =>
            obtain ⟨k, hk, rfl, rfl, hd⟩ := hrel
            by_cases hlt : k < 8
            · obtain ⟨y1, y2, y3⟩ := term_of ⟨false, (Fl.sq_num (Fl.tN_sm HT.out 3)).2⟩ hlt
              go_wp2_with (first | (simp only [y1]) | (simp only [y2]) | (simp only [y3]))
              go_roundw
              case rel => exact ⟨k + 1, by omega, by go_num, rfl, hd⟩
              case measure => simp [intOf]; omega
            · have hk8 : k = 8 := by omega
              subst hk8
              go_wp2_with (first | (simp only [x2]) | (simp only [x3]) | (simp only [x4]) | (simp only [x5]) | (simp only [x6]) | (simp only [run_neg64]))
              all_goals go_ret
              all_goals exact ⟨by simp [Fl.ang3, Fl.ang2, Fl.ang1, *], hd⟩
    · cases zy
      · skip
        go_enter Try.func115, Try.ntmps115
        go_wp2_with (first | (simp only [sY]) | (simp only [sX]) | (go_at_call 126; refine (abs_any _ _).mono ?_; rintro e w' ⟨rfl, q, rfl⟩; simp only [ha, hb]) | (simp only [dv]))
        clear sY sX dv
        go_loopw [9, 8] (fun i t wr => ∃ k : Nat, k ≤ 3 ∧ i = .int .i64 k ∧ t = .float .f64 (Fl.tN t0 k) ∧ Drew w wr) (fun i _ _ => 3 - (intOf i).toNat)
        case atStart => exact ⟨0, Nat.zero_le _, rfl, rfl, _, rfl⟩
        case round =>
          obtain ⟨k, hk, rfl, rfl, hd⟩ := hrel
          by_cases hlt : k < 3
          · obtain ⟨x1, x2, x3, x4, x5⟩ := half_of (Fl.tN_sm HT.out k)
            go_wp2_with (first | (simp only [x1]) | (simp only [x2]) | (go_at_call 113; refine (x3 _).mono ?_; rintro e w' ⟨rfl, q, rfl⟩) | (simp only [x4]) | (simp only [x5]))
            go_roundw
            case rel => exact ⟨k + 1, by omega, by go_num, rfl, hd.add _⟩
            case measure => simp [intOf]; omega
          · have hk3 : k = 3 := by omega
            subst hk3
            obtain ⟨x1, x2, x3, x4, x5, x6⟩ := last_of HT.out true nx
            simp only [Bool.false_eq_true, if_false, if_true] at x6
            go_wp2_with (first | (simp only [x1]))
            go_loopw [12, 11] (fun i t wr => ∃ k : Nat, k ≤ 8 ∧ i = .int .i64 (15 - 2 * (k : Int)) ∧ t = .float .f64 (Fl.pN (Fl.m64 (Fl.tN t0 3) (Fl.tN t0 3)) k) ∧ Drew w wr) (fun i _ _ => (intOf i + 1).toNat)
            case atStart => exact ⟨0, Nat.zero_le _, rfl, rfl, hd⟩
            case round =>
              obtain ⟨k, hk, rfl, rfl, hd⟩ := hrel
              by_cases hlt : k < 8
              · obtain ⟨y1, y2, y3⟩ := term_of ⟨false, (Fl.sq_num (Fl.tN_sm HT.out 3)).2⟩ hlt
                go_wp2_with (first | (simp only [y1]) | (simp only [y2]) | (simp only [y3]))
                go_roundw
                case rel => exact ⟨k + 1, by omega, by go_num, rfl, hd⟩
                case measure => simp [intOf]; omega
              · have hk8 : k = 8 := by omega
                subst hk8
                go_wp2_with (first | (simp only [x2]) | (simp only [x3]) | (simp only [x4]) | (simp only [x5]) | (simp only [x6]) | (simp only [run_neg64]))
                all_goals go_ret
                all_goals exact ⟨by simp [Fl.ang3, Fl.ang2, Fl.ang1, *], hd⟩
      · cases hne
end Go.Proofs.Ythddnjhdonnojaa
