/- The small functions that VoidsOf calls. -/
import Derived.Test.YthddnjhdonnojaaVe
namespace Go.Proofs.Ythddnjhdonnojaa
open Go.RowKit
set_option linter.unusedVariables false
set_option linter.unusedSimpArgs false

theorem w64 {x : Int} (h1 : -1000000 ≤ x) (h2 : x ≤ 1000000) : wrap64 x = x := IntWalk.wrap64_in _ ⟨by omega, by omega⟩

theorem sq_le {x : Int} (h1 : -300 ≤ x) (h2 : x ≤ 300) : 0 ≤ x * x ∧ x * x ≤ 90000 := by
  rcases Int.le_total 0 x with h | h
  · exact ⟨Int.mul_nonneg h h, Int.mul_le_mul (a := x) (b := x) (c := 300) (d := 300) h2 h2 h (by omega)⟩
  · have := Int.mul_le_mul (a := -x) (b := -x) (c := 300) (d := 300) (by omega) (by omega) (by omega) (by omega)
    rw [Int.neg_mul_neg] at this
    exact ⟨Int.mul_nonneg_of_nonpos_of_nonpos h h, this⟩

theorem w64n {x : Nat} (h : x ≤ 300) : wrap64 (x : Int) = (x : Int) := w64 (by omega) (by omega)
theorem w64d {x y : Nat} (h : x ≤ 300) (k : y ≤ 300) : wrap64 ((x : Int) - (y : Int)) = (x : Int) - (y : Int) := w64 (by omega) (by omega)
theorem sqd {x y : Nat} (h : x ≤ 300) (k : y ≤ 300) : 0 ≤ ((x : Int) - (y : Int)) * ((x : Int) - (y : Int)) ∧ ((x : Int) - (y : Int)) * ((x : Int) - (y : Int)) ≤ 90000 := sq_le (by omega) (by omega)

set_option maxRecDepth 100000 in
theorem beside_any (W a b : Nat) (w : World) (hW : 0 < W) (hW' : W ≤ 300) (ha : a ≤ 300) (hb : b ≤ 300) :
    Calls Try.prog 91 #[.int .i64 W, .int .i64 a, .int .i64 b] w (Quiet (.bool (Vd.besideB W a b)) w) := by
  have m1 : a % W ≤ 300 := Nat.le_trans (Nat.mod_le _ _) ha
  have m2 : b % W ≤ 300 := Nat.le_trans (Nat.mod_le _ _) hb
  have d1 : a / W ≤ 300 := Nat.le_trans (Nat.div_le_self _ _) ha
  have d2 : b / W ≤ 300 := Nat.le_trans (Nat.div_le_self _ _) hb
  have t1 : (a : Int).tmod (W : Int) = ((a % W : Nat) : Int) := rfl
  have t2 : (b : Int).tmod (W : Int) = ((b % W : Nat) : Int) := rfl
  have q1 : (a : Int).tdiv (W : Int) = ((a / W : Nat) : Int) := rfl
  have q2 : (b : Int).tdiv (W : Int) = ((b / W : Nat) : Int) := rfl
  have hne : (W : Int) ≠ 0 := by omega
  have e1 : wrap64 ((a : Int) / (W : Int)) = ((a / W : Nat) : Int) := w64n d1
  have e2 : wrap64 ((b : Int) / (W : Int)) = ((b / W : Nat) : Int) := w64n d2
  have e3 : wrap64 (((a / W : Nat) : Int) - ((b / W : Nat) : Int)) = ((a / W : Nat) : Int) - ((b / W : Nat) : Int) := w64d d1 d2
  have s1 := sqd m1 m2
  have s2 := sqd d1 d2
  have key : (wrap64 (wrap64 (((a : Int) % (W : Int) - (b : Int) % (W : Int)) * ((a : Int) % (W : Int) - (b : Int) % (W : Int))) + wrap64 (wrap64 (wrap64 ((a : Int) / (W : Int)) - wrap64 ((b : Int) / (W : Int))) * wrap64 (wrap64 ((a : Int) / (W : Int)) - wrap64 ((b : Int) / (W : Int))))) == 1) = Vd.besideB W a b := by
    have p1 : (a : Int) % (W : Int) = ((a % W : Nat) : Int) := rfl
    have p2 : (b : Int) % (W : Int) = ((b % W : Nat) : Int) := rfl
    rw [e1, e2, e3, p1, p2]
    unfold Vd.besideB
    generalize (((a % W : Nat) : Int) - ((b % W : Nat) : Int)) * (((a % W : Nat) : Int) - ((b % W : Nat) : Int)) = A at *
    generalize (((a / W : Nat) : Int) - ((b / W : Nat) : Int)) * (((a / W : Nat) : Int) - ((b / W : Nat) : Int)) = B at *
    rw [w64 (x := A) (by omega) (by omega), w64 (x := B) (by omega) (by omega), w64 (x := A + B) (by omega) (by omega)]
  clear e1 e2 e3 s1 s2
  have KEY := Lib.hid key
  clear key
  have hB : Vd.besideB W a b = ((((a % W : Nat) : Int) - ((b % W : Nat) : Int)) * (((a % W : Nat) : Int) - ((b % W : Nat) : Int)) + (((a / W : Nat) : Int) - ((b / W : Nat) : Int)) * (((a / W : Nat) : Int) - ((b / W : Nat) : Int)) == 1) := rfl
  go_enter Try.func91, Try.ntmps91
  go_wp2_with fail
  go_quiet (fail)
  go_wp2_with fail
  go_quiet (fail)
  clear hB
  go_wp2
  go_ret
  exact ⟨congrArg (fun x => Ending.returned (Value.bool x)) KEY.out, _, rfl⟩

/-- Below the level. -/
def selB (S : Nat → Nat) (L : Nat) (k : Nat) : Bool := FloatKind.f32.format.order (S k) L == some .lt

theorem below_any (Bv Bl : Nat) (W H : Int) (b off n c L k : Nat) (S : Nat → Nat) (w : World) (hk : k < n) (hV : VCell w Bv W H (some ⟨b, off, none⟩) n c) (hL : w.cell? ⟨Bl, 0, none⟩ = some (.float .f32 L)) (hR : FRow w b off n S) :
    Calls Try.prog 92 #[.int .i64 k, .pointer (some ⟨Bv, 0, none⟩), .pointer (some ⟨Bl, 0, none⟩)] w (Quiet (.bool (selB S L k)) w) := by
  obtain ⟨u0, u1, u2⟩ := hV
  have c0 := hR k hk
  have i0 : (0 : Int) ≤ (k : Int) := by omega
  have i1 : (k : Int) < (n : Int) := by omega
  clear hR
  go_enter Try.func92, Try.ntmps92
  go_wp2_with fail
  go_quiet (fail)
  go_wp2
  go_ret
  exact ⟨rfl, _, rfl⟩

theorem pair_any (a b : Int) (w : World) : Calls Try.prog 94 #[.agg #[.int .i64 a, .int .i64 b]] w (Ret (.tuple #[.int .i64 a, .int .i64 b]) w) := by
  have hB : Below w.heap.size w (w.alloc (.cells #[.int .i64 a, .int .i64 b] 121)) := (Below.refl _ _).alloc (Nat.le_refl _) _
  go_enter Try.func94, Try.ntmps94
  go_wp2_with fail
  go_quiet (fail)
  go_wp2
  go_ret2
  exact ⟨rfl, below_drewN hB _⟩

theorem markView_any (W H : Int) (g n c : Nat) (F : Nat → Value) (w : World) (hn : n ≤ 1048576) (hR : GRow w g 22 n F) :
    Calls Try.prog 52 #[vw W H (some ⟨g, 0, none⟩) n c, .int .i64 1] w fun e w' => e = .returned (.int .i64 ((n : Int) + 1)) ∧ Far g w w' ∧ Below g w w' := by
  have hl := hR.lt
  have hB : Below w.heap.size w (w.alloc (.cells #[.int .i64 W, .int .i64 H, .slice (some ⟨g, 0, none⟩) n c] 42)) := (Below.refl _ _).alloc (Nat.le_refl _) _
  have hR1 := hR.keep hB
  go_enter Try.func52, Try.ntmps52
  go_wp2_with fail
  refine (markFloats_any g n _ F _ hn hR1).mono ?_
  rintro e w1 ⟨rfl, hf, hb⟩
  go_wp2
  go_ret
  refine ⟨rfl, ⟨Nat.le_trans hB.size hf.1, fun k hk hl' => ?_⟩, (hB.mono (Nat.le_of_lt hl)).trans hb⟩
  rw [hf.2 k hk (by simp; omega)]
  exact hB.block k hl'
end Go.Proofs.Ythddnjhdonnojaa
