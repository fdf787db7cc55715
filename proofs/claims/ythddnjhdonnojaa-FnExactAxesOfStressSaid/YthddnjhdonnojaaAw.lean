/- The axes of a stress: what both compute. -/
import Derived.Test.YthddnjhdonnojaaAv
import Derived.Test.YthddnjhdonnojaaV
namespace Go.Proofs.Ythddnjhdonnojaa
open Go.RowKit
set_option linter.unusedVariables false
set_option linter.unusedSimpArgs false

theorem results_tmp4 {fn : Func} {t u v x : Tmp} (h : fn.results = #[.tmp t, .tmp u, .tmp v, .tmp x]) (tmps : Array Value) (P : Program) (w : World) :
    (results fn tmps).run P w = .ok (.tuple #[tmps.getD t undef, tmps.getD u undef, tmps.getD v undef, tmps.getD x undef]) w := by simp [results, h]

namespace Fl
theorem half_any {x : Nat} (h : isNaN .f32 x = false) : FloatKind.f32.format.mul halfW x = some (hf x) ∧ (Hfin (hf x) ∨ Hinf (hf x)) := by
  rcases fin_or_inf h with h | h
  · exact ⟨(hf_fin h).1, .inl (hf_fin h).2⟩
  · exact ⟨(hf_inf h).1, .inr (hf_inf h).2⟩

def strM (S : Nat → Nat) : Nat := hf (af (S 0) (S 3))
def strR (S : Nat → Nat) : Nat := hf (sf (S 0) (S 3))
def strI (S : Nat → Nat) : Nat := hf (af (S 1) (S 2))
def strL (S : Nat → Nat) : Nat := longB (strR S) (strI S)
def strHi (S : Nat → Nat) : Nat := af (strM S) (strL S)
def strLo (S : Nat → Nat) : Nat := sf (strM S) (strL S)
def strT (S : Nat → Nat) : Nat := hf (angB (strI S) (strR S))
def strOk (n : Nat) (S : Nat → Nat) : Bool := n == 4 && allFin 4 S && fin .f32 (strR S) && fin .f32 (strI S) && fin .f32 (strHi S) && fin .f32 (strLo S) && fin .f32 (strT S)
end Fl

/-- What the two return. -/
def axV (n : Nat) (S : Nat → Nat) : Value := if Fl.strOk n S = true then .tuple #[.float .f32 (Fl.strHi S), .float .f32 (Fl.strLo S), .float .f32 (Fl.strT S), .bool true] else .tuple #[.float .f32 0, .float .f32 0, .float .f32 0, .bool false]

/-- What a walk wants of four finite numbers. -/
structure Str (S : Nat → Nat) : Prop where
  a : ∀ ty w, (binOp .add ty (.float .f32 (S 0)) (.float .f32 (S 3))).run Try.prog w = .ok (.float .f32 (Fl.af (S 0) (S 3))) w
  m : ∀ ty w, (binOp .mul ty (.float .f32 1056964608) (.float .f32 (Fl.af (S 0) (S 3)))).run Try.prog w = .ok (.float .f32 (Fl.strM S)) w
  s : ∀ ty w, (binOp .sub ty (.float .f32 (S 0)) (.float .f32 (S 3))).run Try.prog w = .ok (.float .f32 (Fl.sf (S 0) (S 3))) w
  r : ∀ ty w, (binOp .mul ty (.float .f32 1056964608) (.float .f32 (Fl.sf (S 0) (S 3)))).run Try.prog w = .ok (.float .f32 (Fl.strR S)) w
  e : ∀ ty w, (binOp .add ty (.float .f32 (S 1)) (.float .f32 (S 2))).run Try.prog w = .ok (.float .f32 (Fl.af (S 1) (S 2))) w
  i : ∀ ty w, (binOp .mul ty (.float .f32 1056964608) (.float .f32 (Fl.af (S 1) (S 2)))).run Try.prog w = .ok (.float .f32 (Fl.strI S)) w
  nm : Fl.isNaN .f32 (Fl.strM S) = false
  nr : Fl.isNaN .f32 (Fl.strR S) = false
  ni : Fl.isNaN .f32 (Fl.strI S) = false
  hr : Fl.Hfin (Fl.strR S) ∨ Fl.Hinf (Fl.strR S)
  hi : Fl.Hfin (Fl.strI S) ∨ Fl.Hinf (Fl.strI S)

theorem str_of {S : Nat → Nat} (h : allFin 4 S = true) : Str S := by
  have hf : ∀ j, j < 4 → Fl.fin .f32 (S j) = true := by simpa only [allFin, List.all_eq_true, List.mem_range] using h
  obtain ⟨a1, a2⟩ := Fl.af_ok (Fl.fin_not_nan (hf 0 (by omega))) (hf 3 (by omega))
  obtain ⟨b1, b2⟩ := Fl.sf_ok (Fl.fin_not_nan (hf 0 (by omega))) (hf 3 (by omega))
  obtain ⟨c1, c2⟩ := Fl.af_ok (Fl.fin_not_nan (hf 1 (by omega))) (hf 2 (by omega))
  obtain ⟨d1, d2⟩ := Fl.half_any a2
  obtain ⟨e1, e2⟩ := Fl.half_any b2
  obtain ⟨f1, f2⟩ := Fl.half_any c2
  exact ⟨fun ty w => run_float_arith w .add ty .f32 _ _ _ a1, fun ty w => run_float_arith w .mul ty .f32 _ _ _ d1, fun ty w => run_float_arith w .sub ty .f32 _ _ _ b1, fun ty w => run_float_arith w .mul ty .f32 _ _ _ e1,
    fun ty w => run_float_arith w .add ty .f32 _ _ _ c1, fun ty w => run_float_arith w .mul ty .f32 _ _ _ f1, isNaN_half d2, isNaN_half e2, isNaN_half f2, e2, f2⟩

/-- What a walk wants where both halves are finite. -/
structure StrFin (S : Nat → Nat) : Prop where
  lo : Fl.LongOk (Fl.strR S) (Fl.strI S)
  fr : Fl.fin .f32 (Fl.strR S) = true
  fi : Fl.fin .f32 (Fl.strI S) = true
  h : ∀ ty w, (binOp .add ty (.float .f32 (Fl.strM S)) (.float .f32 (Fl.longB (Fl.strR S) (Fl.strI S)))).run Try.prog w = .ok (.float .f32 (Fl.strHi S)) w
  l : ∀ ty w, (binOp .sub ty (.float .f32 (Fl.strM S)) (.float .f32 (Fl.longB (Fl.strR S) (Fl.strI S)))).run Try.prog w = .ok (.float .f32 (Fl.strLo S)) w
  t : ∀ ty w, (binOp .mul ty (.float .f32 1056964608) (.float .f32 (Fl.angB (Fl.strI S) (Fl.strR S)))).run Try.prog w = .ok (.float .f32 (Fl.strT S)) w

theorem strFin_of {S : Nat → Nat} (H : Str S) (h1 : Fl.Hfin (Fl.strR S)) (h2 : Fl.Hfin (Fl.strI S)) : StrFin S := by
  obtain ⟨l1, l2⟩ := Fl.long_fin h1 h2
  obtain ⟨a1, a2⟩ := Fl.af_ok H.nm l2
  obtain ⟨b1, b2⟩ := Fl.sf_ok H.nm l2
  obtain ⟨c1, c2⟩ := Fl.hf_fin (Fl.angB_fin h2.fin h1.fin)
  exact ⟨l1, h1.fin, h2.fin, fun ty w => run_float_arith w .add ty .f32 _ _ _ a1, fun ty w => run_float_arith w .sub ty .f32 _ _ _ b1, fun ty w => run_float_arith w .mul ty .f32 _ _ _ c1⟩

/-- What a walk wants where a half is infinite. -/
structure StrInf (S : Nat → Nat) (vh vl : World → Nat) (dh dl : Nat) : Prop where
  lo : Fl.LongOk (Fl.strR S) (Fl.strI S)
  no : Fl.strOk 4 S = false
  inf : Fl.Hinf (Fl.strI S) ∨ Fl.Hinf (Fl.strR S)
  h : ∀ ty w, (binOp .add ty (.float .f32 (Fl.strM S)) (.float .f32 (Fl.longB (Fl.strR S) (Fl.strI S)))).run Try.prog w = .ok (.float .f32 (vh w)) (w.drewN dh)
  l : ∀ ty w, (binOp .sub ty (.float .f32 (Fl.strM S)) (.float .f32 (Fl.longB (Fl.strR S) (Fl.strI S)))).run Try.prog w = .ok (.float .f32 (vl w)) (w.drewN dl)
  f : ∀ w, Fl.fin .f32 (vh w) = false

theorem strInf_of {S : Nat → Nat} (H : Str S) (h : (Fl.Hinf (Fl.strR S) ∧ (Fl.Hfin (Fl.strI S) ∨ Fl.Hinf (Fl.strI S))) ∨ (Fl.Hinf (Fl.strI S) ∧ (Fl.Hfin (Fl.strR S) ∨ Fl.Hinf (Fl.strR S)))) : ∃ vh vl dh dl, StrInf S vh vl dh dl := by
  obtain ⟨l1, l2⟩ := Fl.long_inf h
  obtain ⟨vh, dh, a1, a2⟩ := Fl.add_inf_any (P := Try.prog) (x := Fl.strM S) l2
  obtain ⟨vl, dl, b1, _⟩ := Fl.arith_any (P := Try.prog) .sub (.inr (.inl rfl)) .f32 (Fl.strM S) (Fl.longB (Fl.strR S) (Fl.strI S))
  refine ⟨vh, vl, dh, dl, l1, ?_, ?_, a1, b1, a2⟩
  · rcases h with ⟨h, _⟩ | ⟨h, _⟩ <;> simp [Fl.strOk, h.fin]
  · rcases h with ⟨h, _⟩ | ⟨h, _⟩
    · exact .inr h
    · exact .inl h

/-- Half of any number is some number. -/
theorem half_draw (v : Nat) : ∃ (u : World → Nat) (d : Nat), ∀ ty w, (binOp .mul ty (.float .f32 1056964608) (.float .f32 v)).run Try.prog w = .ok (.float .f32 (u w)) (w.drewN d) := by
  obtain ⟨u, d, h, _⟩ := Fl.arith_any (P := Try.prog) .mul (.inr (.inr rfl)) .f32 1056964608 v
  exact ⟨u, d, h⟩

theorem axV_no {n : Nat} {S : Nat → Nat} (h : Fl.strOk n S = false) : axV n S = .tuple #[.float .f32 0, .float .f32 0, .float .f32 0, .bool false] := by simp [axV, h]
theorem axV_yes {n : Nat} {S : Nat → Nat} (h : Fl.strOk n S = true) : axV n S = .tuple #[.float .f32 (Fl.strHi S), .float .f32 (Fl.strLo S), .float .f32 (Fl.strT S), .bool true] := by simp [axV, h]
theorem strOk_len {n : Nat} {S : Nat → Nat} (h : n ≠ 4) : Fl.strOk n S = false := by simp [Fl.strOk, h]
theorem strOk_all {n : Nat} {S : Nat → Nat} (h : allFin 4 S = false) : Fl.strOk n S = false := by simp [Fl.strOk, h]
theorem strOk_fin {S : Nat → Nat} (h : allFin 4 S = true) (H : StrFin S) : Fl.strOk 4 S = (Fl.fin .f32 (Fl.strHi S) && Fl.fin .f32 (Fl.strLo S) && Fl.fin .f32 (Fl.strT S)) := by simp [Fl.strOk, h, H.fr, H.fi]
end Go.Proofs.Ythddnjhdonnojaa
