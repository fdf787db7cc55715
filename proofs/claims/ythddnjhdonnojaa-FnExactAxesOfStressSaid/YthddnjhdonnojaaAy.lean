/- The axes of a stress: the program's walk. -/
import Derived.Test.YthddnjhdonnojaaAx
namespace Go.Proofs.Ythddnjhdonnojaa
open Go.RowKit
set_option linter.unusedVariables false
set_option linter.unusedSimpArgs false

/-- Three numbers in a row. -/
def three (x y z : Nat) : Nat → Nat := fun i => if i = 0 then x else if i = 1 then y else z
theorem FRow.three (w : World) (x y z : Nat) (t : TypeId) : FRow (w.alloc (.cells #[.float .f32 x, .float .f32 y, .float .f32 z] t)) w.heap.size 0 3 (three x y z) := by
  intro i hi
  have h : i = 0 ∨ i = 1 ∨ i = 2 := by omega
  rcases h with rfl | rfl | rfl <;> simp [three] <;> rfl
theorem allFin_three (x y z : Nat) : allFin 3 (three x y z) = (Fl.fin .f32 x && Fl.fin .f32 y && Fl.fin .f32 z) := by
  simp [allFin, List.range, List.range.loop, three, Bool.and_assoc]

theorem drewN_size (w : World) (n : Nat) : (w.drewN n).heap.size = w.heap.size := rfl

set_option maxRecDepth 100000 in
set_option maxHeartbeats 2000000 in
theorem axes_impl (b off n c : Nat) (S : Nat → Nat) (w : World) (hn : n ≤ 1048576) (ao : Option Addr) (hao : 0 < n → ao = some ⟨b, off, none⟩) (hR : FRow w b off n S) :
    Calls Try.prog 57 #[.slice ao n c] w (Ret (axV n S) w) := by
  by_cases h4 : n = 4
  · subst h4
    have ha := hao (by omega)
    subst ha
    clear hao
    cases hA : allFin 4 S
    · have hv := Lib.hid (axV_no (strOk_all (n := 4) hA))
      go_enter Try.func57, Try.ntmps57
      go_wp2_with (go_at_call 71; refine (areFinite_any b off 4 c S _ hn _ (fun _ => rfl) hR).mono ?_; rintro e w' ⟨rfl, q, rfl⟩; simp only [hA])
      try simp only [Exit.inBlock, Exit.then]
      refine bodyPost_ret (results_tmp4 rfl _ _ _) rfl ?_
      exact ⟨by rw [hv.out]; rfl, below_drewN (Below.refl _ _) _⟩
    · have HS := str_of hA
      obtain ⟨a1, a2, a3, a4, a5, a6, nm, nr, ni, hr, hi⟩ := HS
      have hA' := Lib.hid hA
      have HS' := Lib.hid (str_of hA)
      have HR := Lib.hid hR
      go_enter Try.func57, Try.ntmps57
      go_wp2_with (go_at_call 71; refine (areFinite_any b off 4 c S _ hn _ (fun _ => rfl) HR.out).mono ?_; rintro e w' ⟨rfl, q, rfl⟩; simp only [hA])
      have c0 := HR.out 0 (by omega)
      have c1 := HR.out 1 (by omega)
      have c2 := HR.out 2 (by omega)
      have c3 := HR.out 3 (by omega)
      simp only [Nat.add_zero] at c0
      clear hR HR hA
      go_quiet (fail)
      clear c0 c1 c2 c3
      have hd : Below w.heap.size w (w.drewN q) := below_drewN (Below.refl _ _) _
      by_cases hb : Fl.Hfin (Fl.strR S) ∧ Fl.Hfin (Fl.strI S)
      · have HF := strFin_of HS'.out hb.1 hb.2
        have hok := Lib.hid (strOk_fin hA'.out HF)
        obtain ⟨lo, fr, fi, oh, ol, ot⟩ := HF
        clear hA' HS' hb hr hi
        go_wp2_with (first | (simp only [a1]) | (simp only [a2]) | (simp only [a3]) | (simp only [a4]) | (simp only [a5]) | (simp only [a6]) | (go_at_call 99; refine (longOf_any nr ni lo _).mono ?_; rintro e w1 ⟨rfl, q1, rfl⟩) | (simp only [oh]) | (simp only [ol]))
        refine (angleOf_fin fi fr _).mono ?_
        rintro e w1 ⟨rfl, k1⟩
        have hd1 : Below w.heap.size w w1 := (below_drewN (Below.refl _ _) _).trans k1
        clear k1 hd lo
        have hB : Below w.heap.size w (w1.alloc (.cells #[.float .f32 (Fl.strHi S), .float .f32 (Fl.strLo S), .float .f32 (Fl.strT S)] 22)) := hd1.alloc hd1.size _
        have hR3 := FRow.three w1 (Fl.strHi S) (Fl.strLo S) (Fl.strT S) 22
        go_wp2_with (simp only [ot])
        refine (areFinite_any w1.heap.size 0 3 3 (three (Fl.strHi S) (Fl.strLo S) (Fl.strT S)) _ (by omega) _ (fun _ => rfl) hR3).mono ?_
        rintro e w2 ⟨rfl, q2, rfl⟩
        rw [allFin_three, ← hok.out]
        clear hR3
        cases hs : Fl.strOk 4 S
        · have hv := Lib.hid (axV_no hs)
          clear hok
          go_wp2
          try simp only [Exit.inBlock, Exit.then]
          refine bodyPost_ret (results_tmp4 rfl _ _ _) rfl ?_
          exact ⟨by rw [hv.out]; rfl, below_drewN hB _⟩
        · have hv := Lib.hid (axV_yes hs)
          clear hok
          go_wp2
          try simp only [Exit.inBlock, Exit.then]
          refine bodyPost_ret (results_tmp4 rfl _ _ _) rfl ?_
          exact ⟨by rw [hv.out]; rfl, below_drewN hB _⟩
      · have hc : (Fl.Hinf (Fl.strR S) ∧ (Fl.Hfin (Fl.strI S) ∨ Fl.Hinf (Fl.strI S))) ∨ (Fl.Hinf (Fl.strI S) ∧ (Fl.Hfin (Fl.strR S) ∨ Fl.Hinf (Fl.strR S))) := by
          rcases hr with hr | hr
          · rcases hi with hi | hi
            · exact absurd ⟨hr, hi⟩ hb
            · exact .inr ⟨hi, .inl hr⟩
          · exact .inl ⟨hr, hi⟩
        obtain ⟨vh, vl, dh, dl, lo, no, inf, oh, ol, nf⟩ := strInf_of HS'.out hc
        have hv := Lib.hid (axV_no no)
        clear hA' HS' hb hr hi hc no
        go_wp2_with (first | (simp only [a1]) | (simp only [a2]) | (simp only [a3]) | (simp only [a4]) | (simp only [a5]) | (simp only [a6]) | (go_at_call 99; refine (longOf_any nr ni lo _).mono ?_; rintro e w1 ⟨rfl, q1, rfl⟩) | (simp only [oh]) | (simp only [ol]))
        refine (angleOf_inf inf _).mono ?_
        rintro e w1 ⟨v, rfl, k1⟩
        have hd1 : Below w.heap.size w w1 := (below_drewN (Below.refl _ _) _).trans k1
        clear k1 hd lo
        obtain ⟨u, d, ot⟩ := half_draw v
        go_wp2_with (simp only [ot])
        refine (areFinite_any _ 0 3 3 (three _ _ _) _ (by omega) _ (fun _ => rfl) (FRow.three (w1.drewN d) _ _ _ 22)).mono ?_
        rintro e w2 ⟨rfl, q2, rfl⟩
        rw [allFin_three, nf]
        go_wp2
        try simp only [Exit.inBlock, Exit.then]
        refine bodyPost_ret (results_tmp4 rfl _ _ _) rfl ?_
        exact ⟨by rw [hv.out]; rfl, below_drewN ((below_drewN hd1 _).alloc hd1.size _) _⟩
  · have hv := Lib.hid (axV_no (strOk_len (S := S) h4))
    have h5 : ((n : Int) == 4) = false := by simp; omega
    have h6 : ((n : Int) != 4) = true := by simp; omega
    go_enter Try.func57, Try.ntmps57
    go_wp2
    try simp only [Exit.inBlock, Exit.then]
    refine bodyPost_ret (results_tmp4 rfl _ _ _) rfl ?_
    exact ⟨by rw [hv.out]; rfl, Below.refl _ _⟩
end Go.Proofs.Ythddnjhdonnojaa
