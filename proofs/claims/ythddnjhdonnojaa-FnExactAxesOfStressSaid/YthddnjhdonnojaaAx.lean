/- The axes of a stress: the walks. -/
import Derived.Test.YthddnjhdonnojaaAw
namespace Go.Proofs.Ythddnjhdonnojaa
open Go.RowKit
set_option linter.unusedVariables false
set_option linter.unusedSimpArgs false

set_option maxRecDepth 100000 in
set_option maxHeartbeats 2000000 in
theorem axes_spec (b off n c : Nat) (S : Nat → Nat) (w : World) (hn : n ≤ 1048576) (ao : Option Addr) (hao : 0 < n → ao = some ⟨b, off, none⟩) (hR : FRow w b off n S) :
    Calls Try.prog 55 #[.slice ao n c] w (Quiet (axV n S) w) := by
  by_cases h4 : n = 4
  · subst h4
    have ha := hao (by omega)
    subst ha
    clear hao hn
    go_enter Try.func55, Try.ntmps55
    go_wp2
    go_loopw [6] (fun i wr => ∃ k : Nat, k ≤ 4 ∧ i = .int .i64 k ∧ Drew w wr ∧ Hid (∀ j, j < k → Fl.fin .f32 (S j) = true)) (fun i _ => 4 - (intOf i).toNat)
    case atStart => exact ⟨0, Nat.zero_le _, rfl, Drew.refl _, fun j hj => by omega⟩
    case round =>
      obtain ⟨k, hk, rfl, hd, hall⟩ := hrel
      by_cases hlt : k < 4
      · have c0 := hR.drew hd k hlt
        clear hR
        have i0 : (0 : Int) ≤ (k : Int) := by omega
        have i1 : (k : Int) < 4 := by omega
        cases hs : Fl.fin .f32 (S k)
        · have hf := Lib.hid (axV_no (strOk_all (n := 4) (allFin_at hlt hs)))
          go_wp2_with (go_at_call 96; refine (l01Finite_any _ _).mono ?_; rintro e w' ⟨rfl, q, rfl⟩)
          try simp only [Exit.inBlock, Exit.then]
          refine bodyPost_ret (results_tmp4 rfl _ _ _) rfl ?_
          exact ⟨by rw [hf.out]; rfl, hd.add _⟩
        · have hf := Lib.hid (upto_fin hall.out hs)
          go_wp2_with (go_at_call 96; refine (l01Finite_any _ _).mono ?_; rintro e w' ⟨rfl, q, rfl⟩)
          go_roundw
          case rel => exact ⟨k + 1, by omega, by go_num, hd.add _, hf⟩
          case measure => simp [intOf]; omega
      · have hk4 : k = 4 := by omega
        subst hk4
        have hA := allFin_all hall.out
        have HS := str_of hA
        obtain ⟨a1, a2, a3, a4, a5, a6, nm, nr, ni, hr, hi⟩ := HS
        have c0 := hR.drew hd 0 (by omega)
        have c1 := hR.drew hd 1 (by omega)
        have c2 := hR.drew hd 2 (by omega)
        have c3 := hR.drew hd 3 (by omega)
        clear hR hall
        have hA' := Lib.hid hA
        have HS' := Lib.hid (str_of hA)
        clear hA
        go_wp2_with fail
        simp only [Nat.add_zero] at c0
        go_quiet (first | (simp only [a1]) | (simp only [a2]))
        go_wp2_with fail
        go_quiet (first | (simp only [a3]) | (simp only [a4]) | (simp only [a5]) | (simp only [a6]))
        go_wp2_with fail
        clear a1 a2 a3 a4 a5 a6 c0 c1 c2 c3
        by_cases hb : Fl.Hfin (Fl.strR S) ∧ Fl.Hfin (Fl.strI S)
        · have HF := strFin_of HS'.out hb.1 hb.2
          have hok := Lib.hid (strOk_fin hA'.out HF)
          obtain ⟨lo, fr, fi, oh, ol, ot⟩ := HF
          clear hA' HS' hb hr hi
          refine (l01Long_any nr ni lo _).mono ?_
          rintro e w1 ⟨rfl, q1, rfl⟩
          clear lo
          go_wp2_with fail
          refine (l01Angle_fin fi fr _).mono ?_
          rintro e w1 ⟨rfl, q2, rfl⟩
          cases e1 : Fl.fin .f32 (Fl.strHi S)
          · have hv := Lib.hid (axV_no (n := 4) (S := S) (by rw [hok.out, e1]; rfl))
            clear hok
            go_wp2_with (first | (simp only [oh]) | (simp only [ol]) | (simp only [ot]) | (go_at_call 96; refine (l01Finite_any _ _).mono ?_; rintro e w' ⟨rfl, q, rfl⟩; simp only [e1]))
            try simp only [Exit.inBlock, Exit.then]
            refine bodyPost_ret (results_tmp4 rfl _ _ _) rfl ?_
            exact ⟨by rw [hv.out]; rfl, hd.add _⟩
          · cases e2 : Fl.fin .f32 (Fl.strLo S)
            · have hv := Lib.hid (axV_no (n := 4) (S := S) (by rw [hok.out, e1, e2]; rfl))
              clear hok
              go_wp2_with (first | (simp only [oh]) | (simp only [ol]) | (simp only [ot]) | (go_at_call 96; refine (l01Finite_any _ _).mono ?_; rintro e w' ⟨rfl, q, rfl⟩; simp only [e1, e2]))
              try simp only [Exit.inBlock, Exit.then]
              refine bodyPost_ret (results_tmp4 rfl _ _ _) rfl ?_
              exact ⟨by rw [hv.out]; rfl, hd.add _⟩
            · cases e3 : Fl.fin .f32 (Fl.strT S)
              · have hv := Lib.hid (axV_no (n := 4) (S := S) (by rw [hok.out, e1, e2, e3]; rfl))
                clear hok
                go_wp2_with (first | (simp only [oh]) | (simp only [ol]) | (simp only [ot]) | (go_at_call 96; refine (l01Finite_any _ _).mono ?_; rintro e w' ⟨rfl, q, rfl⟩; simp only [e1, e2, e3]))
                try simp only [Exit.inBlock, Exit.then]
                refine bodyPost_ret (results_tmp4 rfl _ _ _) rfl ?_
                exact ⟨by rw [hv.out]; rfl, hd.add _⟩
              · have hv := Lib.hid (axV_yes (n := 4) (S := S) (by rw [hok.out, e1, e2, e3]; rfl))
                clear hok
                go_wp2_with (first | (simp only [oh]) | (simp only [ol]) | (simp only [ot]) | (go_at_call 96; refine (l01Finite_any _ _).mono ?_; rintro e w' ⟨rfl, q, rfl⟩; simp only [e1, e2, e3]))
                try simp only [Exit.inBlock, Exit.then]
                refine bodyPost_ret (results_tmp4 rfl _ _ _) rfl ?_
                exact ⟨by rw [hv.out]; rfl, hd.add _⟩
        · have hc : (Fl.Hinf (Fl.strR S) ∧ (Fl.Hfin (Fl.strI S) ∨ Fl.Hinf (Fl.strI S))) ∨ (Fl.Hinf (Fl.strI S) ∧ (Fl.Hfin (Fl.strR S) ∨ Fl.Hinf (Fl.strR S))) := by
            rcases hr with hr | hr
            · rcases hi with hi | hi
              · exact absurd ⟨hr, hi⟩ hb
              · exact .inr ⟨hi, .inl hr⟩
            · exact .inl ⟨hr, hi⟩
          obtain ⟨vh, vl, dh, dl, lo, no, inf, oh, ol, nf⟩ := strInf_of HS'.out hc
          have hv := Lib.hid (axV_no no)
          clear hA' HS' hb hr hi hc no
          refine (l01Long_any nr ni lo _).mono ?_
          rintro e w1 ⟨rfl, q1, rfl⟩
          clear lo
          go_wp2_with fail
          refine (l01Angle_inf ni nr inf _).mono ?_
          rintro e w1 ⟨v, rfl, q2, rfl⟩
          obtain ⟨u, d, ot⟩ := half_draw v
          go_wp2_with (first | (simp only [oh]) | (simp only [ol]) | (simp only [ot]) | (go_at_call 96; refine (l01Finite_any _ _).mono ?_; rintro e w' ⟨rfl, q, rfl⟩; simp only [nf]))
          try simp only [Exit.inBlock, Exit.then]
          refine bodyPost_ret (results_tmp4 rfl _ _ _) rfl ?_
          exact ⟨by rw [hv.out]; rfl, hd.add _⟩
  · have hv := Lib.hid (axV_no (strOk_len (S := S) h4))
    have h5 : ((n : Int) == 4) = false := by simp; omega
    have h6 : ((n : Int) != 4) = true := by simp; omega
    go_enter Try.func55, Try.ntmps55
    go_wp2
    try simp only [Exit.inBlock, Exit.then]
    refine bodyPost_ret (results_tmp4 rfl _ _ _) rfl ?_
    exact ⟨by rw [hv.out]; rfl, 0, rfl⟩
end Go.Proofs.Ythddnjhdonnojaa
