/- Touches: the law's walk. -/
import Derived.Test.YthddnjhdonnojaaE
namespace Go.Proofs.Ythddnjhdonnojaa
open Go.RowKit
set_option linter.unusedVariables false
set_option linter.unusedSimpArgs false

theorem leftOf_no {L : Int} {n : Nat} (h : L < (n : Int)) : leftOf L n = -1 := by simp only [leftOf, if_neg (Int.not_le.2 h)]
theorem leftOf_yes {L : Int} {n : Nat} (h : (n : Int) ≤ L) : leftOf L n = L - n := by simp only [leftOf, if_pos h]

set_option maxRecDepth 100000 in
theorem sameTouches_law (b off n c b' off' m c' : Nat) (A B A' B' : Nat → Int) (S S' : Nat → Nat) (w : World) (hn : n ≤ 9223372036854775807) (hm : m ≤ 9223372036854775807) (ao ao' : Option Addr) (hao : 0 < n → ao = some ⟨b, off, none⟩) (hao' : 0 < m → ao' = some ⟨b', off', none⟩)
    (hR : TRow w b off n A B S) (hR' : TRow w b' off' m A' B' S') :
    Calls Try.prog 5 #[.slice ao n c, .slice ao' m c'] w (Ret (.bool true) w) := by
  by_cases h1 : (n : Int) ≤ 1048576
  · by_cases h2 : (m : Int) ≤ 1048576 - n
    · go_enter Try.func5, Try.ntmps5
      go_wp2_with fail
      refine (szTouchS_any _ _ _ _ (by omega) (by omega) hn _).mono ?_
      rintro e w1 ⟨rfl, q1, rfl⟩
      rw [leftOf_yes h1]
      go_wp2_with fail
      refine (szTouchS_any _ _ _ _ (by omega) (by omega) hm _).mono ?_
      rintro e w2 ⟨rfl, q2, rfl⟩
      rw [leftOf_yes h2]
      go_wp2_with fail
      have hB2 : Below w.heap.size w (w.drewN (q1 + q2)) := below_drewN (Below.refl _ _) _
      generalize w.drewN (q1 + q2) = w2 at *
      refine (toTouchS_any b off n c A B S _ (by omega) ao hao (hR.keep hB2)).mono ?_
      rintro e w3 ⟨rfl, r3, k3⟩
      have hB3 := hB2.trans (k3.mono hB2.size)
      go_wp2_with fail
      refine (toTouchS_any b' off' m c' A' B' S' _ (by omega) ao' hao' (hR'.keep hB3)).mono ?_
      rintro e w4 ⟨rfl, r4, k4⟩
      have hB4 := hB3.trans (k4.mono hB3.size)
      go_wp2_with fail
      refine (sameTouches_spec _ 0 n n _ 0 m m A B A' B' S S' _ (by omega) (by omega) _ _ (fun _ => rfl) (fun _ => rfl) (r3.keep k4) r4).mono ?_
      rintro e w5 ⟨rfl, q5, hq5⟩
      have hB5 : Below w.heap.size w w5 := by rw [hq5]; exact below_drewN hB4 _
      clear hq5 r3 r4 k3 k4 hB2 hB3 hB4
      go_wp2_with fail
      refine (toTouchS_any b off n c A B S _ (by omega) ao hao (hR.keep hB5)).mono ?_
      rintro e w6 ⟨rfl, r6, k6⟩
      have hB6 := hB5.trans (k6.mono hB5.size)
      go_wp2_with fail
      refine (toTouchS_any b' off' m c' A' B' S' _ (by omega) ao' hao' (hR'.keep hB6)).mono ?_
      rintro e w7 ⟨rfl, r7, k7⟩
      have hB7 := hB6.trans (k7.mono hB6.size)
      have r6' := r6.keep k7
      clear r6 k6 k7
      go_wp2_with fail
      refine (sameTouches_impl _ 0 n n _ 0 m m A B A' B' S S' _ (by omega) (by omega) _ _ (fun _ => rfl) (fun _ => rfl) r6' r7).mono ?_
      rintro e w8 ⟨rfl, k8⟩
      have hB8 := hB7.trans (k8.mono hB7.size)
      have r6 := r6'.keep k8
      have r7' := r7.keep k8
      clear r6' r7 k8
      go_wp2_with fail
      refine (toTouchS_any b off n c A B S _ (by omega) ao hao (hR.keep hB8)).mono ?_
      rintro e w9 ⟨rfl, r9, k9⟩
      have hB9 := hB8.trans (k9.mono hB8.size)
      have r6' := r6.keep k9
      have r7 := r7'.keep k9
      clear r6 r7' k9
      go_wp2_with fail
      refine (eqTouchS_self _ 0 n n _ 0 n A B S _ (by omega) _ _ (fun _ => rfl) (fun _ => rfl) r6' r9).mono ?_
      rintro e w10 ⟨rfl, k10⟩
      have hB10 := hB9.trans (k10.mono hB9.size)
      have r7' := r7.keep k10
      clear r6' r7 k10 r9
      go_wp2_with fail
      refine (toTouchS_any b' off' m c' A' B' S' _ (by omega) ao' hao' (hR'.keep hB10)).mono ?_
      rintro e w11 ⟨rfl, r11, k11⟩
      have hB11 := hB10.trans (k11.mono hB10.size)
      have r7 := r7'.keep k11
      clear r7' k11
      go_wp2_with fail
      refine (eqTouchS_self _ 0 m m _ 0 m A' B' S' _ (by omega) _ _ (fun _ => rfl) (fun _ => rfl) r7 r11).mono ?_
      rintro e w12 ⟨rfl, k12⟩
      have hB12 := hB11.trans (k12.mono hB11.size)
      clear r7 r11 k12 hB5 hB6 hB7 hB8 hB9 hB10 hB11
      go_wp2
      go_ret
      exact ⟨rfl, hB12⟩
    · go_enter Try.func5, Try.ntmps5
      go_wp2_with fail
      refine (szTouchS_any _ _ _ _ (by omega) (by omega) hn _).mono ?_
      rintro e w1 ⟨rfl, q1, rfl⟩
      rw [leftOf_yes h1]
      go_wp2_with fail
      refine (szTouchS_any _ _ _ _ (by omega) (by omega) hm _).mono ?_
      rintro e w2 ⟨rfl, q2, rfl⟩
      rw [leftOf_no h2]
      go_wp2
      go_ret
      exact ⟨rfl, below_drewN (Below.refl _ _) _⟩
  · go_enter Try.func5, Try.ntmps5
    go_wp2_with fail
    refine (szTouchS_any _ _ _ _ (by omega) (by omega) hn _).mono ?_
    rintro e w1 ⟨rfl, q1, rfl⟩
    rw [leftOf_no h1]
    go_wp2
    go_ret
    exact ⟨rfl, below_drewN (Below.refl _ _) _⟩
end Go.Proofs.Ythddnjhdonnojaa
