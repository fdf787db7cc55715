/- Knocks: the program's own SameKnocks (slices.EqualFunc over a closure), and the law's walk. -/
import Derived.Test.YthddnjhdonnojaaKnock1
import Derived.Test.YthddnjhdonnojaaF
namespace Go.Proofs.Ythddnjhdonnojaa
open Go.RowKit
set_option linter.unusedVariables false
set_option linter.unusedSimpArgs false
attribute [local go_sem] run_store_float

def eqK1 (a b : Int) (s r : Nat) (a' b' : Int) (s' r' : Nat) : Bool := (a == a') && (b == b') && sameB s s' && sameB r r'

theorem kClosure_any (a b a' b' : Int) (s r s' r' : Nat) (w : World) : Calls Try.prog 74 #[kv a b s r, kv a' b' s' r'] w (Ret (.bool (eqK1 a b s r a' b' s' r')) w) := by
  cases e0 : a == a'
  · go_enter Try.func74, Try.ntmps74
    go_wp2_with (go_at_call 62; refine (sameNumber_any _ _ _).mono ?_; rintro e w' ⟨rfl, n, rfl⟩)
    go_ret
    exact ⟨by simp [eqK1, e0], ((Below.refl _ _).alloc (Nat.le_refl _) _).alloc (by simp) _⟩
  · cases e1 : b == b'
    · go_enter Try.func74, Try.ntmps74
      go_wp2_with (go_at_call 62; refine (sameNumber_any _ _ _).mono ?_; rintro e w' ⟨rfl, n, rfl⟩)
      go_ret
      exact ⟨by simp [eqK1, e1], ((Below.refl _ _).alloc (Nat.le_refl _) _).alloc (by simp) _⟩
    · cases e2 : sameB s s' <;> cases e3 : sameB r r'
      all_goals
        go_enter Try.func74, Try.ntmps74
        go_wp2_with (go_at_call 62; refine (sameNumber_any _ _ _).mono ?_; rintro e w' ⟨rfl, n, rfl⟩)
        go_ret
        exact ⟨by simp [eqK1, e0, e1, e2, e3], below_drewN (((Below.refl _ _).alloc (Nat.le_refl _) _).alloc (by simp) _) _⟩

set_option maxRecDepth 100000 in
theorem equalKnocks_any (b off n c b' off' m c' : Nat) (A B A' B' : Nat → Int) (S R S' R' : Nat → Nat) (w : World) (hn : n ≤ 1048576) (hm : m ≤ 1048576) (ao ao' : Option Addr) (hao : 0 < n → ao = some ⟨b, off, none⟩) (hao' : 0 < m → ao' = some ⟨b', off', none⟩)
    (hR : KRow w b off n A B S R) (hR' : KRow w b' off' m A' B' S' R') :
    Calls Try.prog 73 #[.slice ao n c, .slice ao' m c', .func (.func 74) #[] #[]] w (Ret (.bool (sameL n m (eqK A B S R A' B' S' R'))) w) := by
  by_cases hnm : n = m
  · subst hnm
    go_enter Try.func73, Try.ntmps73
    go_wp2
    go_loopw [17] (fun i wr => ∃ k : Nat, k ≤ n ∧ i = .int .i64 k ∧ Below w.heap.size w wr ∧ Hid (∀ j, j < k → eqK A B S R A' B' S' R' j = true)) (fun i _ => n - (intOf i).toNat)
    case atStart => exact ⟨0, Nat.zero_le _, rfl, Below.refl _ _, fun j hj => by omega⟩
    case round =>
      obtain ⟨k, hk, rfl, hb, hall⟩ := hrel
      by_cases hlt : k < n
      · have ha := hao (by omega)
        have ha' := hao' (by omega)
        subst ha ha'
        obtain ⟨c0, c1, c2, c3⟩ := hR.keep hb k hlt
        obtain ⟨d0, d1, d2, d3⟩ := hR'.keep hb k hlt
        have lb : b < wr.heap.size := World.block_lt_of_cell? wr _ c0
        have lb' : b' < wr.heap.size := World.block_lt_of_cell? wr _ d0
        clear hR hR'
        cases he : eqK1 (A k) (B k) (S k) (R k) (A' k) (B' k) (S' k) (R' k)
        · have hf := Lib.hid (sameL_at (E := eqK A B S R A' B' S' R') hlt he)
          go_wp2_with fail
          refine (kClosure_any _ _ _ _ _ _ _ _ _).mono ?_
          rintro e w1 ⟨rfl, hb1⟩
          have hb2 := ((hb.alloc hb.size _).alloc (by simp; have := hb.size; omega) _).trans (hb1.mono (by simp; have := hb.size; omega))
          clear hb1 c0 c1 c2 c3 d0 d1 d2 d3 lb lb'
          go_wp2
          go_ret
          exact ⟨by rw [hf.out]; rfl, hb2⟩
        · have hf := Lib.hid (upto_succ (E := eqK A B S R A' B' S' R') hall.out he)
          go_wp2_with fail
          refine (kClosure_any _ _ _ _ _ _ _ _ _).mono ?_
          rintro e w1 ⟨rfl, hb1⟩
          have hb2 := ((hb.alloc hb.size _).alloc (by simp; have := hb.size; omega) _).trans (hb1.mono (by simp; have := hb.size; omega))
          clear hb1 c0 c1 c2 c3 d0 d1 d2 d3 lb lb'
          go_wp2
          go_roundw
          case rel => exact ⟨k + 1, by omega, by go_num, hb2, hf⟩
          case measure => simp [intOf]; omega
      · have hkn : k = n := by omega
        subst hkn
        clear hR hR'
        have hf := Lib.hid (sameL_all hall.out)
        go_wp2
        go_ret
        exact ⟨by rw [hf.out]; rfl, hb⟩
  · have hf := Lib.hid (sameL_len (E := eqK A B S R A' B' S' R') hnm)
    have hne : ((n : Int) != (m : Int)) = true := by simpa using (by omega : ¬ (n : Int) = m)
    go_enter Try.func73, Try.ntmps73
    go_wp2
    go_ret
    exact ⟨by rw [hf.out]; rfl, Below.refl _ _⟩

theorem sameKnocks_impl (b off n c b' off' m c' : Nat) (A B A' B' : Nat → Int) (S R S' R' : Nat → Nat) (w : World) (hn : n ≤ 1048576) (hm : m ≤ 1048576) (ao ao' : Option Addr) (hao : 0 < n → ao = some ⟨b, off, none⟩) (hao' : 0 < m → ao' = some ⟨b', off', none⟩)
    (hR : KRow w b off n A B S R) (hR' : KRow w b' off' m A' B' S' R') :
    Calls Try.prog 32 #[.slice ao n c, .slice ao' m c'] w (Ret (.bool (sameL n m (eqK A B S R A' B' S' R'))) w) := by
  go_enter Try.func32, Try.ntmps32
  go_wp2_with fail
  refine (equalKnocks_any b off n c b' off' m c' A B A' B' S R S' R' _ hn hm ao ao' hao hao' hR hR').mono ?_
  rintro e w1 ⟨rfl, hb1⟩
  go_wp2
  go_ret
  exact ⟨rfl, hb1⟩

set_option maxRecDepth 100000 in
theorem sameKnocks_law (b off n c b' off' m c' : Nat) (A B A' B' : Nat → Int) (S R S' R' : Nat → Nat) (w : World) (hn : n ≤ 9223372036854775807) (hm : m ≤ 9223372036854775807) (ao ao' : Option Addr) (hao : 0 < n → ao = some ⟨b, off, none⟩) (hao' : 0 < m → ao' = some ⟨b', off', none⟩)
    (hR : KRow w b off n A B S R) (hR' : KRow w b' off' m A' B' S' R') :
    Calls Try.prog 7 #[.slice ao n c, .slice ao' m c'] w (Ret (.bool true) w) := by
  by_cases h1 : (n : Int) ≤ 1048576
  · by_cases h2 : (m : Int) ≤ 1048576 - n
    · go_enter Try.func7, Try.ntmps7
      go_wp2_with fail
      refine (szKnockS_any _ _ _ _ (by omega) (by omega) hn _).mono ?_
      rintro e w1 ⟨rfl, q1, rfl⟩
      rw [leftOf_yes h1]
      go_wp2_with fail
      refine (szKnockS_any _ _ _ _ (by omega) (by omega) hm _).mono ?_
      rintro e w2 ⟨rfl, q2, rfl⟩
      rw [leftOf_yes h2]
      go_wp2_with fail
      have hB2 : Below w.heap.size w (w.drewN (q1 + q2)) := below_drewN (Below.refl _ _) _
      generalize w.drewN (q1 + q2) = w2 at *
      refine (toKnockS_any b off n c A B S R _ (by omega) ao hao (hR.keep hB2)).mono ?_
      rintro e w3 ⟨rfl, r3, k3⟩
      have hB3 := hB2.trans (k3.mono hB2.size)
      go_wp2_with fail
      refine (toKnockS_any b' off' m c' A' B' S' R' _ (by omega) ao' hao' (hR'.keep hB3)).mono ?_
      rintro e w4 ⟨rfl, r4, k4⟩
      have hB4 := hB3.trans (k4.mono hB3.size)
      go_wp2_with fail
      refine (sameKnocks_loop _ 0 n n _ 0 m m A B A' B' S R S' R' _ (by omega) (by omega) _ _ (fun _ => rfl) (fun _ => rfl) (r3.keep k4) r4).mono ?_
      rintro e w5 ⟨rfl, q5, hq5⟩
      have hB5 : Below w.heap.size w w5 := by rw [hq5]; exact below_drewN hB4 _
      clear hq5 r3 r4 k3 k4 hB2 hB3 hB4
      go_wp2_with fail
      refine (toKnockS_any b off n c A B S R _ (by omega) ao hao (hR.keep hB5)).mono ?_
      rintro e w6 ⟨rfl, r6, k6⟩
      have hB6 := hB5.trans (k6.mono hB5.size)
      go_wp2_with fail
      refine (toKnockS_any b' off' m c' A' B' S' R' _ (by omega) ao' hao' (hR'.keep hB6)).mono ?_
      rintro e w7 ⟨rfl, r7, k7⟩
      have hB7 := hB6.trans (k7.mono hB6.size)
      have r6' := r6.keep k7
      clear r6 k6 k7
      go_wp2_with fail
      refine (sameKnocks_impl _ 0 n n _ 0 m m A B A' B' S R S' R' _ (by omega) (by omega) _ _ (fun _ => rfl) (fun _ => rfl) r6' r7).mono ?_
      rintro e w8 ⟨rfl, k8⟩
      have hB8 := hB7.trans (k8.mono hB7.size)
      have r6 := r6'.keep k8
      have r7' := r7.keep k8
      clear r6' r7 k8
      go_wp2_with fail
      refine (toKnockS_any b off n c A B S R _ (by omega) ao hao (hR.keep hB8)).mono ?_
      rintro e w9 ⟨rfl, r9, k9⟩
      have hB9 := hB8.trans (k9.mono hB8.size)
      have r6' := r6.keep k9
      have r7 := r7'.keep k9
      clear r6 r7' k9
      go_wp2_with fail
      refine (eqKnockS_self _ 0 n n _ 0 n A B S R _ (by omega) _ _ (fun _ => rfl) (fun _ => rfl) r6' r9).mono ?_
      rintro e w10 ⟨rfl, k10⟩
      have hB10 := hB9.trans (k10.mono hB9.size)
      have r7' := r7.keep k10
      clear r6' r7 k10 r9
      go_wp2_with fail
      refine (toKnockS_any b' off' m c' A' B' S' R' _ (by omega) ao' hao' (hR'.keep hB10)).mono ?_
      rintro e w11 ⟨rfl, r11, k11⟩
      have hB11 := hB10.trans (k11.mono hB10.size)
      have r7 := r7'.keep k11
      clear r7' k11
      go_wp2_with fail
      refine (eqKnockS_self _ 0 m m _ 0 m A' B' S' R' _ (by omega) _ _ (fun _ => rfl) (fun _ => rfl) r7 r11).mono ?_
      rintro e w12 ⟨rfl, k12⟩
      have hB12 := hB11.trans (k12.mono hB11.size)
      clear r7 r11 k12 hB5 hB6 hB7 hB8 hB9 hB10 hB11
      go_wp2
      go_ret
      exact ⟨rfl, hB12⟩
    · go_enter Try.func7, Try.ntmps7
      go_wp2_with fail
      refine (szKnockS_any _ _ _ _ (by omega) (by omega) hn _).mono ?_
      rintro e w1 ⟨rfl, q1, rfl⟩
      rw [leftOf_yes h1]
      go_wp2_with fail
      refine (szKnockS_any _ _ _ _ (by omega) (by omega) hm _).mono ?_
      rintro e w2 ⟨rfl, q2, rfl⟩
      rw [leftOf_no h2]
      go_wp2
      go_ret
      exact ⟨rfl, below_drewN (Below.refl _ _) _⟩
  · go_enter Try.func7, Try.ntmps7
    go_wp2_with fail
    refine (szKnockS_any _ _ _ _ (by omega) (by omega) hn _).mono ?_
    rintro e w1 ⟨rfl, q1, rfl⟩
    rw [leftOf_no h1]
    go_wp2
    go_ret
    exact ⟨rfl, below_drewN (Below.refl _ _) _⟩
end Go.Proofs.Ythddnjhdonnojaa
