/- Touches: the program's SameTouches (slices.EqualFunc over a closure), and the law. -/
import Derived.Test.YthddnjhdonnojaaD
namespace Go.Proofs.Ythddnjhdonnojaa
open Go.RowKit
set_option linter.unusedVariables false
set_option linter.unusedSimpArgs false
attribute [local go_sem] run_store_float

def eqT1 (a b : Int) (s : Nat) (a' b' : Int) (s' : Nat) : Bool := (a == a') && (b == b') && sameB s s'

theorem touchClosure_any (a b a' b' : Int) (s s' : Nat) (w : World) : Calls Try.prog 65 #[tch a b s, tch a' b' s'] w (Ret (.bool (eqT1 a b s a' b' s')) w) := by
  cases e0 : a == a'
  · go_enter Try.func65, Try.ntmps65
    go_wp2_with (go_at_call 62; refine (sameNumber_any _ _ _).mono ?_; rintro e w' ⟨rfl, n, rfl⟩)
    go_ret
    exact ⟨by simp [eqT1, e0], ((Below.refl _ _).alloc (Nat.le_refl _) _).alloc (by simp) _⟩
  · cases e1 : b == b'
    · go_enter Try.func65, Try.ntmps65
      go_wp2_with (go_at_call 62; refine (sameNumber_any _ _ _).mono ?_; rintro e w' ⟨rfl, n, rfl⟩)
      go_ret
      exact ⟨by simp [eqT1, e1], ((Below.refl _ _).alloc (Nat.le_refl _) _).alloc (by simp) _⟩
    · cases e2 : sameB s s'
      all_goals
        go_enter Try.func65, Try.ntmps65
        go_wp2_with (go_at_call 62; refine (sameNumber_any _ _ _).mono ?_; rintro e w' ⟨rfl, n, rfl⟩)
        go_ret
        exact ⟨by simp [eqT1, e0, e1, e2], below_drewN (((Below.refl _ _).alloc (Nat.le_refl _) _).alloc (by simp) _) _⟩

set_option maxRecDepth 100000 in
theorem equalTouches_any (b off n c b' off' m c' : Nat) (A B A' B' : Nat → Int) (S S' : Nat → Nat) (w : World) (hn : n ≤ 1048576) (hm : m ≤ 1048576) (ao ao' : Option Addr) (hao : 0 < n → ao = some ⟨b, off, none⟩) (hao' : 0 < m → ao' = some ⟨b', off', none⟩)
    (hR : TRow w b off n A B S) (hR' : TRow w b' off' m A' B' S') :
    Calls Try.prog 64 #[.slice ao n c, .slice ao' m c', .func (.func 65) #[] #[]] w (Ret (.bool (sameL n m (eqT A B S A' B' S'))) w) := by
  by_cases hnm : n = m
  · subst hnm
    go_enter Try.func64, Try.ntmps64
    go_wp2
    go_loopw [17] (fun i wr => ∃ k : Nat, k ≤ n ∧ i = .int .i64 k ∧ Below w.heap.size w wr ∧ Hid (∀ j, j < k → eqT A B S A' B' S' j = true)) (fun i _ => n - (intOf i).toNat)
    case atStart => exact ⟨0, Nat.zero_le _, rfl, Below.refl _ _, fun j hj => by omega⟩
    case round =>
      obtain ⟨k, hk, rfl, hb, hall⟩ := hrel
      by_cases hlt : k < n
      · have ha := hao (by omega)
        have ha' := hao' (by omega)
        subst ha ha'
        have hc : TCell wr b (off + k * 3) (A k) (B k) (S k) := hR.keep hb k hlt
        have hd : TCell wr b' (off' + k * 3) (A' k) (B' k) (S' k) := hR'.keep hb k hlt
        obtain ⟨c0, c1, c2⟩ := hc
        obtain ⟨d0, d1, d2⟩ := hd
        have lb : b < wr.heap.size := World.block_lt_of_cell? wr _ c0
        have lb' : b' < wr.heap.size := World.block_lt_of_cell? wr _ d0
        clear hR hR'
        cases he : eqT1 (A k) (B k) (S k) (A' k) (B' k) (S' k)
        · have hf := Lib.hid (sameL_at (E := eqT A B S A' B' S') hlt he)
          go_wp2_with fail
          refine (touchClosure_any _ _ _ _ _ _ _).mono ?_
          rintro e w1 ⟨rfl, hb1⟩
          have hb2 := ((hb.alloc hb.size _).alloc (by simp; have := hb.size; omega) _).trans (hb1.mono (by simp; have := hb.size; omega))
          clear hb1 c0 c1 c2 d0 d1 d2 lb lb'
          go_wp2
          go_ret
          exact ⟨by rw [hf.out]; rfl, hb2⟩
        · have hf := Lib.hid (upto_succ (E := eqT A B S A' B' S') hall.out he)
          go_wp2_with fail
          refine (touchClosure_any _ _ _ _ _ _ _).mono ?_
          rintro e w1 ⟨rfl, hb1⟩
          have hb2 := ((hb.alloc hb.size _).alloc (by simp; have := hb.size; omega) _).trans (hb1.mono (by simp; have := hb.size; omega))
          clear hb1 c0 c1 c2 d0 d1 d2 lb lb'
          go_wp2
          go_roundw
          case rel => exact ⟨k + 1, by omega, by go_num, hb2, hf⟩
          case measure => simp [intOf]; omega
      · have hkn : k = n := by omega
        subst hkn
        clear hR hR'
        have hf := Lib.hid (sameL_all hall.out)
        go_wp2
        go_ret
        exact ⟨by rw [hf.out]; rfl, hb⟩
  · have hf := Lib.hid (sameL_len (E := eqT A B S A' B' S') hnm)
    have hne : ((n : Int) != (m : Int)) = true := by simpa using (by omega : ¬ (n : Int) = m)
    go_enter Try.func64, Try.ntmps64
    go_wp2
    go_ret
    exact ⟨by rw [hf.out]; rfl, Below.refl _ _⟩

theorem sameTouches_impl (b off n c b' off' m c' : Nat) (A B A' B' : Nat → Int) (S S' : Nat → Nat) (w : World) (hn : n ≤ 1048576) (hm : m ≤ 1048576) (ao ao' : Option Addr) (hao : 0 < n → ao = some ⟨b, off, none⟩) (hao' : 0 < m → ao' = some ⟨b', off', none⟩)
    (hR : TRow w b off n A B S) (hR' : TRow w b' off' m A' B' S') :
    Calls Try.prog 22 #[.slice ao n c, .slice ao' m c'] w (Ret (.bool (sameL n m (eqT A B S A' B' S'))) w) := by
  go_enter Try.func22, Try.ntmps22
  go_wp2_with fail
  refine (equalTouches_any b off n c b' off' m c' A B A' B' S S' _ hn hm ao ao' hao hao' hR hR').mono ?_
  rintro e w1 ⟨rfl, hb1⟩
  go_wp2
  go_ret
  exact ⟨rfl, hb1⟩
end Go.Proofs.Ythddnjhdonnojaa
