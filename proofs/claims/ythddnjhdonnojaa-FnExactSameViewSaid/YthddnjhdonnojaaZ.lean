/- Views: SameView of the program and of the reference, and the law's walk. -/
import Derived.Test.YthddnjhdonnojaaX
namespace Go.Proofs.Ythddnjhdonnojaa
open Go.RowKit
set_option linter.unusedVariables false
set_option linter.unusedSimpArgs false
attribute [local go_sem] run_store_float

def eqF (S S' : Nat → Nat) (k : Nat) : Bool := sameB (S k) (S' k)

set_option maxRecDepth 100000 in
theorem sameAll_spec (b off n c b' off' m c' : Nat) (S S' : Nat → Nat) (w : World) (hn : n ≤ 1048576) (hm : m ≤ 1048576) (ao ao' : Option Addr) (hao : 0 < n → ao = some ⟨b, off, none⟩) (hao' : 0 < m → ao' = some ⟨b', off', none⟩)
    (hR : FRow w b off n S) (hR' : FRow w b' off' m S') :
    Calls Try.prog 81 #[.slice ao n c, .slice ao' m c'] w (Quiet (.bool (sameL n m (eqF S S'))) w) := by
  by_cases hnm : n = m
  · subst hnm
    go_enter Try.func81, Try.ntmps81
    go_wp2
    go_loopw [5] (fun i wr => ∃ k : Nat, k ≤ n ∧ i = .int .i64 k ∧ Drew w wr ∧ Hid (∀ j, j < k → eqF S S' j = true)) (fun i _ => n - (intOf i).toNat)
    case atStart => exact ⟨0, Nat.zero_le _, rfl, Drew.refl _, fun j hj => by omega⟩
    case round =>
      obtain ⟨k, hk, rfl, hd, hall⟩ := hrel
      by_cases hlt : k < n
      · have ha := hao (by omega)
        have ha' := hao' (by omega)
        subst ha ha'
        have c0 := hR.drew hd k hlt
        have d0 := hR'.drew hd k hlt
        clear hR hR'
        have i0 : (0 : Int) ≤ (k : Int) := by omega
        have i1 : (k : Int) < (n : Int) := by omega
        cases e2 : sameB (S k) (S' k)
        · have hf := Lib.hid (sameL_at (E := eqF S S') hlt e2)
          go_wp2_with fail
          go_quiet ((go_at_call 61; exact Calls.quiet_of (l01Same_any _ _ _)))
          go_wp2
          go_ret
          exact ⟨by rw [hf.out]; rfl, hd.add _⟩
        · have hf := Lib.hid (upto_succ (E := eqF S S') hall.out e2)
          go_wp2_with fail
          go_quiet ((go_at_call 61; exact Calls.quiet_of (l01Same_any _ _ _)))
          go_wp2
          go_roundw
          case rel => exact ⟨k + 1, by omega, by go_num, hd.add _, hf⟩
          case measure => simp [intOf]; omega
      · have hkn : k = n := by omega
        subst hkn
        clear hR hR'
        have hf := Lib.hid (sameL_all hall.out)
        go_wp2
        go_ret
        exact ⟨by rw [hf.out]; rfl, hd⟩
  · have hf := Lib.hid (sameL_len (E := eqF S S') hnm)
    have hne : ((n : Int) != (m : Int)) = true := by simpa using (by omega : ¬ (n : Int) = m)
    go_enter Try.func81, Try.ntmps81
    go_wp2
    go_ret
    exact ⟨by rw [hf.out]; rfl, Drew.refl _⟩

set_option maxRecDepth 100000 in
theorem equalFloats_any (b off n c b' off' m c' : Nat) (S S' : Nat → Nat) (w : World) (hn : n ≤ 1048576) (hm : m ≤ 1048576) (ao ao' : Option Addr) (hao : 0 < n → ao = some ⟨b, off, none⟩) (hao' : 0 < m → ao' = some ⟨b', off', none⟩)
    (hR : FRow w b off n S) (hR' : FRow w b' off' m S') :
    Calls Try.prog 82 #[.slice ao n c, .slice ao' m c', .func (.func 62) #[] #[]] w (Quiet (.bool (sameL n m (eqF S S'))) w) := by
  by_cases hnm : n = m
  · subst hnm
    go_enter Try.func82, Try.ntmps82
    go_wp2
    go_loopw [17] (fun i wr => ∃ k : Nat, k ≤ n ∧ i = .int .i64 k ∧ Drew w wr ∧ Hid (∀ j, j < k → eqF S S' j = true)) (fun i _ => n - (intOf i).toNat)
    case atStart => exact ⟨0, Nat.zero_le _, rfl, Drew.refl _, fun j hj => by omega⟩
    case round =>
      obtain ⟨k, hk, rfl, hd, hall⟩ := hrel
      by_cases hlt : k < n
      · have ha := hao (by omega)
        have ha' := hao' (by omega)
        subst ha ha'
        have c0 := hR.drew hd k hlt
        have d0 := hR'.drew hd k hlt
        clear hR hR'
        cases e2 : sameB (S k) (S' k)
        · have hf := Lib.hid (sameL_at (E := eqF S S') hlt e2)
          go_wp2_with (go_at_call 62; refine (sameNumber_any _ _ _).mono ?_; rintro e w' ⟨rfl, q, rfl⟩)
          go_ret
          exact ⟨by rw [hf.out]; rfl, hd.add _⟩
        · have hf := Lib.hid (upto_succ (E := eqF S S') hall.out e2)
          go_wp2_with (go_at_call 62; refine (sameNumber_any _ _ _).mono ?_; rintro e w' ⟨rfl, q, rfl⟩)
          go_roundw
          case rel => exact ⟨k + 1, by omega, by go_num, hd.add _, hf⟩
          case measure => simp [intOf]; omega
      · have hkn : k = n := by omega
        subst hkn
        clear hR hR'
        have hf := Lib.hid (sameL_all hall.out)
        go_wp2
        go_ret
        exact ⟨by rw [hf.out]; rfl, hd⟩
  · have hf := Lib.hid (sameL_len (E := eqF S S') hnm)
    have hne : ((n : Int) != (m : Int)) = true := by simpa using (by omega : ¬ (n : Int) = m)
    go_enter Try.func82, Try.ntmps82
    go_wp2
    go_ret
    exact ⟨by rw [hf.out]; rfl, Drew.refl _⟩

/-- Two views are the same. -/
def sameV (W H W' H' : Int) (n m : Nat) (S S' : Nat → Nat) : Bool := (W == W') && (H == H') && sameL n m (eqF S S')

set_option maxRecDepth 100000 in
theorem sameView_spec (W H W' H' : Int) (b off n c b' off' m c' : Nat) (S S' : Nat → Nat) (w : World) (hn : n ≤ 1048576) (hm : m ≤ 1048576) (ao ao' : Option Addr) (hao : 0 < n → ao = some ⟨b, off, none⟩) (hao' : 0 < m → ao' = some ⟨b', off', none⟩)
    (hR : FRow w b off n S) (hR' : FRow w b' off' m S') :
    Calls Try.prog 39 #[vw W H ao n c, vw W' H' ao' m c'] w (Ret (.bool (sameV W H W' H' n m S S')) w) := by
  have hB : Below w.heap.size w ((w.alloc (.cells #[.int .i64 W, .int .i64 H, .slice ao n c] 42)).alloc (.cells #[.int .i64 W', .int .i64 H', .slice ao' m c'] 42)) :=
    ((Below.refl _ _).alloc (Nat.le_refl _) _).alloc (by simp) _
  have hR1 := hR.keep hB
  have hR1' := hR'.keep hB
  cases e0 : W == W'
  · go_enter Try.func39, Try.ntmps39
    go_wp2
    go_ret
    exact ⟨by simp [sameV, e0], hB⟩
  · cases e1 : H == H'
    · go_enter Try.func39, Try.ntmps39
      go_wp2
      go_ret
      exact ⟨by simp [sameV, e1], hB⟩
    · go_enter Try.func39, Try.ntmps39
      go_wp2_with fail
      refine (sameAll_spec b off n c b' off' m c' S S' _ hn hm ao ao' hao hao' hR1 hR1').mono ?_
      rintro e w1 ⟨rfl, q, rfl⟩
      go_wp2
      go_ret
      exact ⟨by simp [sameV, e0, e1], below_drewN hB _⟩

set_option maxRecDepth 100000 in
theorem sameView_impl (W H W' H' : Int) (b off n c b' off' m c' : Nat) (S S' : Nat → Nat) (w : World) (hn : n ≤ 1048576) (hm : m ≤ 1048576) (ao ao' : Option Addr) (hao : 0 < n → ao = some ⟨b, off, none⟩) (hao' : 0 < m → ao' = some ⟨b', off', none⟩)
    (hR : FRow w b off n S) (hR' : FRow w b' off' m S') :
    Calls Try.prog 40 #[vw W H ao n c, vw W' H' ao' m c'] w (Ret (.bool (sameV W H W' H' n m S S')) w) := by
  have hB : Below w.heap.size w ((w.alloc (.cells #[.int .i64 W, .int .i64 H, .slice ao n c] 42)).alloc (.cells #[.int .i64 W', .int .i64 H', .slice ao' m c'] 42)) :=
    ((Below.refl _ _).alloc (Nat.le_refl _) _).alloc (by simp) _
  have hR1 := hR.keep hB
  have hR1' := hR'.keep hB
  cases e0 : W == W'
  · go_enter Try.func40, Try.ntmps40
    go_wp2
    go_ret
    exact ⟨by simp [sameV, e0], hB⟩
  · cases e1 : H == H'
    · go_enter Try.func40, Try.ntmps40
      go_wp2
      go_ret
      exact ⟨by simp [sameV, e1], hB⟩
    · go_enter Try.func40, Try.ntmps40
      go_wp2_with fail
      refine (equalFloats_any b off n c b' off' m c' S S' _ hn hm ao ao' hao hao' hR1 hR1').mono ?_
      rintro e w1 ⟨rfl, q, rfl⟩
      go_wp2
      go_ret
      exact ⟨by simp [sameV, e0, e1], below_drewN hB _⟩
end Go.Proofs.Ythddnjhdonnojaa
