/- Views: ValidView of the program and of the reference, and the law. -/
import Derived.Test.YthddnjhdonnojaaW
namespace Go.Proofs.Ythddnjhdonnojaa
open Go.RowKit
set_option linter.unusedVariables false
set_option linter.unusedSimpArgs false
attribute [local go_sem] run_store_float

/-- A view is valid. -/
def viewB (W H : Int) (n : Nat) (S : Nat → Nat) : Bool := inB W 1 16 && inB H 1 16 && ((n : Int) == wrap64 (W * H)) && allFin n S

theorem viewB_no1 {W H : Int} {n : Nat} {S : Nat → Nat} (h : inB W 1 16 = false) : viewB W H n S = false := by simp [viewB, h]
theorem viewB_no2 {W H : Int} {n : Nat} {S : Nat → Nat} (h : inB H 1 16 = false) : viewB W H n S = false := by simp [viewB, h]
theorem viewB_no3 {W H : Int} {n : Nat} {S : Nat → Nat} (h : ((n : Int) == wrap64 (W * H)) = false) : viewB W H n S = false := by simp [viewB, h]
theorem viewB_yes {W H : Int} {n : Nat} {S : Nat → Nat} (h1 : inB W 1 16 = true) (h2 : inB H 1 16 = true) (h3 : ((n : Int) == wrap64 (W * H)) = true) : viewB W H n S = allFin n S := by simp [viewB, h1, h2, h3]

theorem quietOf {P : Program} {f : FuncId} {args : Array Value} {w : World} {n : Nat} {v : Value} (h : Calls P f args (w.drewN n) (Quiet v (w.drewN n))) :
    Calls P f args (w.drewN n) fun e w'' => e = .returned v ∧ ∃ m, w'' = w.drewN m := Calls.quiet_of h

theorem within_is {x lo hi : Int} {v : Bool} (h : inB x lo hi = v) (w : World) : Calls Try.prog 69 #[.int .i64 x, .int .i64 lo, .int .i64 hi] w (Quiet (.bool v) w) := h ▸ within_any x lo hi w
theorem l00In_is {x lo hi : Int} {v : Bool} (h : inB x lo hi = v) (w : World) : Calls Try.prog 105 #[.int .i64 x, .int .i64 lo, .int .i64 hi] w (Quiet (.bool v) w) := h ▸ l00In_any x lo hi w

set_option maxRecDepth 100000 in
theorem validView_impl (W H : Int) (b off n c : Nat) (S : Nat → Nat) (w : World) (hn : n ≤ 1048576) (ao : Option Addr) (hao : 0 < n → ao = some ⟨b, off, none⟩) (hR : FRow w b off n S) :
    Calls Try.prog 27 #[vw W H ao n c] w (Ret (.bool (viewB W H n S)) w) := by
  have hB : Below w.heap.size w (w.alloc (.cells #[.int .i64 W, .int .i64 H, .slice ao n c] 42)) := (Below.refl _ _).alloc (Nat.le_refl _) _
  have hR1 := hR.keep hB
  cases h1 : inB W 1 16
  · have hf := Lib.hid (viewB_no1 (H := H) (n := n) (S := S) h1)
    go_enter Try.func27, Try.ntmps27
    go_wp2_with fail
    go_quiet ((go_at_call 69; first | with_reducible exact quietOf (within_is h1 _)))
    go_wp2
    go_ret
    exact ⟨by rw [hf.out]; rfl, below_drewN hB _⟩
  · cases h2 : inB H 1 16
    · have hf := Lib.hid (viewB_no2 (W := W) (n := n) (S := S) h2)
      go_enter Try.func27, Try.ntmps27
      go_wp2_with fail
      go_quiet ((go_at_call 69; first | with_reducible exact quietOf (within_is h1 _) | with_reducible exact quietOf (within_is h2 _)))
      go_wp2
      go_ret
      exact ⟨by rw [hf.out]; rfl, below_drewN hB _⟩
    · cases h3 : ((n : Int) == wrap64 (W * H))
      · have hf := Lib.hid (viewB_no3 (S := S) h3)
        go_enter Try.func27, Try.ntmps27
        go_wp2_with fail
        go_quiet ((first | (go_at_call 69; first | with_reducible exact quietOf (within_is h1 _) | with_reducible exact quietOf (within_is h2 _)) | (go_at_call 70; exact Calls.quiet_of (size_any _ _ _ _))))
        go_wp2
        go_ret
        exact ⟨by rw [hf.out]; rfl, below_drewN hB _⟩
      · have hf := Lib.hid (viewB_yes (S := S) h1 h2 h3)
        go_enter Try.func27, Try.ntmps27
        go_wp2_with fail
        go_quiet ((first | (go_at_call 69; first | with_reducible exact quietOf (within_is h1 _) | with_reducible exact quietOf (within_is h2 _)) | (go_at_call 70; exact Calls.quiet_of (size_any _ _ _ _)) | (go_at_call 71; exact Calls.quiet_of (areFinite_any b off n c S _ hn ao hao (hR1.drew ⟨_, rfl⟩)))))
        go_wp2
        go_ret
        exact ⟨by rw [hf.out]; rfl, below_drewN hB _⟩

/-- A view lies in block B. -/
def VCell (w : World) (B : Nat) (W H : Int) (ao : Option Addr) (n c : Nat) : Prop :=
  w.cell? ⟨B, 0, none⟩ = some (.int .i64 W) ∧ w.cell? ⟨B, 1, none⟩ = some (.int .i64 H) ∧ w.cell? ⟨B, 2, none⟩ = some (.slice ao n c)
theorem VCell.keep {w w' : World} {B : Nat} {W H : Int} {ao : Option Addr} {n c : Nat} (h : VCell w B W H ao n c) (hb : Below w.heap.size w w') : VCell w' B W H ao n c := by
  obtain ⟨h0, h1, h2⟩ := h
  have l : B < w.heap.size := World.block_lt_of_cell? w _ h0
  exact ⟨(hb.cell l).trans h0, (hb.cell l).trans h1, (hb.cell l).trans h2⟩
theorem VCell.drew {w w' : World} {B : Nat} {W H : Int} {ao : Option Addr} {n c : Nat} (h : VCell w B W H ao n c) (hd : Drew w w') : VCell w' B W H ao n c := by
  obtain ⟨q, rfl⟩ := hd
  exact h
theorem VCell.new (w : World) (W H : Int) (ao : Option Addr) (n c : Nat) (t : TypeId) : VCell (w.alloc (.cells #[.int .i64 W, .int .i64 H, .slice ao n c] t)) w.heap.size W H ao n c := by
  refine ⟨?_, ?_, ?_⟩ <;> simp

set_option maxRecDepth 100000 in
theorem l06View_any (B : Nat) (W H : Int) (b off n c : Nat) (S : Nat → Nat) (w : World) (hn : n ≤ 1048576) (ao : Option Addr) (hao : 0 < n → ao = some ⟨b, off, none⟩) (hR : FRow w b off n S) (hV : VCell w B W H ao n c) :
    Calls Try.prog 68 #[.pointer (some ⟨B, 0, none⟩)] w (Quiet (.bool (viewB W H n S)) w) := by
  have hV' := hV
  obtain ⟨v0, v1, v2⟩ := hV'
  cases h1 : inB W 1 16
  · have hf := Lib.hid (viewB_no1 (H := H) (n := n) (S := S) h1)
    go_enter Try.func68, Try.ntmps68
    go_wp2_with fail
    go_quiet ((go_at_call 105; with_reducible exact quietOf (l00In_is h1 _)))
    go_wp2
    go_ret
    exact ⟨by rw [hf.out]; rfl, _, rfl⟩
  · cases h2 : inB H 1 16
    · have hf := Lib.hid (viewB_no2 (W := W) (n := n) (S := S) h2)
      go_enter Try.func68, Try.ntmps68
      go_wp2_with fail
      go_quiet ((go_at_call 105; first | with_reducible exact quietOf (l00In_is h1 _) | with_reducible exact quietOf (l00In_is h2 _)))
      go_wp2
      go_ret
      exact ⟨by rw [hf.out]; rfl, _, rfl⟩
    · cases h3 : ((n : Int) == wrap64 (W * H))
      · have h3' : ((n : Int) != wrap64 (W * H)) = true := by simp [bne, h3]
        have hf := Lib.hid (viewB_no3 (S := S) h3)
        go_enter Try.func68, Try.ntmps68
        go_wp2_with fail
        go_quiet ((go_at_call 105; first | with_reducible exact quietOf (l00In_is h1 _) | with_reducible exact quietOf (l00In_is h2 _)))
        go_wp2
        go_ret
        exact ⟨by rw [hf.out]; rfl, _, rfl⟩
      · have h3' : ((n : Int) != wrap64 (W * H)) = false := by simp [bne, h3]
        have hg := Lib.hid (viewB_yes (S := S) h1 h2 h3)
        go_enter Try.func68, Try.ntmps68
        go_wp2_with fail
        go_quiet ((go_at_call 105; first | with_reducible exact quietOf (l00In_is h1 _) | with_reducible exact quietOf (l00In_is h2 _)))
        go_wp2
        go_loopw [3] (fun i wr => ∃ k : Nat, k ≤ n ∧ i = .int .i64 k ∧ Drew w wr ∧ Hid (∀ j, j < k → Fl.fin .f32 (S j) = true)) (fun i _ => n - (intOf i).toNat)
        case atStart => exact ⟨0, Nat.zero_le _, rfl, ⟨_, rfl⟩, fun j hj => by omega⟩
        case round =>
          obtain ⟨k, hk, rfl, hd, hall⟩ := hrel
          obtain ⟨u0, u1, u2⟩ := hV.drew hd
          by_cases hlt : k < n
          · have ha := hao (by omega)
            subst ha
            have c0 := hR.drew hd k hlt
            clear hR hV v0 v1 v2
            cases hs : Fl.fin .f32 (S k)
            · have hf := Lib.hid (hg.out.trans (allFin_at hlt hs))
              go_wp2_with (go_at_call 96; refine (l01Finite_any _ _).mono ?_; rintro e w' ⟨rfl, q, rfl⟩)
              go_ret
              exact ⟨by rw [hf.out]; rfl, hd.add _⟩
            · have hf := Lib.hid (upto_fin hall.out hs)
              go_wp2_with (go_at_call 96; refine (l01Finite_any _ _).mono ?_; rintro e w' ⟨rfl, q, rfl⟩)
              go_roundw
              case rel => exact ⟨k + 1, by omega, by go_num, hd.add _, hf⟩
              case measure => simp [intOf]; omega
          · have hkn : k = n := by omega
            subst hkn
            clear hR hV v0 v1 v2
            have hf := Lib.hid (hg.out.trans (allFin_all hall.out))
            go_wp2
            go_ret
            exact ⟨by rw [hf.out]; rfl, hd⟩

set_option maxRecDepth 100000 in
theorem validView_spec (W H : Int) (b off n c : Nat) (S : Nat → Nat) (w : World) (hn : n ≤ 1048576) (ao : Option Addr) (hao : 0 < n → ao = some ⟨b, off, none⟩) (hR : FRow w b off n S) :
    Calls Try.prog 25 #[vw W H ao n c] w (Ret (.bool (viewB W H n S)) w) := by
  have hB : Below w.heap.size w (w.alloc (.cells #[.int .i64 W, .int .i64 H, .slice ao n c] 42)) := (Below.refl _ _).alloc (Nat.le_refl _) _
  have hR1 := hR.keep hB
  have hV := VCell.new w W H ao n c 42
  go_enter Try.func25, Try.ntmps25
  go_wp2_with fail
  refine (l06View_any _ W H b off n c S _ hn ao hao hR1 hV).mono ?_
  rintro e w1 ⟨rfl, q, rfl⟩
  go_wp2
  go_ret
  exact ⟨rfl, below_drewN hB _⟩
end Go.Proofs.Ythddnjhdonnojaa
