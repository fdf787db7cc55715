/- Views and lists of 32-bit numbers: contracts. -/
import Derived.Test.YthddnjhdonnojaaD
import Derived.Test.YthddnjhdonnojaaF
namespace Go.Proofs.Ythddnjhdonnojaa
open Go.RowKit
set_option linter.unusedVariables false
set_option linter.unusedSimpArgs false
attribute [local go_sem] run_store_float

/-- n numbers lie from cell off of block b on. -/
def FRow (w : World) (b off n : Nat) (S : Nat → Nat) : Prop := ∀ i, i < n → w.cell? ⟨b, off + i, none⟩ = some (.float .f32 (S i))

theorem FRow.keep {w w' : World} {b off n : Nat} {S : Nat → Nat} (h : FRow w b off n S) (hb : Below w.heap.size w w') : FRow w' b off n S := by
  intro i hi
  have h0 := h i hi
  have l : b < w.heap.size := World.block_lt_of_cell? w _ h0
  exact (hb.cell l).trans h0
theorem FRow.drew {w w' : World} {b off n : Nat} {S : Nat → Nat} (h : FRow w b off n S) (hd : Drew w w') : FRow w' b off n S := by
  obtain ⟨q, rfl⟩ := hd
  exact h

theorem info22 : (Try.prog.info? 22).map (fun i => (i.zero, i.size, i.bytes)) = some (some (.float .f32 0), 1, 4) := by kernel_rfl

theorem make22 (n : Nat) (hn : n ≤ 1048576) (w : World) : (Instr.makeSlice 37 (.int .i64 (n : Int)) (.int .i64 (n : Int))).run Try.prog w = .ok (.slice (some ⟨w.heap.size, 0, none⟩) n n) (w.alloc (.cells (madeCells #[.float .f32 0] n) 22)) := by
  obtain ⟨i0, hi, hz0, hz1, hz2⟩ := info_parts info22
  have h := run_make_rowN 37 22 i0 _ Try.underlying37 hi hz0 .i64 .i64 n n (Nat.le_refl _) (by rw [hz2]; omega) (by omega) w
  rw [hz1, Nat.mul_one] at h
  exact h

/-- The first k numbers of the new row are written. -/
def FInv (B0 n k : Nat) (S : Nat → Nat) (w : World) : Prop := ∃ g, w.rowIs B0 22 n g ∧ ∀ i, i < k → g i = .float .f32 (S i)

theorem FInv.start (w : World) (n : Nat) (S : Nat → Nat) : FInv w.heap.size n 0 S (w.alloc (.cells (madeCells #[.float .f32 0] n) 22)) :=
  ⟨_, World.rowIs_made w (.float .f32 0) n 22, fun i hi => by omega⟩
theorem FInv.step {B0 n k : Nat} {S : Nat → Nat} {w : World} (h : FInv B0 n k S w) : FInv B0 n (k + 1) S (w.setCell ⟨B0, k, none⟩ (.float .f32 (S k))) := by
  obtain ⟨g, hg, h⟩ := h
  refine ⟨_, hg.set k (.float .f32 (S k)), fun i hi => ?_⟩
  by_cases e : i = k
  · subst e; simp
  · rw [if_neg e]; exact h i (by omega)
theorem FInv.row {B0 n : Nat} {S : Nat → Nat} {w : World} (h : FInv B0 n n S w) : FRow w B0 0 n S := by
  obtain ⟨g, hg, h⟩ := h
  intro i hi
  rw [Nat.zero_add, hg.cell hi, h i hi]
theorem FInv.cells {B0 n k : Nat} {S : Nat → Nat} {w : World} (h : FInv B0 n k S w) (hk : k < n) : (∃ u, w.cell? ⟨B0, k, none⟩ = some u) ∧ w.frozen? ⟨B0, k, none⟩ = false := by
  obtain ⟨g, hg, h⟩ := h
  exact ⟨⟨_, hg.cell hk⟩, hg.frozen _⟩

set_option maxRecDepth 100000 in
theorem toFloats_any (b off n c : Nat) (S : Nat → Nat) (w : World) (hn : n ≤ 1048576) (ao : Option Addr) (hao : 0 < n → ao = some ⟨b, off, none⟩) (hR : FRow w b off n S) :
    Calls Try.prog 56 #[.slice ao n c] w fun e w' => e = .returned (.slice (some ⟨w.heap.size, 0, none⟩) n n) ∧ FRow w' w.heap.size 0 n S ∧ Below w.heap.size w w' := by
  have hmk := make22 n hn
  go_enter Try.func56, Try.ntmps56
  go_wp2
  go_loopw [4] (fun i wr => ∃ k : Nat, k ≤ n ∧ i = .int .i64 k ∧ Below w.heap.size w wr ∧ FInv w.heap.size n k S wr) (fun i _ => n - (intOf i).toNat)
  case atStart => exact ⟨0, Nat.zero_le _, rfl, (Below.refl _ _).alloc (Nat.le_refl _) _, FInv.start _ _ _⟩
  case round =>
    obtain ⟨k, hk, rfl, hb, hinv⟩ := hrel
    by_cases hlt : k < n
    · have ha := hao (by omega)
      subst ha
      have c0 := hR.keep hb k hlt
      obtain ⟨⟨x0, d0⟩, f0⟩ := hinv.cells hlt
      clear hR hmk
      go_wp2
      go_roundw
      case rel => exact ⟨k + 1, by omega, by go_num, hb.setCell (Nat.le_refl _) _, hinv.step⟩
      case measure => simp [intOf]; omega
    · have hkn : k = n := by omega
      subst hkn
      clear hR hmk
      go_wp2
      go_ret
      exact ⟨rfl, hinv.row, hb⟩

theorem szFloats_any (ao : Option Addr) (n c : Nat) (L : Int) (hL0 : 0 ≤ L) (hL : L ≤ 1048576) (hn : n ≤ 9223372036854775807) (w : World) :
    Calls Try.prog 67 #[.slice ao n c, .int .i64 L] w (Quiet (.int .i64 (leftOf L n)) w) := by
  by_cases h : (n : Int) ≤ L
  · go_enter Try.func67, Try.ntmps67
    go_wp2
    go_ret
    exact ⟨by simp [leftOf, h], 0, rfl⟩
  · have h' : L < (n : Int) := by omega
    go_enter Try.func67, Try.ntmps67
    go_wp2
    go_ret
    exact ⟨by simp [leftOf]; omega, 0, rfl⟩

abbrev vw (W H : Int) (ao : Option Addr) (n c : Nat) : Value := .agg #[.int .i64 W, .int .i64 H, .slice ao n c]

theorem szView_any (W H : Int) (ao : Option Addr) (n c : Nat) (L : Int) (hL0 : 0 ≤ L) (hL : L ≤ 1048576) (hn : n ≤ 9223372036854775807) (w : World) :
    Calls Try.prog 24 #[vw W H ao n c, .int .i64 L] w (Ret (.int .i64 (leftOf L n)) w) := by
  by_cases h : (n : Int) ≤ L
  · go_enter Try.func24, Try.ntmps24
    go_wp2_with fail
    refine (szFloats_any _ _ _ _ hL0 hL hn _).mono ?_
    rintro e w1 ⟨rfl, q, rfl⟩
    rw [leftOf_yes h]
    go_wp2
    go_ret
    exact ⟨by simp [leftOf_yes h], below_drewN ((Below.refl _ _).alloc (Nat.le_refl _) _) _⟩
  · have h' : L < (n : Int) := by omega
    go_enter Try.func24, Try.ntmps24
    go_wp2_with fail
    refine (szFloats_any _ _ _ _ hL0 hL hn _).mono ?_
    rintro e w1 ⟨rfl, q, rfl⟩
    rw [leftOf_no h']
    go_wp2
    go_ret
    exact ⟨by simp [leftOf_no h'], below_drewN ((Below.refl _ _).alloc (Nat.le_refl _) _) _⟩

theorem bcell {W w1 : World} (hb : Below W.heap.size W w1) : (∀ b o, b < W.heap.size → w1.cell? ⟨b, o, none⟩ = W.cell? ⟨b, o, none⟩) ∧ (∀ b o, b < W.heap.size → w1.frozen? ⟨b, o, none⟩ = W.frozen? ⟨b, o, none⟩) :=
  ⟨fun b o h => hb.cell (p := ⟨b, o, none⟩) h, fun b o h => hb.frozen (p := ⟨b, o, none⟩) h⟩

theorem FRow.other {w : World} {b off n : Nat} {S : Nat → Nat} (h : FRow w b off n S) {p : Addr} (hp : p.block ≠ b) (u : Value) : FRow (w.setCell p u) b off n S := by
  intro i hi
  rw [World.cell?_setCell_far _ _ _ _ hp]
  exact h i hi

set_option maxRecDepth 100000 in
theorem toView_any (W H : Int) (b off n c : Nat) (S : Nat → Nat) (w : World) (hn : n ≤ 1048576) (ao : Option Addr) (hao : 0 < n → ao = some ⟨b, off, none⟩) (hR : FRow w b off n S) :
    Calls Try.prog 26 #[vw W H ao n c] w fun e w' => e = .returned (vw W H (some ⟨w.heap.size + 3, 0, none⟩) n n) ∧ FRow w' (w.heap.size + 3) 0 n S ∧ Below w.heap.size w w' := by
  go_enter Try.func26, Try.ntmps26
  have hR3 := hR.keep ((((Below.refl w.heap.size w).alloc (Nat.le_refl _) (.cells #[.int .i64 W, .int .i64 H, .slice ao n c] 39)).alloc (by simp) (.cells #[.int .i64 0, .int .i64 0, .slice none 0 0] 42)).alloc (by simp; omega) (.cells #[.int .i64 W, .int .i64 H, .slice none 0 0] 42))
  have hB3 := ((((Below.refl w.heap.size w).alloc (Nat.le_refl _) (.cells #[.int .i64 W, .int .i64 H, .slice ao n c] 39)).alloc (by simp) (.cells #[.int .i64 0, .int .i64 0, .slice none 0 0] 42)).alloc (by simp; omega) (.cells #[.int .i64 W, .int .i64 H, .slice none 0 0] 42))
  go_wp2_with fail
  refine (toFloats_any b off n c S _ hn ao hao hR3).mono ?_
  rintro e w1 ⟨rfl, r1, k1⟩
  have hB := hB3.trans (k1.mono hB3.size)
  obtain ⟨hc, hf⟩ := bcell k1
  have hz : w.heap.size + 1 + 1 < w1.heap.size := by have := k1.size; simp at this; omega
  clear hR hR3 hB3 k1
  go_wp2
  have r2 : FRow w1 (w.heap.size + 3) 0 n S := by simpa [Nat.add_assoc] using r1
  exact bodyPost_ret (v := vw W H (some ⟨w.heap.size + 3, 0, none⟩) n n) (by simp [results, Try.results26, go_sem, hc, hz, Nat.add_assoc]) rfl
    ⟨rfl, (((r2.other (by simp) _).other (by simp) _).other (by simp) _).other (by simp) _, (((hB.setCell (by simp; omega) _).setCell (by simp) _).setCell (by simp) _).setCell (by simp) _⟩

set_option maxRecDepth 100000 in
theorem eqFloats_self (b off n c b' off' c' : Nat) (S : Nat → Nat) (w : World) (hn : n ≤ 1048576) (ao ao' : Option Addr) (hao : 0 < n → ao = some ⟨b, off, none⟩) (hao' : 0 < n → ao' = some ⟨b', off', none⟩)
    (hR : FRow w b off n S) (hR' : FRow w b' off' n S) :
    Calls Try.prog 58 #[.slice ao n c, .slice ao' n c'] w (Quiet (.bool true) w) := by
  have nn : ∀ (t : Nat) (w1 w2 : World), SameF (Fl.nanOf .f64 (.nanConv .f64 t) w1) (Fl.nanOf .f64 (.nanConv .f64 t) w2) := fun t w1 w2 => .inl ⟨Fl.isNaN_conv _ _ _, Fl.isNaN_conv _ _ _⟩
  go_enter Try.func58, Try.ntmps58
  go_wp2
  go_loopw [5] (fun i wr => ∃ k : Nat, k ≤ n ∧ i = .int .i64 k ∧ Drew w wr) (fun i _ => n - (intOf i).toNat)
  case atStart => exact ⟨0, Nat.zero_le _, rfl, Drew.refl _⟩
  case round =>
    obtain ⟨k, hk, rfl, hd⟩ := hrel
    by_cases hlt : k < n
    · have ha := hao (by omega)
      have ha' := hao' (by omega)
      subst ha ha'
      have c0 := hR.drew hd k hlt
      have d0 := hR'.drew hd k hlt
      clear hR hR'
      cases hs : Fl.isNaN .f32 (S k)
      · have hw := wideF hs
        have s1 : SameF (Fl.wide (S k)) (Fl.wide (S k)) := .inr ⟨rfl, Fl.wide_not_nan hs⟩
        clear nn
        go_wp2_with fail
        go_region_held3 (fun w' => w'.cell? ⟨b, off + k, none⟩ = some (.float .f32 (S k)) ∧ w'.cell? ⟨b', off' + k, none⟩ = some (.float .f32 (S k)))
          (go_keep)
          (first | (go_at_call 43; refine (sameFloat_self _ _ s1 _).mono ?_; rintro e w1 ⟨rfl, q, rfl⟩))
        have hd2 := hd.add (1 + q)
        clear s1 c0 d0 hw
        go_wp2
        go_roundw
        case rel => exact ⟨k + 1, by omega, by go_num, hd2⟩
        case measure => simp [intOf]; omega
      · have hw := wideN hs
        go_wp2_with fail
        go_region_held (fun w' => w'.cell? ⟨b, off + k, none⟩ = some (.float .f32 (S k)) ∧ w'.cell? ⟨b', off' + k, none⟩ = some (.float .f32 (S k)))
          (go_keep)
          (first | (go_at_call 43; refine (sameFloat_self _ _ (nn _ _ _) _).mono ?_; rintro e w1 ⟨rfl, q, rfl⟩))
        all_goals
          clear c0 d0 hw nn
          go_wp2
          go_roundw
          case rel => exact ⟨k + 1, by omega, by go_num, hd.add _⟩
          case measure => simp [intOf]; omega
    · have hkn : k = n := by omega
      subst hkn
      clear hR hR'
      go_wp2
      go_ret
      exact ⟨rfl, hd⟩
end Go.Proofs.Ythddnjhdonnojaa
