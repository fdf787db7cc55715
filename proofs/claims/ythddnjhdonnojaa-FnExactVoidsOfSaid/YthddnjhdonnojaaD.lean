/- Touches: contracts. -/
import Derived.Test.YthddnjhdonnojaaA
import Derived.Test.YthddnjhdonnojaaB
import Derived.Deep.RegionHeld3
import Derived.Deep.OwnRows
import Derived.Deep.QuietTactic
import Derived.BigQuiet
import Derived.Laws.MakeOwn
import Derived.Lib.Hide
namespace Go.Proofs.Ythddnjhdonnojaa
open Go.RowKit
set_option linter.unusedVariables false
set_option linter.unusedSimpArgs false
attribute [local go_sem] run_store_float

/-- n touches lie from cell off of block b on. -/
def TRow (w : World) (b off n : Nat) (A B : Nat → Int) (S : Nat → Nat) : Prop :=
  ∀ i, i < n → w.cell? ⟨b, off + i * 3, none⟩ = some (.int .i64 (A i)) ∧ w.cell? ⟨b, off + i * 3 + 1, none⟩ = some (.int .i64 (B i)) ∧ w.cell? ⟨b, off + i * 3 + 2, none⟩ = some (.float .f32 (S i))

theorem TRow.keep {w w' : World} {b off n : Nat} {A B : Nat → Int} {S : Nat → Nat} (h : TRow w b off n A B S) (hb : Below w.heap.size w w') : TRow w' b off n A B S := by
  intro i hi
  obtain ⟨h0, h1, h2⟩ := h i hi
  have l : b < w.heap.size := World.block_lt_of_cell? w _ h0
  exact ⟨(hb.cell l).trans h0, (hb.cell l).trans h1, (hb.cell l).trans h2⟩

abbrev tch (a b : Int) (s : Nat) : Value := .agg #[.int .i64 a, .int .i64 b, .float .f32 s]

theorem toTouch_any (a b : Int) (s : Nat) (w : World) : Calls Try.prog 63 #[tch a b s] w (Ret (tch a b s) w) := by
  go_enter Try.func63, Try.ntmps63
  go_wp2
  exact bodyPost_ret (v := tch a b s) (by simp [results, Try.results63, go_sem]) rfl ⟨rfl, (((Below.refl _ _).alloc (Nat.le_refl _) _).alloc (by simp) _).alloc (by simp; omega) _⟩

theorem run_make_rowN {P : Program} (t e : TypeId) (i : TypeInfo) (z : Value) (ht : P.underlying t = some (.slice e)) (hi : P.info? e = some i) (hz : i.zero = some z)
    (kl kc : IntKind) (n c : Nat) (hnc : n ≤ c) (hbytes : i.bytes * c ≤ 281474976710656) (h63 : c ≤ 9223372036854775807) (w : World) :
    (Instr.makeSlice t (.int kl (n : Int)) (.int kc (c : Int))).run P w = .ok (.slice (some ⟨w.heap.size, 0, none⟩) n c) (w.alloc (.cells (madeCells z.cells (c * i.size)) e)) := by
  have hb : (i.bytes : Int) * (c : Int) ≤ 281474976710656 := by
    have h : ((i.bytes * c : Nat) : Int) ≤ 281474976710656 := by omega
    rwa [Int.natCast_mul] at h
  have hr := run_make (P := P) w t e i z ht hi hz kl kc n c (by omega) (by omega) hb (by omega)
  simp only [Int.toNat_natCast] at hr
  exact hr

theorem info86 : (Try.prog.info? 86).map (fun i => (i.zero, i.size, i.bytes)) = some (some (.agg #[.int .i64 0, .int .i64 0, .float .f32 0]), 3, 24) := by kernel_rfl

theorem make86 (n : Nat) (hn : n ≤ 1048576) (w : World) : (Instr.makeSlice 34 (.int .i64 (n : Int)) (.int .i64 (n : Int))).run Try.prog w = .ok (.slice (some ⟨w.heap.size, 0, none⟩) n n) (w.alloc (.cells (madeCells #[.int .i64 0, .int .i64 0, .float .f32 0] (n * 3)) 86)) := by
  obtain ⟨i0, hi, hz0, hz1, hz2⟩ := info_parts info86
  have h := run_make_rowN 34 86 i0 _ Try.underlying34 hi hz0 .i64 .i64 n n (Nat.le_refl _) (by rw [hz2]; omega) (by omega) w
  rw [hz1] at h
  exact h

/-- The first k touches of the new row are written. -/
def TInv (B0 n k : Nat) (A B : Nat → Int) (S : Nat → Nat) (w : World) : Prop :=
  ∃ g, w.rowIs B0 86 (n * 3) g ∧ ∀ i, i < k → g (i * 3) = .int .i64 (A i) ∧ g (i * 3 + 1) = .int .i64 (B i) ∧ g (i * 3 + 2) = .float .f32 (S i)

theorem TInv.start (w : World) (n : Nat) (A B : Nat → Int) (S : Nat → Nat) : TInv w.heap.size n 0 A B S (w.alloc (.cells (madeCells #[.int .i64 0, .int .i64 0, .float .f32 0] (n * 3)) 86)) := by
  have h := World.rowIs_alloc w (madeCells #[.int .i64 0, .int .i64 0, .float .f32 0] (n * 3)) 86 (fun i => (madeCells #[.int .i64 0, .int .i64 0, .float .f32 0] (n * 3)).getD i undef) (fun i hi => by simp [hi])
  rw [size_madeCells] at h
  exact ⟨_, h, fun i hi => by omega⟩

theorem TInv.keep {B0 n k : Nat} {A B : Nat → Int} {S : Nat → Nat} {w w' : World} (h : TInv B0 n k A B S w) (hb : Below w.heap.size w w') : TInv B0 n k A B S w' := by
  obtain ⟨g, hg, h⟩ := h
  exact ⟨g, hg.of_block (hb.block _ hg.lt), h⟩

theorem TInv.step {B0 n k : Nat} {A B : Nat → Int} {S : Nat → Nat} {w : World} (h : TInv B0 n k A B S w) (hk : k < n) :
    TInv B0 n (k + 1) A B S (((w.setCell ⟨B0, k * 3, none⟩ (.int .i64 (A k))).setCell ⟨B0, k * 3 + 1, none⟩ (.int .i64 (B k))).setCell ⟨B0, k * 3 + 2, none⟩ (.float .f32 (S k))) := by
  obtain ⟨g, hg, h⟩ := h
  refine ⟨_, ((hg.set (k * 3) (.int .i64 (A k))).set (k * 3 + 1) (.int .i64 (B k))).set (k * 3 + 2) (.float .f32 (S k)), fun i hi => ?_⟩
  by_cases e : i = k
  · subst e
    simp
  · obtain ⟨h0, h1, h2⟩ := h i (by omega)
    refine ⟨?_, ?_, ?_⟩
    · rw [if_neg (by omega), if_neg (by omega), if_neg (by omega)]; exact h0
    · rw [if_neg (by omega), if_neg (by omega), if_neg (by omega)]; exact h1
    · rw [if_neg (by omega), if_neg (by omega), if_neg (by omega)]; exact h2

theorem TInv.row {B0 n : Nat} {A B : Nat → Int} {S : Nat → Nat} {w : World} (h : TInv B0 n n A B S w) : TRow w B0 0 n A B S := by
  obtain ⟨g, hg, h⟩ := h
  intro i hi
  obtain ⟨h0, h1, h2⟩ := h i hi
  simp only [Nat.zero_add]
  exact ⟨by rw [hg.cell (by omega), h0], by rw [hg.cell (by omega), h1], by rw [hg.cell (by omega), h2]⟩

theorem TInv.cells {B0 n k : Nat} {A B : Nat → Int} {S : Nat → Nat} {w : World} (h : TInv B0 n k A B S w) (hk : k < n) :
    (∃ u, w.cell? ⟨B0, k * 3, none⟩ = some u) ∧ (∃ u, w.cell? ⟨B0, k * 3 + 1, none⟩ = some u) ∧ (∃ u, w.cell? ⟨B0, k * 3 + 2, none⟩ = some u) ∧ ∀ j, w.frozen? ⟨B0, j, none⟩ = false := by
  obtain ⟨g, hg, h⟩ := h
  exact ⟨⟨_, hg.cell (by omega)⟩, ⟨_, hg.cell (by omega)⟩, ⟨_, hg.cell (by omega)⟩, hg.frozen⟩

theorem toTouchS_any (b off n c : Nat) (A B : Nat → Int) (S : Nat → Nat) (w : World) (hn : n ≤ 1048576) (ao : Option Addr) (hao : 0 < n → ao = some ⟨b, off, none⟩) (hR : TRow w b off n A B S) :
    Calls Try.prog 21 #[.slice ao n c] w fun e w' => e = .returned (.slice (some ⟨w.heap.size, 0, none⟩) n n) ∧ TRow w' w.heap.size 0 n A B S ∧ Below w.heap.size w w' := by
  have hmk := make86 n hn
  go_enter Try.func21, Try.ntmps21
  go_wp2
  go_loopw [4] (fun i wr => ∃ k : Nat, k ≤ n ∧ i = .int .i64 k ∧ Below w.heap.size w wr ∧ TInv w.heap.size n k A B S wr) (fun i _ => n - (intOf i).toNat)
  case atStart => exact ⟨0, Nat.zero_le _, rfl, (Below.refl _ _).alloc (Nat.le_refl _) _, TInv.start _ _ _ _ _⟩
  case round =>
    obtain ⟨k, hk, rfl, hb, hinv⟩ := hrel
    by_cases hlt : k < n
    · have ha := hao (by omega)
      subst ha
      obtain ⟨c0, c1, c2⟩ := hR.keep hb k hlt
      clear hR hmk
      go_wp2_with fail
      refine (toTouch_any _ _ _ _).mono ?_
      rintro e w1 ⟨rfl, hb1⟩
      have hinv1 := hinv.keep hb1
      have hB1 := hb.trans (hb1.mono hb.size)
      obtain ⟨⟨x0, d0⟩, ⟨x1, d1⟩, ⟨x2, d2⟩, hfr⟩ := hinv1.cells hlt
      have f0 := hfr (k * 3)
      have f1 := hfr (k * 3 + 1)
      have f2 := hfr (k * 3 + 2)
      clear hinv hb hb1 c0 c1 c2 hfr
      go_wp2
      go_roundw
      case rel => exact ⟨k + 1, by omega, by go_num, ((hB1.setCell (Nat.le_refl _) _).setCell (Nat.le_refl _) _).setCell (Nat.le_refl _) _, hinv1.step hlt⟩
      case measure => simp [intOf]; omega
    · have hkn : k = n := by omega
      subst hkn
      clear hR hmk
      go_wp2
      go_ret
      exact ⟨rfl, hinv.row, hb⟩

def leftOf (L : Int) (n : Nat) : Int := if (n : Int) ≤ L then L - n else -1

theorem szTouchS_any (ao : Option Addr) (n c : Nat) (L : Int) (hL0 : 0 ≤ L) (hL : L ≤ 1048576) (hn : n ≤ 9223372036854775807) (w : World) :
    Calls Try.prog 19 #[.slice ao n c, .int .i64 L] w (Quiet (.int .i64 (leftOf L n)) w) := by
  by_cases h : (n : Int) ≤ L
  · go_enter Try.func19, Try.ntmps19
    go_wp2
    go_ret
    exact ⟨by simp [leftOf, h], 0, rfl⟩
  · have h' : L < (n : Int) := by omega
    go_enter Try.func19, Try.ntmps19
    go_wp2
    go_ret
    exact ⟨by simp [leftOf]; omega, 0, rfl⟩

theorem wideF {s : Nat} (h : Fl.isNaN .f32 s = false) (w : World) : (convert 22 62 (.float .f32 s)).run Try.prog w = .ok (.float .f64 (Fl.wide s)) w :=
  Fl.run_wide w h (by rw [Try.underlying22]; rfl) Try.underlying62
theorem wideN {s : Nat} (h : Fl.isNaN .f32 s = true) (w : World) : (convert 22 62 (.float .f32 s)).run Try.prog w = .ok (.float .f64 (Fl.nanOf .f64 (.nanConv .f64 s) w)) w.drew :=
  Fl.run_wide_nan w h (by rw [Try.underlying22]; rfl) Try.underlying62

theorem eqTouch_self (a b : Int) (s : Nat) (w : World) : Calls Try.prog 66 #[tch a b s, tch a b s] w (Ret (.bool true) w) := by
  cases hs : Fl.isNaN .f32 s
  · have hw := wideF hs
    go_enter Try.func66, Try.ntmps66
    go_wp2_with (first | (go_at_call 43; refine (sameFloat_self _ _ (.inr ⟨rfl, Fl.wide_not_nan hs⟩) _).mono ?_; rintro e w' ⟨rfl, n, rfl⟩) | (simp only [hw]))
    go_ret
    exact ⟨rfl, below_drewN (((Below.refl _ _).alloc (Nat.le_refl _) _).alloc (by simp) _) _⟩
  · have hw := wideN hs
    go_enter Try.func66, Try.ntmps66
    go_wp2_with (first | (go_at_call 43; refine (sameFloat_self _ _ (.inl ⟨Fl.isNaN_conv _ _ _, Fl.isNaN_conv _ _ _⟩) _).mono ?_; rintro e w' ⟨rfl, n, rfl⟩) | (simp only [hw]))
    go_ret
    exact ⟨rfl, below_drewN (((Below.refl _ _).alloc (Nat.le_refl _) _).alloc (by simp) _) _⟩

/-- One touch lies at cell o of block b. -/
def TCell (w : World) (b o : Nat) (x y : Int) (s : Nat) : Prop :=
  w.cell? ⟨b, o, none⟩ = some (.int .i64 x) ∧ w.cell? ⟨b, o + 1, none⟩ = some (.int .i64 y) ∧ w.cell? ⟨b, o + 2, none⟩ = some (.float .f32 s)
theorem TCell.keep {w w' : World} {b o : Nat} {x y : Int} {s : Nat} (h : TCell w b o x y s) (hb : Below w.heap.size w w') : TCell w' b o x y s := by
  obtain ⟨h0, h1, h2⟩ := h
  have l : b < w.heap.size := World.block_lt_of_cell? w _ h0
  exact ⟨(hb.cell l).trans h0, (hb.cell l).trans h1, (hb.cell l).trans h2⟩

theorem eqTouchS_self (b off n c b' off' c' : Nat) (A B : Nat → Int) (S : Nat → Nat) (w : World) (hn : n ≤ 1048576) (ao ao' : Option Addr) (hao : 0 < n → ao = some ⟨b, off, none⟩) (hao' : 0 < n → ao' = some ⟨b', off', none⟩)
    (hR : TRow w b off n A B S) (hR' : TRow w b' off' n A B S) :
    Calls Try.prog 23 #[.slice ao n c, .slice ao' n c'] w (Ret (.bool true) w) := by
  go_enter Try.func23, Try.ntmps23
  go_wp2
  go_loopw [5] (fun i wr => ∃ k : Nat, k ≤ n ∧ i = .int .i64 k ∧ Below w.heap.size w wr) (fun i _ => n - (intOf i).toNat)
  case atStart => exact ⟨0, Nat.zero_le _, rfl, Below.refl _ _⟩
  case round =>
    obtain ⟨k, hk, rfl, hb⟩ := hrel
    by_cases hlt : k < n
    · have ha := hao (by omega)
      have ha' := hao' (by omega)
      subst ha ha'
      have hc : TCell wr.drew b (off + k * 3) (A k) (B k) (S k) := hR.keep hb k hlt
      have hd : TCell wr.drew b' (off' + k * 3) (A k) (B k) (S k) := hR'.keep hb k hlt
      clear hR hR'
      go_wp2_with fail
      go_region_held3 (fun w' => (w'.cell? ⟨b, off + k * 3, none⟩ = some (.int .i64 (A k)) ∧ w'.cell? ⟨b, off + k * 3 + 1, none⟩ = some (.int .i64 (B k)) ∧ w'.cell? ⟨b, off + k * 3 + 2, none⟩ = some (.float .f32 (S k))) ∧
          (w'.cell? ⟨b', off' + k * 3, none⟩ = some (.int .i64 (A k)) ∧ w'.cell? ⟨b', off' + k * 3 + 1, none⟩ = some (.int .i64 (B k)) ∧ w'.cell? ⟨b', off' + k * 3 + 2, none⟩ = some (.float .f32 (S k))))
        (first | exact ⟨hc, hd⟩ | exact ⟨hc.keep (by assumption), hd.keep (by assumption)⟩)
        (first | (go_at_call 66; refine (eqTouch_self _ _ _ _).mono ?_; rintro e w1 ⟨rfl, hb1⟩))
      have hb2 := hb.drew.trans (hb1.mono hb.size)
      clear hc hd hb1
      go_wp2
      go_roundw
      case rel => exact ⟨k + 1, by omega, by go_num, hb2⟩
      case measure => simp [intOf]; omega
    · have hkn : k = n := by omega
      subst hkn
      clear hR hR'
      go_wp2
      go_ret
      exact ⟨rfl, hb⟩

/-- Element k of both lists is the same. -/
def eqT (A B : Nat → Int) (S : Nat → Nat) (A' B' : Nat → Int) (S' : Nat → Nat) (k : Nat) : Bool := (A k == A' k) && (B k == B' k) && sameB (S k) (S' k)
/-- Both lists are the same. -/
def sameL (n m : Nat) (E : Nat → Bool) : Bool := (n == m) && (List.range n).all E

theorem sameL_len {n m : Nat} {E : Nat → Bool} (h : n ≠ m) : sameL n m E = false := by simp [sameL, h]
theorem sameL_all {n : Nat} {E : Nat → Bool} (h : ∀ j, j < n → E j = true) : sameL n n E = true := by
  simp only [sameL, BEq.rfl, Bool.true_and, List.all_eq_true, List.mem_range]
  exact h
theorem sameL_at {n : Nat} {E : Nat → Bool} {k : Nat} (hk : k < n) (h : E k = false) : sameL n n E = false := by
  simp only [sameL, BEq.rfl, Bool.true_and, List.all_eq_false, List.mem_range]
  exact ⟨k, hk, by simp [h]⟩
theorem upto_succ {E : Nat → Bool} {k : Nat} (h : ∀ j, j < k → E j = true) (hk : E k = true) : ∀ j, j < k + 1 → E j = true := by
  intro j hj
  by_cases e : j = k
  · rw [e]; exact hk
  · exact h j (by omega)

/-- w' is w behind some draws. -/
def Drew (w w' : World) : Prop := ∃ q, w' = w.drewN q
theorem Drew.refl (w : World) : Drew w w := ⟨0, rfl⟩
theorem Drew.add {w w' : World} (h : Drew w w') (q : Nat) : Drew w (w'.drewN q) := by
  obtain ⟨p, rfl⟩ := h
  exact ⟨p + q, World.drewN_drewN _ _ _⟩
theorem TRow.drew {w w' : World} {b off n : Nat} {A B : Nat → Int} {S : Nat → Nat} (h : TRow w b off n A B S) (hd : Drew w w') : TRow w' b off n A B S := by
  obtain ⟨q, rfl⟩ := hd
  exact h

set_option maxRecDepth 100000 in
theorem sameTouches_spec (b off n c b' off' m c' : Nat) (A B A' B' : Nat → Int) (S S' : Nat → Nat) (w : World) (hn : n ≤ 1048576) (hm : m ≤ 1048576) (ao ao' : Option Addr) (hao : 0 < n → ao = some ⟨b, off, none⟩) (hao' : 0 < m → ao' = some ⟨b', off', none⟩)
    (hR : TRow w b off n A B S) (hR' : TRow w b' off' m A' B' S') :
    Calls Try.prog 20 #[.slice ao n c, .slice ao' m c'] w (Quiet (.bool (sameL n m (eqT A B S A' B' S'))) w) := by
  by_cases hnm : n = m
  · subst hnm
    go_enter Try.func20, Try.ntmps20
    go_wp2
    go_loopw [13] (fun i wr => ∃ k : Nat, k ≤ n ∧ i = .int .i64 k ∧ Drew w wr ∧ Hid (∀ j, j < k → eqT A B S A' B' S' j = true)) (fun i _ => n - (intOf i).toNat)
    case atStart => exact ⟨0, Nat.zero_le _, rfl, Drew.refl _, fun j hj => by omega⟩
    case round =>
      obtain ⟨k, hk, rfl, hd, hall⟩ := hrel
      by_cases hlt : k < n
      · have ha := hao (by omega)
        have ha' := hao' (by omega)
        subst ha ha'
        obtain ⟨c0, c1, c2⟩ := hR.drew hd k hlt
        obtain ⟨d0, d1, d2⟩ := hR'.drew hd k hlt
        clear hR hR'
        have i0 : (0 : Int) ≤ (k : Int) := by omega
        have i1 : (k : Int) < (n : Int) := by omega
        cases e0 : A k == A' k
        · have e0' : (A k != A' k) = true := by simpa using e0
          have hf := Lib.hid (sameL_at (E := eqT A B S A' B' S') hlt (by simp [eqT, e0]))
          go_wp2_with fail
          go_quiet (fail)
          go_wp2
          go_ret
          exact ⟨by rw [hf.out]; rfl, hd.add _⟩
        · have e0' : (A k != A' k) = false := by simpa using e0
          cases e1 : B k == B' k
          · have e1' : (B k != B' k) = true := by simpa using e1
            have hf := Lib.hid (sameL_at (E := eqT A B S A' B' S') hlt (by simp [eqT, e1]))
            go_wp2_with fail
            go_quiet (fail)
            go_wp2
            go_ret
            exact ⟨by rw [hf.out]; rfl, hd.add _⟩
          · have e1' : (B k != B' k) = false := by simpa using e1
            cases e2 : sameB (S k) (S' k)
            · have hf := Lib.hid (sameL_at (E := eqT A B S A' B' S') hlt (by simp [eqT, e2]))
              go_wp2_with fail
              go_quiet ((go_at_call 61; exact Calls.quiet_of (l01Same_any _ _ _)))
              go_wp2
              go_ret
              exact ⟨by rw [hf.out]; rfl, hd.add _⟩
            · have hf := Lib.hid (upto_succ (E := eqT A B S A' B' S') hall.out (by simp [eqT, e0, e1, e2]))
              go_wp2_with fail
              go_quiet ((go_at_call 61; exact Calls.quiet_of (l01Same_any _ _ _)))
              go_wp2
              go_roundw
              case rel => exact ⟨k + 1, by omega, by go_num, hd.add _, hf⟩
              case measure => simp [intOf]; omega
      · have hkn : k = n := by omega
        subst hkn
        clear hR hR'
        have hf := Lib.hid (sameL_all hall.out)
        go_wp2
        go_ret
        exact ⟨by rw [hf.out]; rfl, hd⟩
  · have hf := Lib.hid (sameL_len (E := eqT A B S A' B' S') hnm)
    have hne : ((n : Int) != (m : Int)) = true := by simpa using (by omega : ¬ (n : Int) = m)
    go_enter Try.func20, Try.ntmps20
    go_wp2
    go_ret
    exact ⟨by rw [hf.out]; rfl, Drew.refl _⟩
end Go.Proofs.Ythddnjhdonnojaa
