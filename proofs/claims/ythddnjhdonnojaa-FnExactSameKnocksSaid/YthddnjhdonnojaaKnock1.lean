/- Knocks: contracts of what the law calls, but for the program's own SameX. -/
import Derived.Test.YthddnjhdonnojaaD
namespace Go.Proofs.Ythddnjhdonnojaa
open Go.RowKit
set_option linter.unusedVariables false
set_option linter.unusedSimpArgs false
attribute [local go_sem] run_store_float

/-- n structs lie from cell off of block b on. -/
def KRow (w : World) (b off n : Nat) (A B : Nat → Int) (S R : Nat → Nat) : Prop :=
  ∀ i, i < n → w.cell? ⟨b, off + i * 4, none⟩ = some (.int .i64 (A i)) ∧ w.cell? ⟨b, off + i * 4 + 1, none⟩ = some (.int .i64 (B i)) ∧ w.cell? ⟨b, off + i * 4 + 2, none⟩ = some (.float .f32 (S i)) ∧ w.cell? ⟨b, off + i * 4 + 3, none⟩ = some (.float .f32 (R i))

/-- One struct lies at cell o of block b. -/
def KCell (w : World) (b o : Nat) (x y : Int) (s r : Nat) : Prop :=
  w.cell? ⟨b, o, none⟩ = some (.int .i64 x) ∧ w.cell? ⟨b, o + 1, none⟩ = some (.int .i64 y) ∧ w.cell? ⟨b, o + 2, none⟩ = some (.float .f32 s) ∧ w.cell? ⟨b, o + 3, none⟩ = some (.float .f32 r)
theorem KCell.keep {w w' : World} {b o : Nat} {x y : Int} {s r : Nat} (h : KCell w b o x y s r) (hb : Below w.heap.size w w') : KCell w' b o x y s r := by
  obtain ⟨h0, h1, h2, h3⟩ := h
  have l : b < w.heap.size := World.block_lt_of_cell? w _ h0
  exact ⟨(hb.cell l).trans h0, (hb.cell l).trans h1, (hb.cell l).trans h2, (hb.cell l).trans h3⟩
theorem KRow.keep {w w' : World} {b off n : Nat} {A B : Nat → Int} {S R : Nat → Nat} (h : KRow w b off n A B S R) (hb : Below w.heap.size w w') : KRow w' b off n A B S R := by
  intro i hi
  exact KCell.keep (h i hi) hb
theorem KRow.drew {w w' : World} {b off n : Nat} {A B : Nat → Int} {S R : Nat → Nat} (h : KRow w b off n A B S R) (hd : Drew w w') : KRow w' b off n A B S R := by
  obtain ⟨q, rfl⟩ := hd
  exact h

abbrev kv (a b : Int) (s r : Nat) : Value := .agg #[.int .i64 a, .int .i64 b, .float .f32 s, .float .f32 r]

theorem toKnock_any (a b : Int) (s r : Nat) (w : World) : Calls Try.prog 72 #[kv a b s r] w (Ret (kv a b s r) w) := by
  go_enter Try.func72, Try.ntmps72
  go_wp2
  exact bodyPost_ret (v := kv a b s r) (by simp [results, Try.results72, go_sem]) rfl ⟨rfl, (((Below.refl _ _).alloc (Nat.le_refl _) _).alloc (by simp) _).alloc (by simp; omega) _⟩

theorem info98 : (Try.prog.info? 98).map (fun i => (i.zero, i.size, i.bytes)) = some (some (.agg #[.int .i64 0, .int .i64 0, .float .f32 0, .float .f32 0]), 4, 24) := by kernel_rfl

theorem make98 (n : Nat) (hn : n ≤ 1048576) (w : World) : (Instr.makeSlice 49 (.int .i64 (n : Int)) (.int .i64 (n : Int))).run Try.prog w = .ok (.slice (some ⟨w.heap.size, 0, none⟩) n n) (w.alloc (.cells (madeCells #[.int .i64 0, .int .i64 0, .float .f32 0, .float .f32 0] (n * 4)) 98)) := by
  obtain ⟨i0, hi, hz0, hz1, hz2⟩ := info_parts info98
  have h := run_make_rowN 49 98 i0 _ Try.underlying49 hi hz0 .i64 .i64 n n (Nat.le_refl _) (by rw [hz2]; omega) (by omega) w
  rw [hz1] at h
  exact h

/-- The first k structs of the new row are written. -/
def KInv (B0 n k : Nat) (A B : Nat → Int) (S R : Nat → Nat) (w : World) : Prop :=
  ∃ g, w.rowIs B0 98 (n * 4) g ∧ ∀ i, i < k → g (i * 4) = .int .i64 (A i) ∧ g (i * 4 + 1) = .int .i64 (B i) ∧ g (i * 4 + 2) = .float .f32 (S i) ∧ g (i * 4 + 3) = .float .f32 (R i)

theorem KInv.start (w : World) (n : Nat) (A B : Nat → Int) (S R : Nat → Nat) : KInv w.heap.size n 0 A B S R (w.alloc (.cells (madeCells #[.int .i64 0, .int .i64 0, .float .f32 0, .float .f32 0] (n * 4)) 98)) := by
  have h := World.rowIs_alloc w (madeCells #[.int .i64 0, .int .i64 0, .float .f32 0, .float .f32 0] (n * 4)) 98 (fun i => (madeCells #[.int .i64 0, .int .i64 0, .float .f32 0, .float .f32 0] (n * 4)).getD i undef) (fun i hi => by simp [hi])
  rw [size_madeCells] at h
  exact ⟨_, h, fun i hi => by omega⟩

theorem KInv.keep {B0 n k : Nat} {A B : Nat → Int} {S R : Nat → Nat} {w w' : World} (h : KInv B0 n k A B S R w) (hb : Below w.heap.size w w') : KInv B0 n k A B S R w' := by
  obtain ⟨g, hg, h⟩ := h
  exact ⟨g, hg.of_block (hb.block _ hg.lt), h⟩

theorem KInv.step {B0 n k : Nat} {A B : Nat → Int} {S R : Nat → Nat} {w : World} (h : KInv B0 n k A B S R w) (hk : k < n) :
    KInv B0 n (k + 1) A B S R ((((w.setCell ⟨B0, k * 4, none⟩ (.int .i64 (A k))).setCell ⟨B0, k * 4 + 1, none⟩ (.int .i64 (B k))).setCell ⟨B0, k * 4 + 2, none⟩ (.float .f32 (S k))).setCell ⟨B0, k * 4 + 3, none⟩ (.float .f32 (R k))) := by
  obtain ⟨g, hg, h⟩ := h
  refine ⟨_, (((hg.set (k * 4) (.int .i64 (A k))).set (k * 4 + 1) (.int .i64 (B k))).set (k * 4 + 2) (.float .f32 (S k))).set (k * 4 + 3) (.float .f32 (R k)), fun i hi => ?_⟩
  by_cases e : i = k
  · subst e
    simp
  · obtain ⟨h0, h1, h2, h3⟩ := h i (by omega)
    refine ⟨?_, ?_, ?_, ?_⟩
    · rw [if_neg (by omega), if_neg (by omega), if_neg (by omega), if_neg (by omega)]; exact h0
    · rw [if_neg (by omega), if_neg (by omega), if_neg (by omega), if_neg (by omega)]; exact h1
    · rw [if_neg (by omega), if_neg (by omega), if_neg (by omega), if_neg (by omega)]; exact h2
    · rw [if_neg (by omega), if_neg (by omega), if_neg (by omega), if_neg (by omega)]; exact h3

theorem KInv.row {B0 n : Nat} {A B : Nat → Int} {S R : Nat → Nat} {w : World} (h : KInv B0 n n A B S R w) : KRow w B0 0 n A B S R := by
  obtain ⟨g, hg, h⟩ := h
  intro i hi
  obtain ⟨h0, h1, h2, h3⟩ := h i hi
  simp only [Nat.zero_add]
  exact ⟨by rw [hg.cell (by omega), h0], by rw [hg.cell (by omega), h1], by rw [hg.cell (by omega), h2], by rw [hg.cell (by omega), h3]⟩

theorem KInv.cells {B0 n k : Nat} {A B : Nat → Int} {S R : Nat → Nat} {w : World} (h : KInv B0 n k A B S R w) (hk : k < n) :
    (∃ u, w.cell? ⟨B0, k * 4, none⟩ = some u) ∧ (∃ u, w.cell? ⟨B0, k * 4 + 1, none⟩ = some u) ∧ (∃ u, w.cell? ⟨B0, k * 4 + 2, none⟩ = some u) ∧ (∃ u, w.cell? ⟨B0, k * 4 + 3, none⟩ = some u) ∧ ∀ j, w.frozen? ⟨B0, j, none⟩ = false := by
  obtain ⟨g, hg, h⟩ := h
  exact ⟨⟨_, hg.cell (by omega)⟩, ⟨_, hg.cell (by omega)⟩, ⟨_, hg.cell (by omega)⟩, ⟨_, hg.cell (by omega)⟩, hg.frozen⟩

set_option maxRecDepth 100000 in
theorem toKnockS_any (b off n c : Nat) (A B : Nat → Int) (S R : Nat → Nat) (w : World) (hn : n ≤ 1048576) (ao : Option Addr) (hao : 0 < n → ao = some ⟨b, off, none⟩) (hR : KRow w b off n A B S R) :
    Calls Try.prog 31 #[.slice ao n c] w fun e w' => e = .returned (.slice (some ⟨w.heap.size, 0, none⟩) n n) ∧ KRow w' w.heap.size 0 n A B S R ∧ Below w.heap.size w w' := by
  have hmk := make98 n hn
  go_enter Try.func31, Try.ntmps31
  go_wp2
  go_loopw [4] (fun i wr => ∃ k : Nat, k ≤ n ∧ i = .int .i64 k ∧ Below w.heap.size w wr ∧ KInv w.heap.size n k A B S R wr) (fun i _ => n - (intOf i).toNat)
  case atStart => exact ⟨0, Nat.zero_le _, rfl, (Below.refl _ _).alloc (Nat.le_refl _) _, KInv.start _ _ _ _ _ _⟩
  case round =>
    obtain ⟨k, hk, rfl, hb, hinv⟩ := hrel
    by_cases hlt : k < n
    · have ha := hao (by omega)
      subst ha
      obtain ⟨c0, c1, c2, c3⟩ := hR.keep hb k hlt
      clear hR hmk
      go_wp2_with fail
      refine (toKnock_any _ _ _ _ _).mono ?_
      rintro e w1 ⟨rfl, hb1⟩
      have hinv1 := hinv.keep hb1
      have hB1 := hb.trans (hb1.mono hb.size)
      obtain ⟨⟨x0, d0⟩, ⟨x1, d1⟩, ⟨x2, d2⟩, ⟨x3, d3⟩, hfr⟩ := hinv1.cells hlt
      have f0 := hfr (k * 4)
      have f1 := hfr (k * 4 + 1)
      have f2 := hfr (k * 4 + 2)
      have f3 := hfr (k * 4 + 3)
      clear hinv hb hb1 c0 c1 c2 c3 hfr
      go_wp2
      go_roundw
      case rel => exact ⟨k + 1, by omega, by go_num, (((hB1.setCell (Nat.le_refl _) _).setCell (Nat.le_refl _) _).setCell (Nat.le_refl _) _).setCell (Nat.le_refl _) _, hinv1.step hlt⟩
      case measure => simp [intOf]; omega
    · have hkn : k = n := by omega
      subst hkn
      clear hR hmk
      go_wp2
      go_ret
      exact ⟨rfl, hinv.row, hb⟩

theorem szKnockS_any (ao : Option Addr) (n c : Nat) (L : Int) (hL0 : 0 ≤ L) (hL : L ≤ 1048576) (hn : n ≤ 9223372036854775807) (w : World) :
    Calls Try.prog 29 #[.slice ao n c, .int .i64 L] w (Quiet (.int .i64 (leftOf L n)) w) := by
  by_cases h : (n : Int) ≤ L
  · go_enter Try.func29, Try.ntmps29
    go_wp2
    go_ret
    exact ⟨by simp [leftOf, h], 0, rfl⟩
  · have h' : L < (n : Int) := by omega
    go_enter Try.func29, Try.ntmps29
    go_wp2
    go_ret
    exact ⟨by simp [leftOf]; omega, 0, rfl⟩

/-- 'float64(x)' of one word, twice: the same number. -/
theorem wide_same (s : Nat) : (∃ v, ∀ w : World, (convert 22 62 (.float .f32 s)).run Try.prog w = .ok (.float .f64 v) w ∧ Fl.isNaN .f64 v = false) ∨ Fl.isNaN .f32 s = true := by
  cases hs : Fl.isNaN .f32 s
  · exact .inl ⟨_, fun w => ⟨wideF hs w, Fl.wide_not_nan hs⟩⟩
  · exact .inr rfl

theorem eqKnock_self (a b : Int) (s r : Nat) (w : World) : Calls Try.prog 75 #[kv a b s r, kv a b s r] w (Ret (.bool true) w) := by
  have nn : ∀ (t : Nat) (w1 w2 : World), SameF (Fl.nanOf .f64 (.nanConv .f64 t) w1) (Fl.nanOf .f64 (.nanConv .f64 t) w2) := fun t w1 w2 => .inl ⟨Fl.isNaN_conv _ _ _, Fl.isNaN_conv _ _ _⟩
  cases hs : Fl.isNaN .f32 s <;> cases hr : Fl.isNaN .f32 r
  · have hw := wideF hs
    have hv := wideF hr
    have s1 : SameF (Fl.wide s) (Fl.wide s) := .inr ⟨rfl, Fl.wide_not_nan hs⟩
    have s2 : SameF (Fl.wide r) (Fl.wide r) := .inr ⟨rfl, Fl.wide_not_nan hr⟩
    clear nn
    go_enter Try.func75, Try.ntmps75
    go_wp2_with (first | (go_at_call 43; refine (sameFloat_self _ _ (by assumption) _).mono ?_; rintro e w' ⟨rfl, n, rfl⟩) | (simp only [hw]) | (simp only [hv]))
    go_ret
    exact ⟨rfl, below_drewN (((Below.refl _ _).alloc (Nat.le_refl _) _).alloc (by simp) _) _⟩
  · have hw := wideF hs
    have hv := wideN hr
    have s1 : SameF (Fl.wide s) (Fl.wide s) := .inr ⟨rfl, Fl.wide_not_nan hs⟩
    go_enter Try.func75, Try.ntmps75
    go_wp2_with (first | (go_at_call 43; refine (sameFloat_self _ _ (by first | assumption | exact nn _ _ _) _).mono ?_; rintro e w' ⟨rfl, n, rfl⟩) | (simp only [hw]) | (simp only [hv]))
    go_ret
    exact ⟨rfl, below_drewN (((Below.refl _ _).alloc (Nat.le_refl _) _).alloc (by simp) _) _⟩
  · have hw := wideN hs
    have hv := wideF hr
    have s2 : SameF (Fl.wide r) (Fl.wide r) := .inr ⟨rfl, Fl.wide_not_nan hr⟩
    go_enter Try.func75, Try.ntmps75
    go_wp2_with (first | (go_at_call 43; refine (sameFloat_self _ _ (by first | assumption | exact nn _ _ _) _).mono ?_; rintro e w' ⟨rfl, n, rfl⟩) | (simp only [hw]) | (simp only [hv]))
    go_ret
    exact ⟨rfl, below_drewN (((Below.refl _ _).alloc (Nat.le_refl _) _).alloc (by simp) _) _⟩
  · have hw := wideN hs
    have hv := wideN hr
    go_enter Try.func75, Try.ntmps75
    go_wp2_with (first | (go_at_call 43; refine (sameFloat_self _ _ (nn _ _ _) _).mono ?_; rintro e w' ⟨rfl, n, rfl⟩) | (simp only [hw]) | (simp only [hv]))
    go_ret
    exact ⟨rfl, below_drewN (((Below.refl _ _).alloc (Nat.le_refl _) _).alloc (by simp) _) _⟩

set_option maxRecDepth 100000 in
theorem eqKnockS_self (b off n c b' off' c' : Nat) (A B : Nat → Int) (S R : Nat → Nat) (w : World) (hn : n ≤ 1048576) (ao ao' : Option Addr) (hao : 0 < n → ao = some ⟨b, off, none⟩) (hao' : 0 < n → ao' = some ⟨b', off', none⟩)
    (hR : KRow w b off n A B S R) (hR' : KRow w b' off' n A B S R) :
    Calls Try.prog 33 #[.slice ao n c, .slice ao' n c'] w (Ret (.bool true) w) := by
  go_enter Try.func33, Try.ntmps33
  go_wp2
  go_loopw [5] (fun i wr => ∃ k : Nat, k ≤ n ∧ i = .int .i64 k ∧ Below w.heap.size w wr) (fun i _ => n - (intOf i).toNat)
  case atStart => exact ⟨0, Nat.zero_le _, rfl, Below.refl _ _⟩
  case round =>
    obtain ⟨k, hk, rfl, hb⟩ := hrel
    by_cases hlt : k < n
    · have ha := hao (by omega)
      have ha' := hao' (by omega)
      subst ha ha'
      have hc : KCell wr.drew b (off + k * 4) (A k) (B k) (S k) (R k) := hR.keep hb k hlt
      have hd : KCell wr.drew b' (off' + k * 4) (A k) (B k) (S k) (R k) := hR'.keep hb k hlt
      clear hR hR'
      go_wp2_with fail
      go_region_held3 (fun w' => (w'.cell? ⟨b, off + k * 4, none⟩ = some (.int .i64 (A k)) ∧ w'.cell? ⟨b, off + k * 4 + 1, none⟩ = some (.int .i64 (B k)) ∧ w'.cell? ⟨b, off + k * 4 + 2, none⟩ = some (.float .f32 (S k)) ∧ w'.cell? ⟨b, off + k * 4 + 3, none⟩ = some (.float .f32 (R k))) ∧
          (w'.cell? ⟨b', off' + k * 4, none⟩ = some (.int .i64 (A k)) ∧ w'.cell? ⟨b', off' + k * 4 + 1, none⟩ = some (.int .i64 (B k)) ∧ w'.cell? ⟨b', off' + k * 4 + 2, none⟩ = some (.float .f32 (S k)) ∧ w'.cell? ⟨b', off' + k * 4 + 3, none⟩ = some (.float .f32 (R k))))
        (first | exact ⟨hc, hd⟩ | exact ⟨hc.keep (by assumption), hd.keep (by assumption)⟩)
        (first | (go_at_call 75; refine (eqKnock_self _ _ _ _ _).mono ?_; rintro e w1 ⟨rfl, hb1⟩))
      have hb2 := hb.drew.trans (hb1.mono hb.size)
      clear hc hd hb1
      go_wp2
      go_roundw
      case rel => exact ⟨k + 1, by omega, by go_num, hb2⟩
      case measure => simp [intOf]; omega
    · have hkn : k = n := by omega
      subst hkn
      clear hR hR'
      go_wp2
      go_ret
      exact ⟨rfl, hb⟩

/-- Element k of both lists is the same. -/
def eqK (A B : Nat → Int) (S R : Nat → Nat) (A' B' : Nat → Int) (S' R' : Nat → Nat) (k : Nat) : Bool := (A k == A' k) && (B k == B' k) && sameB (S k) (S' k) && sameB (R k) (R' k)

set_option maxRecDepth 100000 in
set_option maxHeartbeats 800000 in
theorem sameKnocks_loop (b off n c b' off' m c' : Nat) (A B A' B' : Nat → Int) (S R S' R' : Nat → Nat) (w : World) (hn : n ≤ 1048576) (hm : m ≤ 1048576) (ao ao' : Option Addr) (hao : 0 < n → ao = some ⟨b, off, none⟩) (hao' : 0 < m → ao' = some ⟨b', off', none⟩)
    (hR : KRow w b off n A B S R) (hR' : KRow w b' off' m A' B' S' R') :
    Calls Try.prog 30 #[.slice ao n c, .slice ao' m c'] w (Quiet (.bool (sameL n m (eqK A B S R A' B' S' R'))) w) := by
  by_cases hnm : n = m
  · subst hnm
    go_enter Try.func30, Try.ntmps30
    go_wp2
    go_loopw [13] (fun i wr => ∃ k : Nat, k ≤ n ∧ i = .int .i64 k ∧ Drew w wr ∧ Hid (∀ j, j < k → eqK A B S R A' B' S' R' j = true)) (fun i _ => n - (intOf i).toNat)
    case atStart => exact ⟨0, Nat.zero_le _, rfl, Drew.refl _, fun j hj => by omega⟩
    case round =>
      obtain ⟨k, hk, rfl, hd, hall⟩ := hrel
      by_cases hlt : k < n
      · have ha := hao (by omega)
        have ha' := hao' (by omega)
        subst ha ha'
        obtain ⟨c0, c1, c2, c3⟩ := hR.drew hd k hlt
        obtain ⟨d0, d1, d2, d3⟩ := hR'.drew hd k hlt
        clear hR hR'
        have i0 : (0 : Int) ≤ (k : Int) := by omega
        have i1 : (k : Int) < (n : Int) := by omega
        cases e0 : A k == A' k
        · have e0' : (A k != A' k) = true := by simpa using e0
          have hf := Lib.hid (sameL_at (E := eqK A B S R A' B' S' R') hlt (by simp [eqK, e0]))
          go_wp2_with fail
          go_quiet (fail)
          go_wp2
          go_ret
          exact ⟨by rw [hf.out]; rfl, hd.add _⟩
        · have e0' : (A k != A' k) = false := by simpa using e0
          cases e1 : B k == B' k
          · have e1' : (B k != B' k) = true := by simpa using e1
            have hf := Lib.hid (sameL_at (E := eqK A B S R A' B' S' R') hlt (by simp [eqK, e1]))
            go_wp2_with fail
            go_quiet (fail)
            go_wp2
            go_ret
            exact ⟨by rw [hf.out]; rfl, hd.add _⟩
          · have e1' : (B k != B' k) = false := by simpa using e1
            cases e2 : sameB (S k) (S' k)
            · have hf := Lib.hid (sameL_at (E := eqK A B S R A' B' S' R') hlt (by simp [eqK, e2]))
              go_wp2_with fail
              go_quiet ((go_at_call 61; exact Calls.quiet_of (l01Same_any _ _ _)))
              go_wp2
              go_ret
              exact ⟨by rw [hf.out]; rfl, hd.add _⟩
            · cases e3 : sameB (R k) (R' k)
              · have hf := Lib.hid (sameL_at (E := eqK A B S R A' B' S' R') hlt (by simp [eqK, e3]))
                go_wp2_with fail
                go_quiet ((go_at_call 61; exact Calls.quiet_of (l01Same_any _ _ _)))
                go_wp2
                go_ret
                exact ⟨by rw [hf.out]; rfl, hd.add _⟩
              · have hf := Lib.hid (upto_succ (E := eqK A B S R A' B' S' R') hall.out (by simp [eqK, e0, e1, e2, e3]))
                go_wp2_with fail
                go_quiet ((go_at_call 61; exact Calls.quiet_of (l01Same_any _ _ _)))
                go_wp2
                go_roundw
                case rel => exact ⟨k + 1, by omega, by go_num, hd.add _, hf⟩
                case measure => simp [intOf]; omega
      · have hkn : k = n := by omega
        subst hkn
        clear hR hR'
        have hf := Lib.hid (sameL_all hall.out)
        go_wp2
        go_ret
        exact ⟨by rw [hf.out]; rfl, hd⟩
  · have hf := Lib.hid (sameL_len (E := eqK A B S R A' B' S' R') hnm)
    have hne : ((n : Int) != (m : Int)) = true := by simpa using (by omega : ¬ (n : Int) = m)
    go_enter Try.func30, Try.ntmps30
    go_wp2
    go_ret
    exact ⟨by rw [hf.out]; rfl, Drew.refl _⟩

end Go.Proofs.Ythddnjhdonnojaa
