/- VoidsOf: what the law's walk takes: of any view. -/
import Derived.Test.YthddnjhdonnojaaVs
import Derived.Test.YthddnjhdonnojaaVi
import Derived.Test.YthddnjhdonnojaaY
namespace Go.Proofs.Ythddnjhdonnojaa
open Go.RowKit
set_option linter.unusedVariables false
set_option linter.unusedSimpArgs false
attribute [local go_sem] run_store_float

theorem eqInts_any (m g g' c c' : Nat) (G : Nat → Int) (w : World) (hm : m ≤ 1048576) (ao ao' : Option Addr) (hao : 0 < m → ao = some ⟨g, 0, none⟩) (hao' : 0 < m → ao' = some ⟨g', 0, none⟩) (hR : 0 < m → IRow w g m G) (hR' : 0 < m → IRow w g' m G) :
    Calls Try.prog 51 #[.slice ao m c, .slice ao' m c'] w (Quiet (.bool true) w) := by
  by_cases h0 : m = 0
  · subst h0
    clear hR hR' hao hao'
    go_enter Try.func51, Try.ntmps51
    go_wp2
    refine wp_loop_rounds 1 ?_
    rw [rounds_succ]
    go_wp2
    go_ret
    exact ⟨rfl, 0, rfl⟩
  · rw [hao (by omega), hao' (by omega)]
    exact eqInts_self g g' m c c' G w hm (hR (by omega)) (hR' (by omega))

theorem markInts_all (m g c : Nat) (G : Nat → Int) (w : World) (hm : m ≤ 1048576) (ao : Option Addr) (hao : 0 < m → ao = some ⟨g, 0, none⟩) (hR : 0 < m → IRow w g m G) :
    Calls Try.prog 53 #[.slice ao m c, .int .i64 1] w fun e w' => e = .returned (.int .i64 ((m : Int) + 1)) ∧ (0 < m → IRow w' g m (fun i => (i : Int) + 1)) ∧ Far g w w' ∧ Below g w w' := by
  by_cases h0 : m = 0
  · subst h0
    clear hR hao
    go_enter Try.func53, Try.ntmps53
    go_wp2
    refine wp_loop_rounds 1 ?_
    rw [rounds_succ]
    go_wp2
    go_ret
    exact ⟨rfl, fun h => by omega, ⟨Nat.le_refl _, fun _ _ _ => rfl⟩, Below.refl _ _⟩
  · rw [hao (by omega)]
    exact (markInts_any g m c G w hm (hR (by omega))).mono fun e w' ⟨h1, h2, h3, h4⟩ => ⟨h1, fun _ => h2, h3, h4⟩

theorem heldInts_all (m g c : Nat) (w : World) (hm : m ≤ 1048576) (ao : Option Addr) (hao : 0 < m → ao = some ⟨g, 0, none⟩) (hR : 0 < m → IRow w g m (fun i => (i : Int) + 1)) :
    Calls Try.prog 54 #[.slice ao m c, .int .i64 1] w (Quiet (.int .i64 ((m : Int) + 1)) w) := by
  by_cases h0 : m = 0
  · subst h0
    clear hR hao
    go_enter Try.func54, Try.ntmps54
    go_wp2
    refine wp_loop_rounds 1 ?_
    rw [rounds_succ]
    go_wp2
    go_ret
    exact ⟨rfl, 0, rfl⟩
  · rw [hao (by omega)]
    exact heldInts_any g m c w hm (hR (by omega))

/-- What the two return, of any view. -/
def vM (W H : Int) (n : Nat) (S : Nat → Nat) : Nat := if viewB W H n S = true then n else 0
def vC (W H : Int) (n L : Nat) (S : Nat → Nat) : Nat := if viewB W H n S = true then Vd.cnt (selB S L) (Vd.labs (Vd.sides W.toNat (selB S L) n)) n else 0
def vG (W : Int) (n L : Nat) (S : Nat → Nat) (j : Nat) : Int := outAt (selB S L) (Vd.labs (Vd.sides W.toNat (selB S L) n)) j

def VOut (W H : Int) (n L : Nat) (S : Nat → Nat) (w : World) (e : Ending) (w' : World) : Prop :=
  ∃ ao cap g, e = .returned (.tuple #[.slice ao (vM W H n S) cap, .int .i64 ((vC W H n L S : Nat) : Int), .bool (viewB W H n S)]) ∧ (0 < vM W H n S → ao = some ⟨g, 0, none⟩) ∧ (0 < vM W H n S → IRow w' g (vM W H n S) (vG W n L S)) ∧ w.heap.size ≤ g ∧ Below w.heap.size w w'

theorem vOut_no {W H : Int} {n L : Nat} {S : Nat → Nat} {w w' : World} (hv : viewB W H n S = false) (hb : Below w.heap.size w w') : VOut W H n L S w (.returned (.tuple #[.slice none 0 0, .int .i64 0, .bool false])) w' := by
  have h1 : vM W H n S = 0 := by simp [vM, hv]
  have h2 : vC W H n L S = 0 := by simp [vC, hv]
  refine ⟨none, 0, w.heap.size, by rw [h1, h2, hv]; rfl, fun h => by omega, fun h => by omega, Nat.le_refl _, hb⟩

theorem voidsOf_spec_all (W H : Int) (b off n c L : Nat) (S : Nat → Nat) (w : World) (hn : n ≤ 1048576) (ao : Option Addr) (hao : 0 < n → ao = some ⟨b, off, none⟩) (hR : FRow w b off n S) :
    Calls Try.prog 49 #[vw W H ao n c, .float .f32 L] w (VOut W H n L S w) := by
  cases hv : viewB W H n S
  · have hB : Below w.heap.size w (w.alloc (.cells #[.int .i64 W, .int .i64 H, .slice ao n c] 42)) := (Below.refl _ _).alloc (Nat.le_refl _) _
    have hV0 := VCell.new w W H ao n c 42
    have hR1 := hR.keep hB
    go_enter Try.func49, Try.ntmps49
    go_wp2_with fail
    refine (l06View_any _ W H b off n c S _ hn ao hao hR1 hV0).mono ?_
    rintro e w1 ⟨rfl, q, rfl⟩
    rw [hv]
    clear hR hR1 hV0
    go_wp2
    go_ret3
    exact vOut_no hv (below_drewN hB _)
  · refine (voidsOf_spec W H b off n c L S w hn ao hao hR hv).mono ?_
    rintro e w' ⟨g, cap, rfl, hI, hg, hb⟩
    have h1 : vM W H n S = n := by simp [vM, hv]
    have h2 : vC W H n L S = Vd.cnt (selB S L) (Vd.labs (Vd.sides W.toNat (selB S L) n)) n := by simp [vC, hv]
    exact ⟨some ⟨g, 0, none⟩, cap, g, by rw [h1, h2, hv], fun _ => rfl, fun _ => by rw [h1]; exact hI.congr fun j hj => congrArg (Value.int .i64) (Vd.outer_end (sel := selB S L) (Vd.labs (Vd.sides W.toNat (selB S L) n)) hj), hg, hb⟩

theorem voidsOf_impl_all (W H : Int) (b off n c L : Nat) (S : Nat → Nat) (w : World) (hn : n ≤ 1048576) (ao : Option Addr) (hao : 0 < n → ao = some ⟨b, off, none⟩) (hR : FRow w b off n S) :
    Calls Try.prog 50 #[vw W H ao n c, .float .f32 L] w (VOut W H n L S w) := by
  cases hv : viewB W H n S
  · have hB : Below w.heap.size w ((w.alloc (.cells #[.int .i64 W, .int .i64 H, .slice ao n c] 42)).alloc (.cells #[.float .f32 L] 22)) := ((Below.refl _ _).alloc (Nat.le_refl _) _).alloc (by simp) _
    have hR1 := hR.keep hB
    go_enter Try.func50, Try.ntmps50
    go_wp2_with fail
    refine (validView_impl W H b off n c S _ hn ao hao hR1).mono ?_
    rintro e w1 ⟨rfl, k1⟩
    rw [hv]
    have hB1 := hB.trans (k1.mono hB.size)
    clear hR hR1 k1
    go_wp2
    go_ret3
    exact vOut_no hv hB1
  · refine (voidsOf_impl W H b off n c L S w hn ao hao hR hv).mono ?_
    rintro e w' ⟨v, rfl, ho, hb⟩
    have n0 := (viewB_bounds hv).1
    obtain ⟨g, cap, rfl, hg, hr⟩ := own_shape ho (by omega)
    have h1 : vM W H n S = n := by simp [vM, hv]
    have h2 : vC W H n L S = Vd.cnt (selB S L) (Vd.labs (Vd.sides W.toNat (selB S L) n)) n := by simp [vC, hv]
    exact ⟨some ⟨g, 0, none⟩, cap, g, by rw [h1, h2, hv], fun _ => rfl, fun _ => by rw [h1]; exact hr.congr fun j hj => (by simp [outList, List.getD, hj, vG]), hg, hb⟩

set_option maxRecDepth 100000 in
theorem toFloats_row (b off n c : Nat) (S : Nat → Nat) (w : World) (hn : n ≤ 1048576) (ao : Option Addr) (hao : 0 < n → ao = some ⟨b, off, none⟩) (hR : FRow w b off n S) :
    Calls Try.prog 56 #[.slice ao n c] w fun e w' => e = .returned (.slice (some ⟨w.heap.size, 0, none⟩) n n) ∧ FInv w.heap.size n n S w' ∧ Below w.heap.size w w' := by
  have hmk := make22 n hn
  go_enter Try.func56, Try.ntmps56
  go_wp2
  go_loopw [4] (fun i wr => ∃ k : Nat, k ≤ n ∧ i = .int .i64 k ∧ Below w.heap.size w wr ∧ FInv w.heap.size n k S wr) (fun i _ => n - (intOf i).toNat)
  case atStart => exact ⟨0, Nat.zero_le _, rfl, (Below.refl _ _).alloc (Nat.le_refl _) _, FInv.start _ _ _⟩
  case round =>
    obtain ⟨k, hk, rfl, hb, hinv⟩ := hrel
    by_cases hlt : k < n
    · have ha := hao (by omega)
      subst ha
      have c0 := hR.keep hb k hlt
      obtain ⟨⟨x0, d0⟩, f0⟩ := hinv.cells hlt
      clear hR hmk
      go_wp2
      go_roundw
      case rel => exact ⟨k + 1, by omega, by go_num, hb.setCell (Nat.le_refl _) _, hinv.step⟩
      case measure => simp [intOf]; omega
    · have hkn : k = n := by omega
      subst hkn
      clear hR hmk
      go_wp2
      go_ret
      exact ⟨rfl, hinv, hb⟩

theorem FInv.other {B0 n : Nat} {S : Nat → Nat} {w : World} (h : FInv B0 n n S w) {p : Addr} (hp : p.block ≠ B0) (u : Value) : FInv B0 n n S (w.setCell p u) := by
  obtain ⟨g, hg, h⟩ := h
  exact ⟨g, hg.setOther (fun e => hp e.symm) u, h⟩

set_option maxRecDepth 100000 in
theorem toView_row (W H : Int) (b off n c : Nat) (S : Nat → Nat) (w : World) (hn : n ≤ 1048576) (ao : Option Addr) (hao : 0 < n → ao = some ⟨b, off, none⟩) (hR : FRow w b off n S) :
    Calls Try.prog 26 #[vw W H ao n c] w fun e w' => e = .returned (vw W H (some ⟨w.heap.size + 3, 0, none⟩) n n) ∧ FInv (w.heap.size + 3) n n S w' ∧ Below w.heap.size w w' := by
  go_enter Try.func26, Try.ntmps26
  have hR3 := hR.keep ((((Below.refl w.heap.size w).alloc (Nat.le_refl _) (.cells #[.int .i64 W, .int .i64 H, .slice ao n c] 39)).alloc (by simp) (.cells #[.int .i64 0, .int .i64 0, .slice none 0 0] 42)).alloc (by simp; omega) (.cells #[.int .i64 W, .int .i64 H, .slice none 0 0] 42))
  have hB3 := ((((Below.refl w.heap.size w).alloc (Nat.le_refl _) (.cells #[.int .i64 W, .int .i64 H, .slice ao n c] 39)).alloc (by simp) (.cells #[.int .i64 0, .int .i64 0, .slice none 0 0] 42)).alloc (by simp; omega) (.cells #[.int .i64 W, .int .i64 H, .slice none 0 0] 42))
  go_wp2_with fail
  refine (toFloats_row b off n c S _ hn ao hao hR3).mono ?_
  rintro e w1 ⟨rfl, r1, k1⟩
  have hB := hB3.trans (k1.mono hB3.size)
  obtain ⟨hc, hf⟩ := bcell k1
  have hz : w.heap.size + 1 + 1 < w1.heap.size := by have := k1.size; simp at this; omega
  clear hR hR3 hB3 k1
  go_wp2
  have r2 : FInv (w.heap.size + 3) n n S w1 := by simpa [Nat.add_assoc] using r1
  exact bodyPost_ret (v := vw W H (some ⟨w.heap.size + 3, 0, none⟩) n n) (by simp [results, Try.results26, go_sem, hc, hz, Nat.add_assoc]) rfl
    ⟨rfl, (((r2.other (by simp) _).other (by simp) _).other (by simp) _).other (by simp) _, (((hB.setCell (by simp; omega) _).setCell (by simp) _).setCell (by simp) _).setCell (by simp) _⟩
end Go.Proofs.Ythddnjhdonnojaa
