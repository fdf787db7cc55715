/- VoidsOf: the law's walk. -/
import Derived.Test.YthddnjhdonnojaaVt
namespace Go.Proofs.Ythddnjhdonnojaa
open Go.RowKit
set_option linter.unusedVariables false
set_option linter.unusedSimpArgs false

/-- What the law keeps while it runs. -/
def LW (W0 : World) (B0 Bx bx : Nat) (W H : Int) (ao : Option Addr) (n c : Nat) (S : Nat → Nat) (m g1 : Nat) (G1 : Nat → Int) (g2 : Nat) (G2 : Nat → Int) (w : World) : Prop :=
  Below W0.heap.size W0 w ∧ FInv bx n n S w ∧ VCell w B0 W H ao n c ∧ VCell w Bx W H (some ⟨bx, 0, none⟩) n n ∧ (0 < m → IRow w g1 m G1) ∧ (0 < m → IRow w g2 m G2)
theorem FInv.below {B0 n : Nat} {S : Nat → Nat} {w w' : World} (h : FInv B0 n n S w) (hb : Below w.heap.size w w') : FInv B0 n n S w' := by
  obtain ⟨g, hg, h⟩ := h
  exact ⟨g, hg.of_block (hb.block _ hg.lt), h⟩
theorem LW.keep {W0 : World} {B0 Bx bx : Nat} {W H : Int} {ao : Option Addr} {n c : Nat} {S : Nat → Nat} {m g1 : Nat} {G1 : Nat → Int} {g2 : Nat} {G2 : Nat → Int} {w w' : World} (h : LW W0 B0 Bx bx W H ao n c S m g1 G1 g2 G2 w) (hb : Below w.heap.size w w') : LW W0 B0 Bx bx W H ao n c S m g1 G1 g2 G2 w' :=
  ⟨h.1.trans (hb.mono h.1.size), h.2.1.below hb, h.2.2.1.keep hb, h.2.2.2.1.keep hb, fun h0 => (h.2.2.2.2.1 h0).keep hb, fun h0 => (h.2.2.2.2.2 h0).keep hb⟩
theorem VCell.far {w w' : World} {B g : Nat} {W H : Int} {ao : Option Addr} {n c : Nat} (h : VCell w B W H ao n c) (hf : Far g w w') (hne : B ≠ g) : VCell w' B W H ao n c := by
  obtain ⟨h0, h1, h2⟩ := h
  have l : B < w.heap.size := World.block_lt_of_cell? w _ h0
  have e : ∀ o, w'.cell? ⟨B, o, none⟩ = w.cell? ⟨B, o, none⟩ := fun o => World.cell?_of_block (a := ⟨B, o, none⟩) (hf.2 B hne l)
  exact ⟨(e 0).trans h0, (e 1).trans h1, (e 2).trans h2⟩

set_option maxRecDepth 100000 in
set_option maxHeartbeats 4000000 in
theorem voidsOf_law (W H : Int) (b off n c L : Nat) (S : Nat → Nat) (w : World) (hn : n ≤ 9223372036854775807) (ao : Option Addr) (hao : 0 < n → ao = some ⟨b, off, none⟩) (hR : FRow w b off n S) :
    Calls Try.prog 12 #[vw W H ao n c, .float .f32 L] w (Ret (.bool true) w) := by
  have hB0 : Below w.heap.size w (w.alloc (.cells #[.int .i64 W, .int .i64 H, .slice ao n c] 39)) := (Below.refl _ _).alloc (Nat.le_refl _) _
  have hV0 := VCell.new w W H ao n c 39
  by_cases h1 : (n : Int) ≤ 1048576
  · have hm : vM W H n S ≤ 1048576 := by unfold vM; split <;> omega
    generalize hvm : vM W H n S = m at *
    go_enter Try.func12, Try.ntmps12
    go_wp2_with fail
    generalize w.alloc (.cells #[.int .i64 W, .int .i64 H, .slice ao n c] 39) = w1 at *
    refine (szView_any W H ao n c _ (by omega) (by omega) hn _).mono ?_
    rintro e w2 ⟨rfl, k2⟩
    rw [leftOf_yes h1]
    have hB2 := hB0.trans (k2.mono hB0.size)
    have hV2 := hV0.keep k2
    obtain ⟨u0, u1, u2⟩ := hV2
    go_wp2_with fail
    refine (toView_any W H b off n c S _ (by omega) ao hao (hR.keep hB2)).mono ?_
    rintro e w3 ⟨rfl, r3, k3⟩
    have hB3 := hB2.trans (k3.mono hB2.size)
    have hV3 := VCell.keep ⟨u0, u1, u2⟩ k3
    clear u0 u1 u2
    go_wp2_with fail
    refine (voidsOf_spec_all W H _ 0 n n L S _ (by omega) _ (fun _ => rfl) r3).mono ?_
    rintro e w4 ⟨ao1, c1, g1, rfl, hao1, hI1, hg1, k4⟩
    rw [hvm] at hao1 hI1 ⊢
    have hB4 := hB3.trans (k4.mono hB3.size)
    have hV4 := hV3.keep k4
    have hl1 : 0 < m → g1 < w4.heap.size := fun h => (hI1 h).lt
    have hg1' : w.heap.size ≤ g1 := Nat.le_trans hB3.size hg1
    obtain ⟨u0, u1, u2⟩ := hV4
    clear r3 k2 k3 k4 hV3 hB2 hB3 hg1
    go_wp2_with fail
    refine (toView_row W H b off n c S _ (by omega) ao hao (hR.keep hB4)).mono ?_
    rintro e w5 ⟨rfl, r5, k5⟩
    have hB5 := hB4.trans (k5.mono hB4.size)
    have hV5 := VCell.keep ⟨u0, u1, u2⟩ k5
    have hI5 : 0 < m → IRow w5 g1 m (vG W n L S) := fun h => (hI1 h).keep k5
    have hw45 := k5.size
    clear u0 u1 u2 k5 hI1
    have hbx : w4.heap.size + 3 < w5.heap.size := by obtain ⟨gg, hg, _⟩ := r5; exact hg.lt
    have hBw : w1.heap.size ≤ w1.heap.size := Nat.le_refl _
    have hba : Below w5.heap.size w5 (w5.alloc (.cells #[.int .i64 W, .int .i64 H, .slice (some ⟨w4.heap.size + 3, 0, none⟩) n n] 42)) := (Below.refl _ _).alloc (Nat.le_refl _) _
    have hVx := VCell.new w5 W H (some ⟨w4.heap.size + 3, 0, none⟩) n n 42
    have hB6 := hB5.trans (hba.mono hB5.size)
    have r6 := r5.below hba
    have hV6 := hV5.keep hba
    have hI6 : 0 < m → IRow (w5.alloc (.cells #[.int .i64 W, .int .i64 H, .slice (some ⟨w4.heap.size + 3, 0, none⟩) n n] 42)) g1 m (vG W n L S) := fun h => (hI5 h).keep hba
    have hs6 : (w5.alloc (.cells #[.int .i64 W, .int .i64 H, .slice (some ⟨w4.heap.size + 3, 0, none⟩) n n] 42)).heap.size = w5.heap.size + 1 := by simp
    have hw4 := hB4.size
    clear r5 hV5 hI5 hba hB5
    go_wp2_with fail
    generalize w5.alloc (.cells #[.int .i64 W, .int .i64 H, .slice (some ⟨w4.heap.size + 3, 0, none⟩) n n] 42) = w6 at *
    generalize hbxe : w4.heap.size + 3 = bx at *
    generalize hBxe : w5.heap.size = Bx at *
    refine (voidsOf_impl_all W H _ 0 n n L S _ (by omega) _ (fun _ => rfl) r6.row).mono ?_
    rintro e w7 ⟨ao2, c2, g2, rfl, hao2, hI2, hg2, k7⟩
    rw [hvm] at hao2 hI2 ⊢
    have hL7 : LW w w.heap.size Bx bx W H ao n c S m g1 (vG W n L S) g2 (vG W n L S) w7 := ⟨hB6.trans (k7.mono hB6.size), r6.below k7, hV6.keep k7, hVx.keep k7, fun h => (hI6 h).keep k7, hI2⟩
    clear hI2 k7 r6 hV6 hVx hI6 hB6
    go_wp2_with (go_at_call 51; refine (eqInts_any m g2 g1 c2 c1 _ _ hm ao2 ao1 hao2 hao1 hL7.2.2.2.2.2 hL7.2.2.2.2.1).mono ?_; rintro e w7a ⟨rfl, q7, rfl⟩)
    have hL8 := (hL7.keep (below_drewN (Below.refl _ _) q7)).keep (below_drewN (Below.refl _ _) 1)
    have hg12 : 0 < m → g1 < g2 := fun h => by have := hl1 h; omega
    have hg2x : bx < g2 := by omega
    clear hL7
    generalize w7.drewN q7 = w7b at *
    go_region_held3 (fun w' => Below w.heap.size w w' ∧ FInv bx n n S w' ∧ (w'.cell? ⟨w.heap.size, 0, none⟩ = some (.int .i64 W) ∧ w'.cell? ⟨w.heap.size, 1, none⟩ = some (.int .i64 H) ∧ w'.cell? ⟨w.heap.size, 2, none⟩ = some (.slice ao n c)) ∧
        (w'.cell? ⟨Bx, 0, none⟩ = some (.int .i64 W) ∧ w'.cell? ⟨Bx, 1, none⟩ = some (.int .i64 H) ∧ w'.cell? ⟨Bx, 2, none⟩ = some (.slice (some ⟨bx, 0, none⟩) n n)) ∧ (0 < m → IRow w' g1 m (vG W n L S)) ∧ (0 < m → IRow w' g2 m (vG W n L S)))
      (first | exact hL8 | exact LW.keep (by assumption) (by assumption))
      (first
        | (go_at_call 26; refine (toView_any W H b off n c S _ (by omega) ao hao (hR.keep (And.left (by assumption)))).mono ?_; rintro e w8 ⟨rfl, r8, k8⟩)
        | (go_at_call 28; refine (eqView_self W H _ 0 n n _ 0 n S _ (by omega) _ _ (fun _ => rfl) (fun _ => rfl) (FInv.row (And.left (And.right (by assumption)))) r8).mono ?_; rintro e w9 ⟨rfl, k9⟩))
    have hL9 : LW w w.heap.size Bx bx W H ao n c S m g1 (vG W n L S) g2 (vG W n L S) w9 := by assumption
    clear hL8 r8 k8 k9
    obtain ⟨gf, hgf, _⟩ := hL9.2.1
    have hG9 := GRow.of_rowIs hgf
    clear hgf
    go_wp2_with fail
    refine (markView_any W H bx n n _ _ (by omega) hG9).mono ?_
    rintro e w10 ⟨rfl, hf10, hb10⟩
    have hB10 : Below w.heap.size w w10 := hL9.1.trans (hb10.mono (by omega))
    have hV10 := hL9.2.2.1.far hf10 (by omega)
    have hI1 : 0 < m → IRow w10 g1 m (vG W n L S) := fun h => (hL9.2.2.2.2.1 h).of_block (hf10.2 g1 (by have := hl1 h; omega) (hL9.2.2.2.2.1 h).lt)
    have hI2 : 0 < m → IRow w10 g2 m (vG W n L S) := fun h => (hL9.2.2.2.2.2 h).of_block (hf10.2 g2 (by omega) (hL9.2.2.2.2.2 h).lt)
    clear hL9 hf10 hb10 hG9
    go_wp2_with (go_at_call 51; refine (eqInts_any m g2 g1 c2 c1 _ _ hm ao2 ao1 hao2 hao1 hI2 hI1).mono ?_; rintro e w7a ⟨rfl, q8, rfl⟩)
    refine (markInts_all m g2 c2 (vG W n L S) (w10.drewN q8) hm ao2 hao2 (fun h => (hI2 h).drew ⟨q8, rfl⟩)).mono ?_
    rintro e w11 ⟨rfl, hI3, hf11, hb11⟩
    have hB11 : Below w.heap.size w w11 := (below_drewN hB10 q8).trans (hb11.mono (by omega))
    have hV11 := VCell.far (hV10.drew ⟨q8, rfl⟩) hf11 (by omega)
    have hI4 : 0 < m → IRow w11 g1 m (vG W n L S) := fun h => ((hI1 h).drew ⟨q8, rfl⟩).of_block (hf11.2 g1 (by have := hg12 h; omega) ((hI1 h).drew ⟨q8, rfl⟩).lt)
    clear hI1 hI2 hf11 hb11 hB10 hV10
    obtain ⟨u0, u1, u2⟩ := hV11
    go_wp2_with (go_at_call 54; refine (heldInts_all m g2 c2 _ hm ao2 hao2 hI3).mono ?_; rintro e w7a ⟨rfl, q9, rfl⟩)
    refine (toView_any W H b off n c S _ (by omega) ao hao (hR.keep (below_drewN hB11 _))).mono ?_
    rintro e w12 ⟨rfl, r12, k12⟩
    have hB12 : Below w.heap.size w w12 := (below_drewN hB11 q9).trans (k12.mono hB11.size)
    have hI5 : 0 < m → IRow w12 g1 m (vG W n L S) := fun h => ((hI4 h).drew ⟨q9, rfl⟩).keep k12
    have hI6 : 0 < m → IRow w12 g2 m (fun i => (i : Int) + 1) := fun h => ((hI3 h).drew ⟨q9, rfl⟩).keep k12
    clear hI3 hI4 hB11 k12 u0 u1 u2
    go_wp2_with fail
    refine (voidsOf_impl_all W H _ 0 n n L S _ (by omega) _ (fun _ => rfl) r12).mono ?_
    rintro e w13 ⟨ao3, c3, g3, rfl, hao3, hI7, hg3, k13⟩
    rw [hvm] at hao3 hI7 ⊢
    have hB13 : Below w.heap.size w w13 := hB12.trans (k13.mono hB12.size)
    have hI8 : 0 < m → IRow w13 g1 m (vG W n L S) := fun h => (hI5 h).keep k13
    have hI9 : 0 < m → IRow w13 g2 m (fun i => (i : Int) + 1) := fun h => (hI6 h).keep k13
    clear hI5 hI6 k13 r12 hB12
    go_wp2_with (first | (go_at_call 51; refine (eqInts_any m g3 g1 c3 c1 _ _ hm ao3 ao1 hao3 hao1 hI7 hI8).mono ?_; rintro e w7a ⟨rfl, q10, rfl⟩) | (go_at_call 54; refine (heldInts_all m g2 c2 _ hm ao2 hao2 (fun h => (hI9 h).drew ⟨_, rfl⟩)).mono ?_; rintro e w7a ⟨rfl, q11, rfl⟩))
    go_ret
    exact ⟨rfl, below_drewN hB13 _⟩
  · have h1' : 1048576 < (n : Int) := by omega
    go_enter Try.func12, Try.ntmps12
    go_wp2_with fail
    refine (szView_any W H ao n c _ (by omega) (by omega) hn _).mono ?_
    rintro e w2 ⟨rfl, k2⟩
    rw [leftOf_no h1']
    have hB2 := hB0.trans (k2.mono hB0.size)
    clear k2
    go_wp2
    go_ret
    exact ⟨rfl, hB2⟩
end Go.Proofs.Ythddnjhdonnojaa
