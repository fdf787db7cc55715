/- Views: the law's walk of SameView. -/
import Derived.Test.YthddnjhdonnojaaZ
namespace Go.Proofs.Ythddnjhdonnojaa
open Go.RowKit
set_option linter.unusedVariables false
set_option linter.unusedSimpArgs false
attribute [local go_sem] run_store_float

/-- Two views lie in blocks B0 and B1; of what lay in W0 nothing has turned. -/
def L2 (W0 : World) (B0 B1 : Nat) (W H W' H' : Int) (ao ao' : Option Addr) (n c m c' : Nat) (w : World) : Prop :=
  Below W0.heap.size W0 w ∧ VCell w B0 W H ao n c ∧ VCell w B1 W' H' ao' m c'
theorem L2.keep {W0 : World} {B0 B1 : Nat} {W H W' H' : Int} {ao ao' : Option Addr} {n c m c' : Nat} {w w' : World} (h : L2 W0 B0 B1 W H W' H' ao ao' n c m c' w) (hb : Below w.heap.size w w') : L2 W0 B0 B1 W H W' H' ao ao' n c m c' w' :=
  ⟨h.1.trans (hb.mono h.1.size), h.2.1.keep hb, h.2.2.keep hb⟩

/-- .. and their copies in blocks Bx and By, with their numbers in blocks bx and by'. -/
def L4 (W0 : World) (B0 B1 Bx By bx bz : Nat) (W H W' H' : Int) (ao ao' : Option Addr) (n c m c' : Nat) (S S' : Nat → Nat) (w : World) : Prop :=
  Below W0.heap.size W0 w ∧ FRow w bx 0 n S ∧ FRow w bz 0 m S' ∧ VCell w B0 W H ao n c ∧ VCell w B1 W' H' ao' m c' ∧ VCell w Bx W H (some ⟨bx, 0, none⟩) n n ∧ VCell w By W' H' (some ⟨bz, 0, none⟩) m m
theorem L4.keep {W0 : World} {B0 B1 Bx By bx bz : Nat} {W H W' H' : Int} {ao ao' : Option Addr} {n c m c' : Nat} {S S' : Nat → Nat} {w w' : World} (h : L4 W0 B0 B1 Bx By bx bz W H W' H' ao ao' n c m c' S S' w) (hb : Below w.heap.size w w') : L4 W0 B0 B1 Bx By bx bz W H W' H' ao ao' n c m c' S S' w' :=
  ⟨h.1.trans (hb.mono h.1.size), h.2.1.keep hb, h.2.2.1.keep hb, h.2.2.2.1.keep hb, h.2.2.2.2.1.keep hb, h.2.2.2.2.2.1.keep hb, h.2.2.2.2.2.2.keep hb⟩

set_option maxRecDepth 100000 in
set_option maxHeartbeats 1600000 in
theorem sameView_law (W H W' H' : Int) (b off n c b' off' m c' : Nat) (S S' : Nat → Nat) (w : World) (hn : n ≤ 9223372036854775807) (hm : m ≤ 9223372036854775807) (ao ao' : Option Addr) (hao : 0 < n → ao = some ⟨b, off, none⟩) (hao' : 0 < m → ao' = some ⟨b', off', none⟩)
    (hR : FRow w b off n S) (hR' : FRow w b' off' m S') :
    Calls Try.prog 9 #[vw W H ao n c, vw W' H' ao' m c'] w (Ret (.bool true) w) := by
  have hL0 : L2 w w.heap.size (w.heap.size + 1) W H W' H' ao ao' n c m c' ((w.alloc (.cells #[.int .i64 W, .int .i64 H, .slice ao n c] 39)).alloc (.cells #[.int .i64 W', .int .i64 H', .slice ao' m c'] 39)) := by
    refine ⟨((Below.refl _ _).alloc (Nat.le_refl _) _).alloc (by simp) _, (VCell.new w W H ao n c 39).keep ((Below.refl _ _).alloc (Nat.le_refl _) _), ?_⟩
    have h := VCell.new (w.alloc (.cells #[.int .i64 W, .int .i64 H, .slice ao n c] 39)) W' H' ao' m c' 39
    simpa using h
  by_cases h1 : (n : Int) ≤ 1048576
  · by_cases h2 : (m : Int) ≤ 1048576 - n
    · have hn1 : n ≤ 1048576 := by omega
      have hm1 : m ≤ 1048576 := by omega
      go_enter Try.func9, Try.ntmps9
      go_wp2_with fail
      generalize ((w.alloc (.cells #[.int .i64 W, .int .i64 H, .slice ao n c] 39)).alloc (.cells #[.int .i64 W', .int .i64 H', .slice ao' m c'] 39)) = w1 at *
      refine (szView_any W H ao n c _ (by omega) (by omega) hn _).mono ?_
      rintro e w2 ⟨rfl, k2⟩
      rw [leftOf_yes h1]
      have hL2 := hL0.keep k2
      obtain ⟨hb2, ⟨u0, u1, u2⟩, ⟨v0, v1, v2⟩⟩ := hL2
      clear k2 hL0
      go_wp2_with fail
      refine (szView_any W' H' ao' m c' _ (by omega) (by omega) hm _).mono ?_
      rintro e w3 ⟨rfl, k3⟩
      rw [leftOf_yes h2]
      have hL3 := (L2.keep ⟨hb2, ⟨u0, u1, u2⟩, ⟨v0, v1, v2⟩⟩ k3).keep (below_drewN (Below.refl _ _) 1)
      clear u0 u1 u2 v0 v1 v2 hb2 k3
      go_wp2_with fail
      go_region_held3 (fun w' => Below w.heap.size w w' ∧ (w'.cell? ⟨w.heap.size, 0, none⟩ = some (.int .i64 W) ∧ w'.cell? ⟨w.heap.size, 1, none⟩ = some (.int .i64 H) ∧ w'.cell? ⟨w.heap.size, 2, none⟩ = some (.slice ao n c)) ∧
          (w'.cell? ⟨w.heap.size + 1, 0, none⟩ = some (.int .i64 W') ∧ w'.cell? ⟨w.heap.size + 1, 1, none⟩ = some (.int .i64 H') ∧ w'.cell? ⟨w.heap.size + 1, 2, none⟩ = some (.slice ao' m c')))
        (first | exact hL3 | exact L2.keep (by assumption) (by assumption))
        (first
          | (go_at_call 26; first
              | ((with_reducible refine (toView_any W H b off n c S _ hn1 ao hao (hR.keep (And.left (by assumption)))).mono ?_); rintro e wa ⟨rfl, ra, ka⟩)
              | ((with_reducible refine (toView_any W' H' b' off' m c' S' _ hm1 ao' hao' (hR'.keep (And.left (by assumption)))).mono ?_); rintro e wb ⟨rfl, rb, kb⟩))
          | (go_at_call 39; refine (sameView_spec W H W' H' _ 0 n n _ 0 m m S S' _ hn1 hm1 _ _ (fun _ => rfl) (fun _ => rfl) (ra.keep kb) rb).mono ?_; rintro e wc ⟨rfl, kc⟩))
      have hL4 : L2 w w.heap.size (w.heap.size + 1) W H W' H' ao ao' n c m c' wc := by assumption
      obtain ⟨hb4, ⟨u0, u1, u2⟩, ⟨v0, v1, v2⟩⟩ := hL4
      clear hL3 ra ka rb kb kc
      go_wp2_with fail
      refine (toView_any W H b off n c S _ hn1 ao hao (hR.keep hb4)).mono ?_
      rintro e w5 ⟨rfl, r5, k5⟩
      have hL5 := (L2.keep ⟨hb4, ⟨u0, u1, u2⟩, ⟨v0, v1, v2⟩⟩ k5).keep ((Below.refl _ _).alloc (Nat.le_refl _) (.cells #[.int .i64 W, .int .i64 H, .slice (some ⟨wc.heap.size + 3, 0, none⟩) n n] 42))
      have r5' := r5.keep ((Below.refl _ _).alloc (Nat.le_refl _) (.cells #[.int .i64 W, .int .i64 H, .slice (some ⟨wc.heap.size + 3, 0, none⟩) n n] 42))
      have x5 := VCell.new w5 W H (some ⟨wc.heap.size + 3, 0, none⟩) n n 42
      obtain ⟨hb5, ⟨u0', u1', u2'⟩, ⟨v0', v1', v2'⟩⟩ := hL5
      clear u0 u1 u2 v0 v1 v2 hb4 k5 r5
      go_wp2_with fail
      generalize w5.alloc (.cells #[.int .i64 W, .int .i64 H, .slice (some ⟨wc.heap.size + 3, 0, none⟩) n n] 42) = w6 at *
      generalize wc.heap.size + 3 = bx at *
      generalize w5.heap.size = Bx at *
      refine (toView_any W' H' b' off' m c' S' _ hm1 ao' hao' (hR'.keep hb5)).mono ?_
      rintro e w7 ⟨rfl, r7, k7⟩
      have hL7 := (L2.keep ⟨hb5, ⟨u0', u1', u2'⟩, ⟨v0', v1', v2'⟩⟩ k7)
      have x7 := x5.keep k7
      have r7x := r5'.keep k7
      have hL8 : L4 w w.heap.size (w.heap.size + 1) Bx w7.heap.size bx (w6.heap.size + 3) W H W' H' ao ao' n c m c' S S' (w7.alloc (.cells #[.int .i64 W', .int .i64 H', .slice (some ⟨w6.heap.size + 3, 0, none⟩) m m] 42)) := by
        have ha : Below w7.heap.size w7 (w7.alloc (.cells #[.int .i64 W', .int .i64 H', .slice (some ⟨w6.heap.size + 3, 0, none⟩) m m] 42)) := (Below.refl _ _).alloc (Nat.le_refl _) _
        exact ⟨hL7.1.trans (ha.mono hL7.1.size), r7x.keep ha, r7.keep ha, hL7.2.1.keep ha, hL7.2.2.keep ha, x7.keep ha, VCell.new _ _ _ _ _ _ _⟩
      clear u0' u1' u2' v0' v1' v2' hb5 k7 r5' r7 r7x x5 x7 hL7
      have hL8' := hL8
      obtain ⟨_, _, _, _, _, ⟨x0, x1, x2⟩, ⟨y0, y1, y2⟩⟩ := hL8'
      go_wp2_with fail
      generalize w7.alloc (.cells #[.int .i64 W', .int .i64 H', .slice (some ⟨w6.heap.size + 3, 0, none⟩) m m] 42) = w8 at *
      generalize w6.heap.size + 3 = bz at *
      generalize w7.heap.size = By at *
      refine (sameView_impl W H W' H' _ 0 n n _ 0 m m S S' _ hn1 hm1 _ _ (fun _ => rfl) (fun _ => rfl) hL8.2.1 hL8.2.2.1).mono ?_
      rintro e w9 ⟨rfl, k9⟩
      have hL9 := (hL8.keep k9).keep (below_drewN (Below.refl _ _) 1)
      clear x0 x1 x2 y0 y1 y2 k9 hL8
      go_wp2_with fail
      go_region_held3 (fun w' => Below w.heap.size w w' ∧ FRow w' bx 0 n S ∧ FRow w' bz 0 m S' ∧ (w'.cell? ⟨w.heap.size, 0, none⟩ = some (.int .i64 W) ∧ w'.cell? ⟨w.heap.size, 1, none⟩ = some (.int .i64 H) ∧ w'.cell? ⟨w.heap.size, 2, none⟩ = some (.slice ao n c)) ∧
          (w'.cell? ⟨w.heap.size + 1, 0, none⟩ = some (.int .i64 W') ∧ w'.cell? ⟨w.heap.size + 1, 1, none⟩ = some (.int .i64 H') ∧ w'.cell? ⟨w.heap.size + 1, 2, none⟩ = some (.slice ao' m c')) ∧
          (w'.cell? ⟨Bx, 0, none⟩ = some (.int .i64 W) ∧ w'.cell? ⟨Bx, 1, none⟩ = some (.int .i64 H) ∧ w'.cell? ⟨Bx, 2, none⟩ = some (.slice (some ⟨bx, 0, none⟩) n n)) ∧
          (w'.cell? ⟨By, 0, none⟩ = some (.int .i64 W') ∧ w'.cell? ⟨By, 1, none⟩ = some (.int .i64 H') ∧ w'.cell? ⟨By, 2, none⟩ = some (.slice (some ⟨bz, 0, none⟩) m m)))
        (first | exact hL9 | exact L4.keep (by assumption) (by assumption))
        (first
          | (go_at_call 26; refine (toView_any W H b off n c S _ hn1 ao hao (hR.keep (And.left (by assumption)))).mono ?_; rintro e wa ⟨rfl, ra, ka⟩)
          | (go_at_call 28; refine (eqView_self W H _ 0 n n _ 0 n S _ hn1 _ _ (fun _ => rfl) (fun _ => rfl) (And.left (And.right (by assumption))) ra).mono ?_; rintro e wd ⟨rfl, kd⟩))
      have hLa : L4 w w.heap.size (w.heap.size + 1) Bx By bx bz W H W' H' ao ao' n c m c' S S' wd := by assumption
      have hLb := hLa.keep (below_drewN (Below.refl _ _) 1)
      clear hL9 hLa ra ka kd
      go_wp2_with fail
      go_region_held3 (fun w' => Below w.heap.size w w' ∧ FRow w' bx 0 n S ∧ FRow w' bz 0 m S' ∧ (w'.cell? ⟨w.heap.size, 0, none⟩ = some (.int .i64 W) ∧ w'.cell? ⟨w.heap.size, 1, none⟩ = some (.int .i64 H) ∧ w'.cell? ⟨w.heap.size, 2, none⟩ = some (.slice ao n c)) ∧
          (w'.cell? ⟨w.heap.size + 1, 0, none⟩ = some (.int .i64 W') ∧ w'.cell? ⟨w.heap.size + 1, 1, none⟩ = some (.int .i64 H') ∧ w'.cell? ⟨w.heap.size + 1, 2, none⟩ = some (.slice ao' m c')) ∧
          (w'.cell? ⟨Bx, 0, none⟩ = some (.int .i64 W) ∧ w'.cell? ⟨Bx, 1, none⟩ = some (.int .i64 H) ∧ w'.cell? ⟨Bx, 2, none⟩ = some (.slice (some ⟨bx, 0, none⟩) n n)) ∧
          (w'.cell? ⟨By, 0, none⟩ = some (.int .i64 W') ∧ w'.cell? ⟨By, 1, none⟩ = some (.int .i64 H') ∧ w'.cell? ⟨By, 2, none⟩ = some (.slice (some ⟨bz, 0, none⟩) m m)))
        (first | exact hLb | exact L4.keep (by assumption) (by assumption))
        (first
          | (go_at_call 26; refine (toView_any W' H' b' off' m c' S' _ hm1 ao' hao' (hR'.keep (And.left (by assumption)))).mono ?_; rintro e wf ⟨rfl, rf, kf⟩)
          | (go_at_call 28; refine (eqView_self W' H' _ 0 m m _ 0 m S' _ hm1 _ _ (fun _ => rfl) (fun _ => rfl) (And.left (And.right (And.right (by assumption)))) rf).mono ?_; rintro e wg ⟨rfl, kg⟩))
      have hLc : L4 w w.heap.size (w.heap.size + 1) Bx By bx bz W H W' H' ao ao' n c m c' S S' wg := by assumption
      have hBc := hLc.1
      clear hLb hLc rf kf kg
      go_wp2
      go_ret
      exact ⟨rfl, hBc⟩
    · have h2' : 1048576 - (n : Int) < (m : Int) := by omega
      go_enter Try.func9, Try.ntmps9
      go_wp2_with fail
      refine (szView_any W H ao n c _ (by omega) (by omega) hn _).mono ?_
      rintro e w2 ⟨rfl, k2⟩
      rw [leftOf_yes h1]
      have hL2 := hL0.keep k2
      obtain ⟨hb2, ⟨u0, u1, u2⟩, ⟨v0, v1, v2⟩⟩ := hL2
      clear k2 hL0
      go_wp2_with fail
      refine (szView_any W' H' ao' m c' _ (by omega) (by omega) hm _).mono ?_
      rintro e w3 ⟨rfl, k3⟩
      rw [leftOf_no h2']
      have hb3 := hb2.trans (k3.mono hb2.size)
      clear u0 u1 u2 v0 v1 v2 hb2 k3
      go_wp2
      go_ret
      exact ⟨rfl, hb3⟩
  · have h1' : 1048576 < (n : Int) := by omega
    go_enter Try.func9, Try.ntmps9
    go_wp2_with fail
    refine (szView_any W H ao n c _ (by omega) (by omega) hn _).mono ?_
    rintro e w2 ⟨rfl, k2⟩
    rw [leftOf_no h1']
    have hB2 := (hL0.keep k2).1
    clear k2 hL0
    go_wp2
    go_ret
    exact ⟨rfl, hB2⟩
end Go.Proofs.Ythddnjhdonnojaa
