/- The program's VoidsOf. -/
import Derived.Test.YthddnjhdonnojaaVg
import Derived.Test.YthddnjhdonnojaaMean
namespace Go.Proofs.Ythddnjhdonnojaa
open Go.RowKit Go.Maps
set_option linter.unusedVariables false
set_option linter.unusedSimpArgs false

/-- Pairs as cells. -/
def pvals (es : List (Nat × Nat)) : List Value := es.flatMap fun e => [.int .i64 (e.1 : Int), .int .i64 (e.2 : Int)]
theorem pvals_len (es : List (Nat × Nat)) : (pvals es).length = es.length * 2 := by
  induction es with
  | nil => rfl
  | cons e l ih => simp only [pvals, List.flatMap_cons, List.length_append, List.length_cons, List.length_nil] at ih ⊢; omega
theorem pvals_snoc (es : List (Nat × Nat)) (a b : Nat) : pvals (es ++ [(a, b)]) = pvals es ++ [.int .i64 (a : Int), .int .i64 (b : Int)] := by simp [pvals]
theorem pvals_at (es : List (Nat × Nat)) : ∀ j, j < es.length → (pvals es)[j * 2]? = some (.int .i64 ((es.getD j (0, 0)).1 : Int)) ∧ (pvals es)[j * 2 + 1]? = some (.int .i64 ((es.getD j (0, 0)).2 : Int)) := by
  induction es with
  | nil => intro j hj; simp at hj
  | cons e l ih =>
    intro j hj
    have hc : pvals (e :: l) = .int .i64 (e.1 : Int) :: .int .i64 (e.2 : Int) :: pvals l := rfl
    rw [hc]
    cases j with
    | zero => exact ⟨rfl, rfl⟩
    | succ j =>
      have e1 : (j + 1) * 2 = j * 2 + 1 + 1 := by omega
      have := ih j (by simpa using hj)
      rw [e1]
      simpa [List.getD] using this

theorem prow_of {w : World} {base n g cap : Nat} {t : TypeId} {es : List (Nat × Nat)} (h : w.ownsRow base t 2 (.slice (some ⟨g, 0, none⟩) n cap) n (pvals es)) : PRow w g es := by
  intro j hj
  obtain ⟨h1, h2⟩ := pvals_at es j hj
  have c1 := h.cells (g := g) rfl _ _ h1
  have c2 := h.cells (g := g) rfl _ _ h2
  have hadd : ∀ k, (⟨g, 0, none⟩ : Addr).add k = ⟨g, k, none⟩ := by intro k; unfold Addr.add; split <;> simp_all
  rw [hadd] at c1 c2
  exact ⟨c1, c2⟩

theorem info121 : (Try.prog.info? 121).map (fun i => (i.zero, i.size, i.bytes)) = some (some (.agg #[.int .i64 0, .int .i64 0]), 2, 16) := by kernel_rfl

/-- What the two return, cell by cell. -/
def outAt (sel : Nat → Bool) (f : Nat → Nat) (j : Nat) : Int := if sel j = true then ((Vd.num sel f j : Nat) : Int) else -1
def outList (sel : Nat → Bool) (f : Nat → Nat) (i : Nat) : List Value := (List.range i).map fun j => .int .i64 (outAt sel f j)
theorem outList_succ (sel : Nat → Bool) (f : Nat → Nat) (i : Nat) : outList sel f (i + 1) = outList sel f i ++ [.int .i64 (outAt sel f i)] := by
  simp [outList, List.range_succ]

theorem below_at (j : Nat) {x : Int} (hx : x = (j : Int)) (Bv Bl : Nat) (W H : Int) (b off n c L : Nat) (S : Nat → Nat) (w : World) (hk : j < n) (hV : VCell w Bv W H (some ⟨b, off, none⟩) n c) (hL : w.cell? ⟨Bl, 0, none⟩ = some (.float .f32 L)) (hR : FRow w b off n S) :
    Calls Try.prog 92 #[.int .i64 x, .pointer (some ⟨Bv, 0, none⟩), .pointer (some ⟨Bl, 0, none⟩)] w (Quiet (.bool (selB S L j)) w) := by
  subst hx
  exact below_any Bv Bl W H b off n c L j S w hk hV hL hR

/-- The list of sides as groupsOf takes it. -/
theorem own_list {w : World} {base : Nat} {t : TypeId} {v : Value} {es : List (Nat × Nat)} (h : w.ownsRow base t 2 v es.length (pvals es)) :
    ∃ ao be c', v = .slice ao es.length c' ∧ (0 < es.length → ao = some ⟨be, 0, none⟩) ∧ (be < w.heap.size ∨ es.length = 0) ∧ PRow w be es := by
  have hh := h
  rcases h.2 with ⟨rfl, h0⟩ | ⟨g, cap, cur, rfl, _, hg, _⟩
  · refine ⟨none, 0, 0, by rw [h0], fun hc => by omega, .inr h0, fun j hj => by omega⟩
  · exact ⟨_, g, cap, rfl, fun _ => rfl, .inl (Array.getElem?_eq_some_iff.1 hg).1, prow_of hh⟩
theorem own_shape {w : World} {base n : Nat} {t : TypeId} {v : Value} {xs : List Value} (h : w.ownsRow base t 1 v n xs) (hn : 0 < n) : ∃ g cap, v = .slice (some ⟨g, 0, none⟩) n cap ∧ base ≤ g ∧ GRow w g t n (fun i => xs.getD i undef) := by
  have hh := h
  rcases h.2 with ⟨rfl, h0⟩ | ⟨g, cap, cur, rfl, hb, _⟩
  · omega
  · exact ⟨g, cap, rfl, hb, GRow.of_owns hh⟩
theorem own_base {w : World} {b1 b2 size n : Nat} {t : TypeId} {v : Value} {xs : List Value} (h : w.ownsRow b1 t size v n xs) (hb : b2 ≤ b1) : w.ownsRow b2 t size v n xs := by
  refine ⟨h.1, h.2.imp id ?_⟩
  rintro ⟨g, cap, cur, h1, h2, r⟩
  exact ⟨g, cap, cur, h1, Nat.le_trans hb h2, r⟩
theorem numList_at {sel : Nat → Bool} {f : Nat → Nat} {n j : Nat} (hj : j < n) : (numList sel f n).getD j undef = .int .i64 ((Vd.num sel f j : Nat) : Int) := by
  simp [numList, List.getD, hj]

/-- What the program reads all along: the view, the level, the numbers. -/
structure Held (w : World) (Bv Bl : Nat) (W H : Int) (b off n c L : Nat) (S : Nat → Nat) : Prop where
  v : VCell w Bv W H (some ⟨b, off, none⟩) n c
  l : w.cell? ⟨Bl, 0, none⟩ = some (.float .f32 L)
  r : FRow w b off n S
theorem Held.keep {w w' : World} {Bv Bl : Nat} {W H : Int} {b off n c L : Nat} {S : Nat → Nat} (h : Held w Bv Bl W H b off n c L S) (hb : Below w.heap.size w w') : Held w' Bv Bl W H b off n c L S :=
  ⟨h.v.keep hb, (hb.cell (World.block_lt_of_cell? w _ h.l)).trans h.l, h.r.keep hb⟩
theorem Held.drew {w : World} {Bv Bl : Nat} {W H : Int} {b off n c L : Nat} {S : Nat → Nat} (h : Held w Bv Bl W H b off n c L S) (q : Nat) : Held (w.drewN q) Bv Bl W H b off n c L S := ⟨h.v.drew ⟨q, rfl⟩, h.l, h.r.drew ⟨q, rfl⟩⟩
theorem Held.drew' {w w' : World} {Bv Bl : Nat} {W H : Int} {b off n c L : Nat} {S : Nat → Nat} (h : Held w Bv Bl W H b off n c L S) (hd : Drew w w') : Held w' Bv Bl W H b off n c L S := by
  obtain ⟨q, rfl⟩ := hd
  exact h.drew q
theorem Held.call {w w' : World} {Bv Bl : Nat} {W H : Int} {b off n c L : Nat} {S : Nat → Nat} (h : Held w Bv Bl W H b off n c L S) (j : Nat) {x : Int} (hx : x = (j : Int)) (hk : j < n) (hd : Drew w w') {s : Bool} (hs : selB S L j = s) :
    Calls Try.prog 92 #[.int .i64 x, .pointer (some ⟨Bv, 0, none⟩), .pointer (some ⟨Bl, 0, none⟩)] w' (Quiet (.bool s) w') := hs ▸ below_at j hx Bv Bl W H b off n c L S _ hk (h.drew' hd).v (h.drew' hd).l (h.drew' hd).r

theorem mod0 {k W : Nat} (h : ¬ 0 < k % W) : (k : Int) % (W : Int) = 0 := by
  have e : (k : Int) % (W : Int) = ((k % W : Nat) : Int) := rfl
  rw [e]; omega
theorem mod1 {k W : Nat} (h : 0 < k % W) : (0 : Int) < (k : Int) % (W : Int) := by
  have e : (k : Int) % (W : Int) = ((k % W : Nat) : Int) := rfl
  rw [e]; omega
theorem cell_two_new (w : World) (x y : Value) (t : TypeId) : ∀ j u, [x, y][j]? = some u → (w.alloc (.cells #[x, y] t)).cell? ((⟨w.heap.size, 0, none⟩ : Addr).add j) = some u := by
  intro j u hj
  match j, hj with
  | 0, hj => simp at hj; subst hj; simp [Addr.add]
  | 1, hj => simp at hj; subst hj; simp [Addr.add]

/-- An append among the call's own blocks. -/
theorem below_append {B : Nat} {a w w' : World} {q : Nat} {o : Obj} {base size n : Nat} {e : TypeId} {v : Value} {xs : List Value} (h : Below B a w) (hB : B ≤ w.heap.size) (ho : w.ownsRow base e size v n xs) (hb : B ≤ base) (hg : ((w.drewN q).alloc o).grownBy w' v.ownBlock) : Below B a w' :=
  ((below_drewN h q).alloc hB o).grown hg (by simp; exact Nat.le_succ_of_le hB) fun k hk => Nat.le_trans hb (ho.lt k hk).1

set_option maxRecDepth 100000 in
set_option maxHeartbeats 4000000 in
theorem voidsOf_impl (W H : Int) (b off n c L : Nat) (S : Nat → Nat) (w : World) (hn : n ≤ 1048576) (ao : Option Addr) (hao : 0 < n → ao = some ⟨b, off, none⟩) (hR : FRow w b off n S) (hv : viewB W H n S = true) :
    Calls Try.prog 50 #[vw W H ao n c, .float .f32 L] w fun e w' => ∃ v, e = .returned (.tuple #[v, .int .i64 ((Vd.cnt (selB S L) (Vd.labs (Vd.sides W.toNat (selB S L) n)) n : Nat) : Int), .bool true]) ∧
      w'.ownsRow w.heap.size 2 1 v n (outList (selB S L) (Vd.labs (Vd.sides W.toNat (selB S L) n)) n) ∧ Below w.heap.size w w' := by
  obtain ⟨n0, n256, hnW, w1', w16, h1', h16, hfin⟩ := viewB_bounds hv
  obtain ⟨Wn, rfl⟩ : ∃ Wn : Nat, W = (Wn : Int) := ⟨W.toNat, by omega⟩
  rw [Int.toNat_natCast]
  have ha := hao (by omega)
  subst ha
  have hmm := @run_makeMap Try.prog
  have hB : Below w.heap.size w ((w.alloc (.cells #[.int .i64 Wn, .int .i64 H, .slice (some ⟨b, off, none⟩) n c] 42)).alloc (.cells #[.float .f32 L] 22)) := ((Below.refl _ _).alloc (Nat.le_refl _) _).alloc (by simp) _
  have hV0 := (VCell.new w Wn H (some ⟨b, off, none⟩) n c 42).keep ((Below.refl _ _).alloc (Nat.le_refl _) (.cells #[.float .f32 L] 22))
  have hL0 : ((w.alloc (.cells #[.int .i64 Wn, .int .i64 H, .slice (some ⟨b, off, none⟩) n c] 42)).alloc (.cells #[.float .f32 L] 22)).cell? ⟨w.heap.size + 1, 0, none⟩ = some (.float .f32 L) := by simp
  have hR1 := hR.keep hB
  clear hfin
  go_enter Try.func50, Try.ntmps50
  go_wp2_with fail
  refine (validView_impl Wn H b off n c S _ hn _ (fun _ => rfl) hR1).mono ?_
  rintro e w1 ⟨rfl, k1⟩
  rw [hv]
  have hB1 := hB.trans (k1.mono hB.size)
  have hR2 := hR1.keep k1
  have hV1 := hV0.keep k1
  have hL1 : w1.cell? ⟨w.heap.size + 1, 0, none⟩ = some (.float .f32 L) := (k1.cell (by simp)).trans hL0
  clear k1 hR hR1 hV0 hL0 hB
  have z1 : w.heap.size + 1 < w1.heap.size := World.block_lt_of_cell? w1 _ hL1
  have z0 : w.heap.size < w1.heap.size := by omega
  have HH := Lib.hid (Held.mk hV1 hL1 hR2)
  obtain ⟨u0, u1, u2⟩ := hV1
  have HNW := Lib.hid hnW
  clear hnW hL1 hR2
  obtain ⟨i0, hi, hz0, hz1, hz2⟩ := info_parts info121
  go_wp2_with (go_at_call 70; refine (size_any _ _ _ _).mono ?_; rintro e w' ⟨rfl, q, rfl⟩)
  clear u0 u1 u2
  generalize hsel : selB S L = sel at *
  go_loopw [26, 7] (fun i v wr => ∃ k : Nat, k ≤ n ∧ i = .int .i64 k ∧ Below w1.heap.size w1 wr ∧ wr.ownsRow w1.heap.size 121 2 v (Vd.sides Wn sel k).length (pvals (Vd.sides Wn sel k))) (fun i _ _ => n - (intOf i).toNat)
  case atStart => exact ⟨0, Nat.zero_le _, rfl, below_drewN ((Below.refl _ _).alloc (Nat.le_refl _) _) _, World.ownsRow_made w1 #[] 0 (Nat.le_refl _) (by decide) rfl⟩
  case round =>
    obtain ⟨k, hk, rfl, hb, hrow⟩ := hrel
    have hh := HH.out.keep hb
    by_cases hlt : k < n
    · have hlen := Vd.sides_len Wn sel k
      have hW0 : (Wn : Int) ≠ 0 := by omega
      have hsz := hb.size
      have Hh := Lib.hid hh
      obtain ⟨⟨u0, u1, u2⟩, ul, ur⟩ := hh
      clear ur ul
      subst hsel
      cases hm : decide (0 < k % Wn)
      · have hmn : ¬ 0 < k % Wn := of_decide_eq_false hm
        have hm1 : (k : Int) % (Wn : Int) = 0 := mod0 hmn
        have ek1 : True := trivial
        clear hm
        cases hs : selB S L k
        · by_cases hWk : Wn ≤ k
          · have hWk' : (Wn : Int) ≤ (k : Int) := by omega
            have ekW : True := trivial
            have SA : Vd.sideA Wn (selB S L) k = false := by simp [Vd.sideA, *]
            have SB : Vd.sideB Wn (selB S L) k = false := by simp [Vd.sideB, *]
            have es : Vd.sides Wn (selB S L) (k + 1) = Vd.sides Wn (selB S L) k := by simp [Vd.sides, SA, SB]
            have ES := Lib.hid es
            clear es SA SB
            go_wp2_with (first | (go_at_call 92; refine (Hh.out.call k (by omega) hlt (by first | exact Drew.refl _ | exact ⟨_, rfl⟩) hs).mono ?_; rintro e w' ⟨rfl, q, rfl⟩) | (go_at_call 92; refine (Hh.out.call (k - 1) (by omega) (by omega) (by first | exact Drew.refl _ | exact ⟨_, rfl⟩) hs1).mono ?_; rintro e w' ⟨rfl, q, rfl⟩) | (go_at_call 92; refine (Hh.out.call (k - Wn) (by omega) (by omega) (by first | exact Drew.refl _ | exact ⟨_, rfl⟩) hs2).mono ?_; rintro e w' ⟨rfl, q, rfl⟩) | (go_at_call 92; refine (H2.out.call k (by omega) hlt (by first | exact Drew.refl _ | exact ⟨_, rfl⟩) hs).mono ?_; rintro e w' ⟨rfl, q, rfl⟩) | (go_at_call 92; refine (H2.out.call (k - Wn) (by omega) (by omega) (by first | exact Drew.refl _ | exact ⟨_, rfl⟩) hs2).mono ?_; rintro e w' ⟨rfl, q, rfl⟩) | (at_builtin; refine wpList_append_own _ rfl (.tmp 45) (.tmp 50) 119 rfl w1.heap.size 121 i0 (.agg #[.int .i64 0, .int .i64 0]) 2 16 Try.underlying119 hi hz0 hz1 hz2 rfl (by decide) _ _ _ rfl (World.ownsRow.alloc (w := wr.drewN _) hrow _) ⟨wr.heap.size, 0, none⟩ 1 1 [.int .i64 ((k : Int) - 1), .int .i64 (k : Int)] rfl rfl (cell_two_new _ _ _ _) (ints_oneCell .i64 [(k : Int) - 1, (k : Int)]) (by unfold maxLen; omega) (by omega) (by simp; omega) ?_; intro v2 w2 hrow2 hg2 _; have hB2 := below_append hb hsz hrow (Nat.le_refl _) hg2; have H2 := Lib.hid (HH.out.keep hB2); have hsz2 := hB2.size; obtain ⟨⟨x0, x1, x2⟩, xl, _⟩ := HH.out.keep hB2) | (at_builtin; refine wpList_append_own _ rfl (.tmp 69) (.tmp 76) 119 rfl w1.heap.size 121 i0 (.agg #[.int .i64 0, .int .i64 0]) 2 16 Try.underlying119 hi hz0 hz1 hz2 rfl (by decide) _ _ _ rfl (World.ownsRow.alloc (w := w2.drewN _) hrow2 _) ⟨w2.heap.size, 0, none⟩ 1 1 [.int .i64 ((k : Int) - (Wn : Int)), .int .i64 (k : Int)] rfl rfl (cell_two_new _ _ _ _) (ints_oneCell .i64 [(k : Int) - (Wn : Int), (k : Int)]) (by unfold maxLen; omega) (by omega) (by simp; omega) ?_; intro v3 w3 hrow3 hg3 _; have hB3 := below_append hB2 hsz2 hrow2 (Nat.le_refl _) hg3) | (at_builtin; refine wpList_append_own _ rfl (.tmp 69) (.tmp 76) 119 rfl w1.heap.size 121 i0 (.agg #[.int .i64 0, .int .i64 0]) 2 16 Try.underlying119 hi hz0 hz1 hz2 rfl (by decide) _ _ _ rfl (World.ownsRow.alloc (w := wr.drewN _) hrow _) ⟨wr.heap.size, 0, none⟩ 1 1 [.int .i64 ((k : Int) - (Wn : Int)), .int .i64 (k : Int)] rfl rfl (cell_two_new _ _ _ _) (ints_oneCell .i64 [(k : Int) - (Wn : Int), (k : Int)]) (by unfold maxLen; omega) (by omega) (by simp; omega) ?_; intro v3 w3 hrow3 hg3 _; have hB3 := below_append hb hsz hrow (Nat.le_refl _) hg3))
            go_roundw
            case rel => exact ⟨k + 1, by omega, by go_num, by first | exact hb | exact below_drewN hb _, by rw [ES.out]; exact hrow⟩
            case measure => simp [intOf]; omega
          · have hWk' : (k : Int) < (Wn : Int) := by omega
            have ekW : True := trivial
            have SA : Vd.sideA Wn (selB S L) k = false := by simp [Vd.sideA, *]
            have SB : Vd.sideB Wn (selB S L) k = false := by simp [Vd.sideB, *]
            have es : Vd.sides Wn (selB S L) (k + 1) = Vd.sides Wn (selB S L) k := by simp [Vd.sides, SA, SB]
            have ES := Lib.hid es
            clear es SA SB
            go_wp2_with (first | (go_at_call 92; refine (Hh.out.call k (by omega) hlt (by first | exact Drew.refl _ | exact ⟨_, rfl⟩) hs).mono ?_; rintro e w' ⟨rfl, q, rfl⟩) | (go_at_call 92; refine (Hh.out.call (k - 1) (by omega) (by omega) (by first | exact Drew.refl _ | exact ⟨_, rfl⟩) hs1).mono ?_; rintro e w' ⟨rfl, q, rfl⟩) | (go_at_call 92; refine (Hh.out.call (k - Wn) (by omega) (by omega) (by first | exact Drew.refl _ | exact ⟨_, rfl⟩) hs2).mono ?_; rintro e w' ⟨rfl, q, rfl⟩) | (go_at_call 92; refine (H2.out.call k (by omega) hlt (by first | exact Drew.refl _ | exact ⟨_, rfl⟩) hs).mono ?_; rintro e w' ⟨rfl, q, rfl⟩) | (go_at_call 92; refine (H2.out.call (k - Wn) (by omega) (by omega) (by first | exact Drew.refl _ | exact ⟨_, rfl⟩) hs2).mono ?_; rintro e w' ⟨rfl, q, rfl⟩) | (at_builtin; refine wpList_append_own _ rfl (.tmp 45) (.tmp 50) 119 rfl w1.heap.size 121 i0 (.agg #[.int .i64 0, .int .i64 0]) 2 16 Try.underlying119 hi hz0 hz1 hz2 rfl (by decide) _ _ _ rfl (World.ownsRow.alloc (w := wr.drewN _) hrow _) ⟨wr.heap.size, 0, none⟩ 1 1 [.int .i64 ((k : Int) - 1), .int .i64 (k : Int)] rfl rfl (cell_two_new _ _ _ _) (ints_oneCell .i64 [(k : Int) - 1, (k : Int)]) (by unfold maxLen; omega) (by omega) (by simp; omega) ?_; intro v2 w2 hrow2 hg2 _; have hB2 := below_append hb hsz hrow (Nat.le_refl _) hg2; have H2 := Lib.hid (HH.out.keep hB2); have hsz2 := hB2.size; obtain ⟨⟨x0, x1, x2⟩, xl, _⟩ := HH.out.keep hB2) | (at_builtin; refine wpList_append_own _ rfl (.tmp 69) (.tmp 76) 119 rfl w1.heap.size 121 i0 (.agg #[.int .i64 0, .int .i64 0]) 2 16 Try.underlying119 hi hz0 hz1 hz2 rfl (by decide) _ _ _ rfl (World.ownsRow.alloc (w := w2.drewN _) hrow2 _) ⟨w2.heap.size, 0, none⟩ 1 1 [.int .i64 ((k : Int) - (Wn : Int)), .int .i64 (k : Int)] rfl rfl (cell_two_new _ _ _ _) (ints_oneCell .i64 [(k : Int) - (Wn : Int), (k : Int)]) (by unfold maxLen; omega) (by omega) (by simp; omega) ?_; intro v3 w3 hrow3 hg3 _; have hB3 := below_append hB2 hsz2 hrow2 (Nat.le_refl _) hg3) | (at_builtin; refine wpList_append_own _ rfl (.tmp 69) (.tmp 76) 119 rfl w1.heap.size 121 i0 (.agg #[.int .i64 0, .int .i64 0]) 2 16 Try.underlying119 hi hz0 hz1 hz2 rfl (by decide) _ _ _ rfl (World.ownsRow.alloc (w := wr.drewN _) hrow _) ⟨wr.heap.size, 0, none⟩ 1 1 [.int .i64 ((k : Int) - (Wn : Int)), .int .i64 (k : Int)] rfl rfl (cell_two_new _ _ _ _) (ints_oneCell .i64 [(k : Int) - (Wn : Int), (k : Int)]) (by unfold maxLen; omega) (by omega) (by simp; omega) ?_; intro v3 w3 hrow3 hg3 _; have hB3 := below_append hb hsz hrow (Nat.le_refl _) hg3))
            go_roundw
            case rel => exact ⟨k + 1, by omega, by go_num, by first | exact hb | exact below_drewN hb _, by rw [ES.out]; exact hrow⟩
            case measure => simp [intOf]; omega
        · by_cases hWk : Wn ≤ k
          · have hWk' : (Wn : Int) ≤ (k : Int) := by omega
            have ekW : ((k - Wn : Nat) : Int) = (k : Int) - (Wn : Int) := by omega
            cases hs2 : selB S L (k - Wn)
            · have SA : Vd.sideA Wn (selB S L) k = false := by simp [Vd.sideA, *]
              have SB : Vd.sideB Wn (selB S L) k = false := by simp [Vd.sideB, *]
              have es : Vd.sides Wn (selB S L) (k + 1) = Vd.sides Wn (selB S L) k := by simp [Vd.sides, SA, SB]
              have ES := Lib.hid es
              clear es SA SB
              go_wp2_with (first | (go_at_call 92; refine (Hh.out.call k (by omega) hlt (by first | exact Drew.refl _ | exact ⟨_, rfl⟩) hs).mono ?_; rintro e w' ⟨rfl, q, rfl⟩) | (go_at_call 92; refine (Hh.out.call (k - 1) (by omega) (by omega) (by first | exact Drew.refl _ | exact ⟨_, rfl⟩) hs1).mono ?_; rintro e w' ⟨rfl, q, rfl⟩) | (go_at_call 92; refine (Hh.out.call (k - Wn) (by omega) (by omega) (by first | exact Drew.refl _ | exact ⟨_, rfl⟩) hs2).mono ?_; rintro e w' ⟨rfl, q, rfl⟩) | (go_at_call 92; refine (H2.out.call k (by omega) hlt (by first | exact Drew.refl _ | exact ⟨_, rfl⟩) hs).mono ?_; rintro e w' ⟨rfl, q, rfl⟩) | (go_at_call 92; refine (H2.out.call (k - Wn) (by omega) (by omega) (by first | exact Drew.refl _ | exact ⟨_, rfl⟩) hs2).mono ?_; rintro e w' ⟨rfl, q, rfl⟩) | (at_builtin; refine wpList_append_own _ rfl (.tmp 45) (.tmp 50) 119 rfl w1.heap.size 121 i0 (.agg #[.int .i64 0, .int .i64 0]) 2 16 Try.underlying119 hi hz0 hz1 hz2 rfl (by decide) _ _ _ rfl (World.ownsRow.alloc (w := wr.drewN _) hrow _) ⟨wr.heap.size, 0, none⟩ 1 1 [.int .i64 ((k : Int) - 1), .int .i64 (k : Int)] rfl rfl (cell_two_new _ _ _ _) (ints_oneCell .i64 [(k : Int) - 1, (k : Int)]) (by unfold maxLen; omega) (by omega) (by simp; omega) ?_; intro v2 w2 hrow2 hg2 _; have hB2 := below_append hb hsz hrow (Nat.le_refl _) hg2; have H2 := Lib.hid (HH.out.keep hB2); have hsz2 := hB2.size; obtain ⟨⟨x0, x1, x2⟩, xl, _⟩ := HH.out.keep hB2) | (at_builtin; refine wpList_append_own _ rfl (.tmp 69) (.tmp 76) 119 rfl w1.heap.size 121 i0 (.agg #[.int .i64 0, .int .i64 0]) 2 16 Try.underlying119 hi hz0 hz1 hz2 rfl (by decide) _ _ _ rfl (World.ownsRow.alloc (w := w2.drewN _) hrow2 _) ⟨w2.heap.size, 0, none⟩ 1 1 [.int .i64 ((k : Int) - (Wn : Int)), .int .i64 (k : Int)] rfl rfl (cell_two_new _ _ _ _) (ints_oneCell .i64 [(k : Int) - (Wn : Int), (k : Int)]) (by unfold maxLen; omega) (by omega) (by simp; omega) ?_; intro v3 w3 hrow3 hg3 _; have hB3 := below_append hB2 hsz2 hrow2 (Nat.le_refl _) hg3) | (at_builtin; refine wpList_append_own _ rfl (.tmp 69) (.tmp 76) 119 rfl w1.heap.size 121 i0 (.agg #[.int .i64 0, .int .i64 0]) 2 16 Try.underlying119 hi hz0 hz1 hz2 rfl (by decide) _ _ _ rfl (World.ownsRow.alloc (w := wr.drewN _) hrow _) ⟨wr.heap.size, 0, none⟩ 1 1 [.int .i64 ((k : Int) - (Wn : Int)), .int .i64 (k : Int)] rfl rfl (cell_two_new _ _ _ _) (ints_oneCell .i64 [(k : Int) - (Wn : Int), (k : Int)]) (by unfold maxLen; omega) (by omega) (by simp; omega) ?_; intro v3 w3 hrow3 hg3 _; have hB3 := below_append hb hsz hrow (Nat.le_refl _) hg3))
              go_roundw
              case rel => exact ⟨k + 1, by omega, by go_num, by first | exact hb | exact below_drewN hb _, by rw [ES.out]; exact hrow⟩
              case measure => simp [intOf]; omega
            · have SA : Vd.sideA Wn (selB S L) k = false := by simp [Vd.sideA, *]
              have SB : Vd.sideB Wn (selB S L) k = true := by simp [Vd.sideB, *]
              have es : Vd.sides Wn (selB S L) (k + 1) = Vd.sides Wn (selB S L) k ++ [(k - Wn, k)] := by simp [Vd.sides, SA, SB]
              have ES := Lib.hid es
              clear es SA SB
              go_wp2_with (first | (go_at_call 92; refine (Hh.out.call k (by omega) hlt (by first | exact Drew.refl _ | exact ⟨_, rfl⟩) hs).mono ?_; rintro e w' ⟨rfl, q, rfl⟩) | (go_at_call 92; refine (Hh.out.call (k - 1) (by omega) (by omega) (by first | exact Drew.refl _ | exact ⟨_, rfl⟩) hs1).mono ?_; rintro e w' ⟨rfl, q, rfl⟩) | (go_at_call 92; refine (Hh.out.call (k - Wn) (by omega) (by omega) (by first | exact Drew.refl _ | exact ⟨_, rfl⟩) hs2).mono ?_; rintro e w' ⟨rfl, q, rfl⟩) | (go_at_call 92; refine (H2.out.call k (by omega) hlt (by first | exact Drew.refl _ | exact ⟨_, rfl⟩) hs).mono ?_; rintro e w' ⟨rfl, q, rfl⟩) | (go_at_call 92; refine (H2.out.call (k - Wn) (by omega) (by omega) (by first | exact Drew.refl _ | exact ⟨_, rfl⟩) hs2).mono ?_; rintro e w' ⟨rfl, q, rfl⟩) | (at_builtin; refine wpList_append_own _ rfl (.tmp 45) (.tmp 50) 119 rfl w1.heap.size 121 i0 (.agg #[.int .i64 0, .int .i64 0]) 2 16 Try.underlying119 hi hz0 hz1 hz2 rfl (by decide) _ _ _ rfl (World.ownsRow.alloc (w := wr.drewN _) hrow _) ⟨wr.heap.size, 0, none⟩ 1 1 [.int .i64 ((k : Int) - 1), .int .i64 (k : Int)] rfl rfl (cell_two_new _ _ _ _) (ints_oneCell .i64 [(k : Int) - 1, (k : Int)]) (by unfold maxLen; omega) (by omega) (by simp; omega) ?_; intro v2 w2 hrow2 hg2 _; have hB2 := below_append hb hsz hrow (Nat.le_refl _) hg2; have H2 := Lib.hid (HH.out.keep hB2); have hsz2 := hB2.size; obtain ⟨⟨x0, x1, x2⟩, xl, _⟩ := HH.out.keep hB2) | (at_builtin; refine wpList_append_own _ rfl (.tmp 69) (.tmp 76) 119 rfl w1.heap.size 121 i0 (.agg #[.int .i64 0, .int .i64 0]) 2 16 Try.underlying119 hi hz0 hz1 hz2 rfl (by decide) _ _ _ rfl (World.ownsRow.alloc (w := w2.drewN _) hrow2 _) ⟨w2.heap.size, 0, none⟩ 1 1 [.int .i64 ((k : Int) - (Wn : Int)), .int .i64 (k : Int)] rfl rfl (cell_two_new _ _ _ _) (ints_oneCell .i64 [(k : Int) - (Wn : Int), (k : Int)]) (by unfold maxLen; omega) (by omega) (by simp; omega) ?_; intro v3 w3 hrow3 hg3 _; have hB3 := below_append hB2 hsz2 hrow2 (Nat.le_refl _) hg3) | (at_builtin; refine wpList_append_own _ rfl (.tmp 69) (.tmp 76) 119 rfl w1.heap.size 121 i0 (.agg #[.int .i64 0, .int .i64 0]) 2 16 Try.underlying119 hi hz0 hz1 hz2 rfl (by decide) _ _ _ rfl (World.ownsRow.alloc (w := wr.drewN _) hrow _) ⟨wr.heap.size, 0, none⟩ 1 1 [.int .i64 ((k : Int) - (Wn : Int)), .int .i64 (k : Int)] rfl rfl (cell_two_new _ _ _ _) (ints_oneCell .i64 [(k : Int) - (Wn : Int), (k : Int)]) (by unfold maxLen; omega) (by omega) (by simp; omega) ?_; intro v3 w3 hrow3 hg3 _; have hB3 := below_append hb hsz hrow (Nat.le_refl _) hg3))
              have ON : w3.ownsRow w1.heap.size 121 2 v3 (Vd.sides Wn (selB S L) (k + 1)).length (pvals (Vd.sides Wn (selB S L) (k + 1))) := by
                rw [ES.out, pvals_snoc, List.length_append, ekW]; exact hrow3
              clear hrow hrow3 hg3
              go_wp2
              go_roundw
              case rel => exact ⟨k + 1, by omega, by go_num, by first | exact hB3 | exact below_drewN hB3 _, ON⟩
              case measure => simp [intOf]; omega
          · have hWk' : (k : Int) < (Wn : Int) := by omega
            have ekW : True := trivial
            have SA : Vd.sideA Wn (selB S L) k = false := by simp [Vd.sideA, *]
            have SB : Vd.sideB Wn (selB S L) k = false := by simp [Vd.sideB, *]
            have es : Vd.sides Wn (selB S L) (k + 1) = Vd.sides Wn (selB S L) k := by simp [Vd.sides, SA, SB]
            have ES := Lib.hid es
            clear es SA SB
            go_wp2_with (first | (go_at_call 92; refine (Hh.out.call k (by omega) hlt (by first | exact Drew.refl _ | exact ⟨_, rfl⟩) hs).mono ?_; rintro e w' ⟨rfl, q, rfl⟩) | (go_at_call 92; refine (Hh.out.call (k - 1) (by omega) (by omega) (by first | exact Drew.refl _ | exact ⟨_, rfl⟩) hs1).mono ?_; rintro e w' ⟨rfl, q, rfl⟩) | (go_at_call 92; refine (Hh.out.call (k - Wn) (by omega) (by omega) (by first | exact Drew.refl _ | exact ⟨_, rfl⟩) hs2).mono ?_; rintro e w' ⟨rfl, q, rfl⟩) | (go_at_call 92; refine (H2.out.call k (by omega) hlt (by first | exact Drew.refl _ | exact ⟨_, rfl⟩) hs).mono ?_; rintro e w' ⟨rfl, q, rfl⟩) | (go_at_call 92; refine (H2.out.call (k - Wn) (by omega) (by omega) (by first | exact Drew.refl _ | exact ⟨_, rfl⟩) hs2).mono ?_; rintro e w' ⟨rfl, q, rfl⟩) | (at_builtin; refine wpList_append_own _ rfl (.tmp 45) (.tmp 50) 119 rfl w1.heap.size 121 i0 (.agg #[.int .i64 0, .int .i64 0]) 2 16 Try.underlying119 hi hz0 hz1 hz2 rfl (by decide) _ _ _ rfl (World.ownsRow.alloc (w := wr.drewN _) hrow _) ⟨wr.heap.size, 0, none⟩ 1 1 [.int .i64 ((k : Int) - 1), .int .i64 (k : Int)] rfl rfl (cell_two_new _ _ _ _) (ints_oneCell .i64 [(k : Int) - 1, (k : Int)]) (by unfold maxLen; omega) (by omega) (by simp; omega) ?_; intro v2 w2 hrow2 hg2 _; have hB2 := below_append hb hsz hrow (Nat.le_refl _) hg2; have H2 := Lib.hid (HH.out.keep hB2); have hsz2 := hB2.size; obtain ⟨⟨x0, x1, x2⟩, xl, _⟩ := HH.out.keep hB2) | (at_builtin; refine wpList_append_own _ rfl (.tmp 69) (.tmp 76) 119 rfl w1.heap.size 121 i0 (.agg #[.int .i64 0, .int .i64 0]) 2 16 Try.underlying119 hi hz0 hz1 hz2 rfl (by decide) _ _ _ rfl (World.ownsRow.alloc (w := w2.drewN _) hrow2 _) ⟨w2.heap.size, 0, none⟩ 1 1 [.int .i64 ((k : Int) - (Wn : Int)), .int .i64 (k : Int)] rfl rfl (cell_two_new _ _ _ _) (ints_oneCell .i64 [(k : Int) - (Wn : Int), (k : Int)]) (by unfold maxLen; omega) (by omega) (by simp; omega) ?_; intro v3 w3 hrow3 hg3 _; have hB3 := below_append hB2 hsz2 hrow2 (Nat.le_refl _) hg3) | (at_builtin; refine wpList_append_own _ rfl (.tmp 69) (.tmp 76) 119 rfl w1.heap.size 121 i0 (.agg #[.int .i64 0, .int .i64 0]) 2 16 Try.underlying119 hi hz0 hz1 hz2 rfl (by decide) _ _ _ rfl (World.ownsRow.alloc (w := wr.drewN _) hrow _) ⟨wr.heap.size, 0, none⟩ 1 1 [.int .i64 ((k : Int) - (Wn : Int)), .int .i64 (k : Int)] rfl rfl (cell_two_new _ _ _ _) (ints_oneCell .i64 [(k : Int) - (Wn : Int), (k : Int)]) (by unfold maxLen; omega) (by omega) (by simp; omega) ?_; intro v3 w3 hrow3 hg3 _; have hB3 := below_append hb hsz hrow (Nat.le_refl _) hg3))
            go_roundw
            case rel => exact ⟨k + 1, by omega, by go_num, by first | exact hb | exact below_drewN hb _, by rw [ES.out]; exact hrow⟩
            case measure => simp [intOf]; omega
      · have hmn : 0 < k % Wn := of_decide_eq_true hm
        have hm1 : (0 : Int) < (k : Int) % (Wn : Int) := mod1 hmn
        have hk1 : 1 ≤ k := by have := Nat.mod_le k Wn; omega
        have ek1 : ((k - 1 : Nat) : Int) = (k : Int) - 1 := by omega
        clear hm
        cases hs : selB S L k
        · by_cases hWk : Wn ≤ k
          · have hWk' : (Wn : Int) ≤ (k : Int) := by omega
            have ekW : True := trivial
            have SA : Vd.sideA Wn (selB S L) k = false := by simp [Vd.sideA, *]
            have SB : Vd.sideB Wn (selB S L) k = false := by simp [Vd.sideB, *]
            have es : Vd.sides Wn (selB S L) (k + 1) = Vd.sides Wn (selB S L) k := by simp [Vd.sides, SA, SB]
            have ES := Lib.hid es
            clear es SA SB
            go_wp2_with (first | (go_at_call 92; refine (Hh.out.call k (by omega) hlt (by first | exact Drew.refl _ | exact ⟨_, rfl⟩) hs).mono ?_; rintro e w' ⟨rfl, q, rfl⟩) | (go_at_call 92; refine (Hh.out.call (k - 1) (by omega) (by omega) (by first | exact Drew.refl _ | exact ⟨_, rfl⟩) hs1).mono ?_; rintro e w' ⟨rfl, q, rfl⟩) | (go_at_call 92; refine (Hh.out.call (k - Wn) (by omega) (by omega) (by first | exact Drew.refl _ | exact ⟨_, rfl⟩) hs2).mono ?_; rintro e w' ⟨rfl, q, rfl⟩) | (go_at_call 92; refine (H2.out.call k (by omega) hlt (by first | exact Drew.refl _ | exact ⟨_, rfl⟩) hs).mono ?_; rintro e w' ⟨rfl, q, rfl⟩) | (go_at_call 92; refine (H2.out.call (k - Wn) (by omega) (by omega) (by first | exact Drew.refl _ | exact ⟨_, rfl⟩) hs2).mono ?_; rintro e w' ⟨rfl, q, rfl⟩) | (at_builtin; refine wpList_append_own _ rfl (.tmp 45) (.tmp 50) 119 rfl w1.heap.size 121 i0 (.agg #[.int .i64 0, .int .i64 0]) 2 16 Try.underlying119 hi hz0 hz1 hz2 rfl (by decide) _ _ _ rfl (World.ownsRow.alloc (w := wr.drewN _) hrow _) ⟨wr.heap.size, 0, none⟩ 1 1 [.int .i64 ((k : Int) - 1), .int .i64 (k : Int)] rfl rfl (cell_two_new _ _ _ _) (ints_oneCell .i64 [(k : Int) - 1, (k : Int)]) (by unfold maxLen; omega) (by omega) (by simp; omega) ?_; intro v2 w2 hrow2 hg2 _; have hB2 := below_append hb hsz hrow (Nat.le_refl _) hg2; have H2 := Lib.hid (HH.out.keep hB2); have hsz2 := hB2.size; obtain ⟨⟨x0, x1, x2⟩, xl, _⟩ := HH.out.keep hB2) | (at_builtin; refine wpList_append_own _ rfl (.tmp 69) (.tmp 76) 119 rfl w1.heap.size 121 i0 (.agg #[.int .i64 0, .int .i64 0]) 2 16 Try.underlying119 hi hz0 hz1 hz2 rfl (by decide) _ _ _ rfl (World.ownsRow.alloc (w := w2.drewN _) hrow2 _) ⟨w2.heap.size, 0, none⟩ 1 1 [.int .i64 ((k : Int) - (Wn : Int)), .int .i64 (k : Int)] rfl rfl (cell_two_new _ _ _ _) (ints_oneCell .i64 [(k : Int) - (Wn : Int), (k : Int)]) (by unfold maxLen; omega) (by omega) (by simp; omega) ?_; intro v3 w3 hrow3 hg3 _; have hB3 := below_append hB2 hsz2 hrow2 (Nat.le_refl _) hg3) | (at_builtin; refine wpList_append_own _ rfl (.tmp 69) (.tmp 76) 119 rfl w1.heap.size 121 i0 (.agg #[.int .i64 0, .int .i64 0]) 2 16 Try.underlying119 hi hz0 hz1 hz2 rfl (by decide) _ _ _ rfl (World.ownsRow.alloc (w := wr.drewN _) hrow _) ⟨wr.heap.size, 0, none⟩ 1 1 [.int .i64 ((k : Int) - (Wn : Int)), .int .i64 (k : Int)] rfl rfl (cell_two_new _ _ _ _) (ints_oneCell .i64 [(k : Int) - (Wn : Int), (k : Int)]) (by unfold maxLen; omega) (by omega) (by simp; omega) ?_; intro v3 w3 hrow3 hg3 _; have hB3 := below_append hb hsz hrow (Nat.le_refl _) hg3))
            go_roundw
            case rel => exact ⟨k + 1, by omega, by go_num, by first | exact hb | exact below_drewN hb _, by rw [ES.out]; exact hrow⟩
            case measure => simp [intOf]; omega
          · have hWk' : (k : Int) < (Wn : Int) := by omega
            have ekW : True := trivial
            have SA : Vd.sideA Wn (selB S L) k = false := by simp [Vd.sideA, *]
            have SB : Vd.sideB Wn (selB S L) k = false := by simp [Vd.sideB, *]
            have es : Vd.sides Wn (selB S L) (k + 1) = Vd.sides Wn (selB S L) k := by simp [Vd.sides, SA, SB]
            have ES := Lib.hid es
            clear es SA SB
            go_wp2_with (first | (go_at_call 92; refine (Hh.out.call k (by omega) hlt (by first | exact Drew.refl _ | exact ⟨_, rfl⟩) hs).mono ?_; rintro e w' ⟨rfl, q, rfl⟩) | (go_at_call 92; refine (Hh.out.call (k - 1) (by omega) (by omega) (by first | exact Drew.refl _ | exact ⟨_, rfl⟩) hs1).mono ?_; rintro e w' ⟨rfl, q, rfl⟩) | (go_at_call 92; refine (Hh.out.call (k - Wn) (by omega) (by omega) (by first | exact Drew.refl _ | exact ⟨_, rfl⟩) hs2).mono ?_; rintro e w' ⟨rfl, q, rfl⟩) | (go_at_call 92; refine (H2.out.call k (by omega) hlt (by first | exact Drew.refl _ | exact ⟨_, rfl⟩) hs).mono ?_; rintro e w' ⟨rfl, q, rfl⟩) | (go_at_call 92; refine (H2.out.call (k - Wn) (by omega) (by omega) (by first | exact Drew.refl _ | exact ⟨_, rfl⟩) hs2).mono ?_; rintro e w' ⟨rfl, q, rfl⟩) | (at_builtin; refine wpList_append_own _ rfl (.tmp 45) (.tmp 50) 119 rfl w1.heap.size 121 i0 (.agg #[.int .i64 0, .int .i64 0]) 2 16 Try.underlying119 hi hz0 hz1 hz2 rfl (by decide) _ _ _ rfl (World.ownsRow.alloc (w := wr.drewN _) hrow _) ⟨wr.heap.size, 0, none⟩ 1 1 [.int .i64 ((k : Int) - 1), .int .i64 (k : Int)] rfl rfl (cell_two_new _ _ _ _) (ints_oneCell .i64 [(k : Int) - 1, (k : Int)]) (by unfold maxLen; omega) (by omega) (by simp; omega) ?_; intro v2 w2 hrow2 hg2 _; have hB2 := below_append hb hsz hrow (Nat.le_refl _) hg2; have H2 := Lib.hid (HH.out.keep hB2); have hsz2 := hB2.size; obtain ⟨⟨x0, x1, x2⟩, xl, _⟩ := HH.out.keep hB2) | (at_builtin; refine wpList_append_own _ rfl (.tmp 69) (.tmp 76) 119 rfl w1.heap.size 121 i0 (.agg #[.int .i64 0, .int .i64 0]) 2 16 Try.underlying119 hi hz0 hz1 hz2 rfl (by decide) _ _ _ rfl (World.ownsRow.alloc (w := w2.drewN _) hrow2 _) ⟨w2.heap.size, 0, none⟩ 1 1 [.int .i64 ((k : Int) - (Wn : Int)), .int .i64 (k : Int)] rfl rfl (cell_two_new _ _ _ _) (ints_oneCell .i64 [(k : Int) - (Wn : Int), (k : Int)]) (by unfold maxLen; omega) (by omega) (by simp; omega) ?_; intro v3 w3 hrow3 hg3 _; have hB3 := below_append hB2 hsz2 hrow2 (Nat.le_refl _) hg3) | (at_builtin; refine wpList_append_own _ rfl (.tmp 69) (.tmp 76) 119 rfl w1.heap.size 121 i0 (.agg #[.int .i64 0, .int .i64 0]) 2 16 Try.underlying119 hi hz0 hz1 hz2 rfl (by decide) _ _ _ rfl (World.ownsRow.alloc (w := wr.drewN _) hrow _) ⟨wr.heap.size, 0, none⟩ 1 1 [.int .i64 ((k : Int) - (Wn : Int)), .int .i64 (k : Int)] rfl rfl (cell_two_new _ _ _ _) (ints_oneCell .i64 [(k : Int) - (Wn : Int), (k : Int)]) (by unfold maxLen; omega) (by omega) (by simp; omega) ?_; intro v3 w3 hrow3 hg3 _; have hB3 := below_append hb hsz hrow (Nat.le_refl _) hg3))
            go_roundw
            case rel => exact ⟨k + 1, by omega, by go_num, by first | exact hb | exact below_drewN hb _, by rw [ES.out]; exact hrow⟩
            case measure => simp [intOf]; omega
        · cases hs1 : selB S L (k - 1)
          · by_cases hWk : Wn ≤ k
            · have hWk' : (Wn : Int) ≤ (k : Int) := by omega
              have ekW : ((k - Wn : Nat) : Int) = (k : Int) - (Wn : Int) := by omega
              cases hs2 : selB S L (k - Wn)
              · have SA : Vd.sideA Wn (selB S L) k = false := by simp [Vd.sideA, *]
                have SB : Vd.sideB Wn (selB S L) k = false := by simp [Vd.sideB, *]
                have es : Vd.sides Wn (selB S L) (k + 1) = Vd.sides Wn (selB S L) k := by simp [Vd.sides, SA, SB]
                have ES := Lib.hid es
                clear es SA SB
                go_wp2_with (first | (go_at_call 92; refine (Hh.out.call k (by omega) hlt (by first | exact Drew.refl _ | exact ⟨_, rfl⟩) hs).mono ?_; rintro e w' ⟨rfl, q, rfl⟩) | (go_at_call 92; refine (Hh.out.call (k - 1) (by omega) (by omega) (by first | exact Drew.refl _ | exact ⟨_, rfl⟩) hs1).mono ?_; rintro e w' ⟨rfl, q, rfl⟩) | (go_at_call 92; refine (Hh.out.call (k - Wn) (by omega) (by omega) (by first | exact Drew.refl _ | exact ⟨_, rfl⟩) hs2).mono ?_; rintro e w' ⟨rfl, q, rfl⟩) | (go_at_call 92; refine (H2.out.call k (by omega) hlt (by first | exact Drew.refl _ | exact ⟨_, rfl⟩) hs).mono ?_; rintro e w' ⟨rfl, q, rfl⟩) | (go_at_call 92; refine (H2.out.call (k - Wn) (by omega) (by omega) (by first | exact Drew.refl _ | exact ⟨_, rfl⟩) hs2).mono ?_; rintro e w' ⟨rfl, q, rfl⟩) | (at_builtin; refine wpList_append_own _ rfl (.tmp 45) (.tmp 50) 119 rfl w1.heap.size 121 i0 (.agg #[.int .i64 0, .int .i64 0]) 2 16 Try.underlying119 hi hz0 hz1 hz2 rfl (by decide) _ _ _ rfl (World.ownsRow.alloc (w := wr.drewN _) hrow _) ⟨wr.heap.size, 0, none⟩ 1 1 [.int .i64 ((k : Int) - 1), .int .i64 (k : Int)] rfl rfl (cell_two_new _ _ _ _) (ints_oneCell .i64 [(k : Int) - 1, (k : Int)]) (by unfold maxLen; omega) (by omega) (by simp; omega) ?_; intro v2 w2 hrow2 hg2 _; have hB2 := below_append hb hsz hrow (Nat.le_refl _) hg2; have H2 := Lib.hid (HH.out.keep hB2); have hsz2 := hB2.size; obtain ⟨⟨x0, x1, x2⟩, xl, _⟩ := HH.out.keep hB2) | (at_builtin; refine wpList_append_own _ rfl (.tmp 69) (.tmp 76) 119 rfl w1.heap.size 121 i0 (.agg #[.int .i64 0, .int .i64 0]) 2 16 Try.underlying119 hi hz0 hz1 hz2 rfl (by decide) _ _ _ rfl (World.ownsRow.alloc (w := w2.drewN _) hrow2 _) ⟨w2.heap.size, 0, none⟩ 1 1 [.int .i64 ((k : Int) - (Wn : Int)), .int .i64 (k : Int)] rfl rfl (cell_two_new _ _ _ _) (ints_oneCell .i64 [(k : Int) - (Wn : Int), (k : Int)]) (by unfold maxLen; omega) (by omega) (by simp; omega) ?_; intro v3 w3 hrow3 hg3 _; have hB3 := below_append hB2 hsz2 hrow2 (Nat.le_refl _) hg3) | (at_builtin; refine wpList_append_own _ rfl (.tmp 69) (.tmp 76) 119 rfl w1.heap.size 121 i0 (.agg #[.int .i64 0, .int .i64 0]) 2 16 Try.underlying119 hi hz0 hz1 hz2 rfl (by decide) _ _ _ rfl (World.ownsRow.alloc (w := wr.drewN _) hrow _) ⟨wr.heap.size, 0, none⟩ 1 1 [.int .i64 ((k : Int) - (Wn : Int)), .int .i64 (k : Int)] rfl rfl (cell_two_new _ _ _ _) (ints_oneCell .i64 [(k : Int) - (Wn : Int), (k : Int)]) (by unfold maxLen; omega) (by omega) (by simp; omega) ?_; intro v3 w3 hrow3 hg3 _; have hB3 := below_append hb hsz hrow (Nat.le_refl _) hg3))
                go_roundw
                case rel => exact ⟨k + 1, by omega, by go_num, by first | exact hb | exact below_drewN hb _, by rw [ES.out]; exact hrow⟩
                case measure => simp [intOf]; omega
              · have SA : Vd.sideA Wn (selB S L) k = false := by simp [Vd.sideA, *]
                have SB : Vd.sideB Wn (selB S L) k = true := by simp [Vd.sideB, *]
                have es : Vd.sides Wn (selB S L) (k + 1) = Vd.sides Wn (selB S L) k ++ [(k - Wn, k)] := by simp [Vd.sides, SA, SB]
                have ES := Lib.hid es
                clear es SA SB
                go_wp2_with (first | (go_at_call 92; refine (Hh.out.call k (by omega) hlt (by first | exact Drew.refl _ | exact ⟨_, rfl⟩) hs).mono ?_; rintro e w' ⟨rfl, q, rfl⟩) | (go_at_call 92; refine (Hh.out.call (k - 1) (by omega) (by omega) (by first | exact Drew.refl _ | exact ⟨_, rfl⟩) hs1).mono ?_; rintro e w' ⟨rfl, q, rfl⟩) | (go_at_call 92; refine (Hh.out.call (k - Wn) (by omega) (by omega) (by first | exact Drew.refl _ | exact ⟨_, rfl⟩) hs2).mono ?_; rintro e w' ⟨rfl, q, rfl⟩) | (go_at_call 92; refine (H2.out.call k (by omega) hlt (by first | exact Drew.refl _ | exact ⟨_, rfl⟩) hs).mono ?_; rintro e w' ⟨rfl, q, rfl⟩) | (go_at_call 92; refine (H2.out.call (k - Wn) (by omega) (by omega) (by first | exact Drew.refl _ | exact ⟨_, rfl⟩) hs2).mono ?_; rintro e w' ⟨rfl, q, rfl⟩) | (at_builtin; refine wpList_append_own _ rfl (.tmp 45) (.tmp 50) 119 rfl w1.heap.size 121 i0 (.agg #[.int .i64 0, .int .i64 0]) 2 16 Try.underlying119 hi hz0 hz1 hz2 rfl (by decide) _ _ _ rfl (World.ownsRow.alloc (w := wr.drewN _) hrow _) ⟨wr.heap.size, 0, none⟩ 1 1 [.int .i64 ((k : Int) - 1), .int .i64 (k : Int)] rfl rfl (cell_two_new _ _ _ _) (ints_oneCell .i64 [(k : Int) - 1, (k : Int)]) (by unfold maxLen; omega) (by omega) (by simp; omega) ?_; intro v2 w2 hrow2 hg2 _; have hB2 := below_append hb hsz hrow (Nat.le_refl _) hg2; have H2 := Lib.hid (HH.out.keep hB2); have hsz2 := hB2.size; obtain ⟨⟨x0, x1, x2⟩, xl, _⟩ := HH.out.keep hB2) | (at_builtin; refine wpList_append_own _ rfl (.tmp 69) (.tmp 76) 119 rfl w1.heap.size 121 i0 (.agg #[.int .i64 0, .int .i64 0]) 2 16 Try.underlying119 hi hz0 hz1 hz2 rfl (by decide) _ _ _ rfl (World.ownsRow.alloc (w := w2.drewN _) hrow2 _) ⟨w2.heap.size, 0, none⟩ 1 1 [.int .i64 ((k : Int) - (Wn : Int)), .int .i64 (k : Int)] rfl rfl (cell_two_new _ _ _ _) (ints_oneCell .i64 [(k : Int) - (Wn : Int), (k : Int)]) (by unfold maxLen; omega) (by omega) (by simp; omega) ?_; intro v3 w3 hrow3 hg3 _; have hB3 := below_append hB2 hsz2 hrow2 (Nat.le_refl _) hg3) | (at_builtin; refine wpList_append_own _ rfl (.tmp 69) (.tmp 76) 119 rfl w1.heap.size 121 i0 (.agg #[.int .i64 0, .int .i64 0]) 2 16 Try.underlying119 hi hz0 hz1 hz2 rfl (by decide) _ _ _ rfl (World.ownsRow.alloc (w := wr.drewN _) hrow _) ⟨wr.heap.size, 0, none⟩ 1 1 [.int .i64 ((k : Int) - (Wn : Int)), .int .i64 (k : Int)] rfl rfl (cell_two_new _ _ _ _) (ints_oneCell .i64 [(k : Int) - (Wn : Int), (k : Int)]) (by unfold maxLen; omega) (by omega) (by simp; omega) ?_; intro v3 w3 hrow3 hg3 _; have hB3 := below_append hb hsz hrow (Nat.le_refl _) hg3))
                have ON : w3.ownsRow w1.heap.size 121 2 v3 (Vd.sides Wn (selB S L) (k + 1)).length (pvals (Vd.sides Wn (selB S L) (k + 1))) := by
                  rw [ES.out, pvals_snoc, List.length_append, ekW]; exact hrow3
                clear hrow hrow3 hg3
                go_wp2
                go_roundw
                case rel => exact ⟨k + 1, by omega, by go_num, by first | exact hB3 | exact below_drewN hB3 _, ON⟩
                case measure => simp [intOf]; omega
            · have hWk' : (k : Int) < (Wn : Int) := by omega
              have ekW : True := trivial
              have SA : Vd.sideA Wn (selB S L) k = false := by simp [Vd.sideA, *]
              have SB : Vd.sideB Wn (selB S L) k = false := by simp [Vd.sideB, *]
              have es : Vd.sides Wn (selB S L) (k + 1) = Vd.sides Wn (selB S L) k := by simp [Vd.sides, SA, SB]
              have ES := Lib.hid es
              clear es SA SB
              go_wp2_with (first | (go_at_call 92; refine (Hh.out.call k (by omega) hlt (by first | exact Drew.refl _ | exact ⟨_, rfl⟩) hs).mono ?_; rintro e w' ⟨rfl, q, rfl⟩) | (go_at_call 92; refine (Hh.out.call (k - 1) (by omega) (by omega) (by first | exact Drew.refl _ | exact ⟨_, rfl⟩) hs1).mono ?_; rintro e w' ⟨rfl, q, rfl⟩) | (go_at_call 92; refine (Hh.out.call (k - Wn) (by omega) (by omega) (by first | exact Drew.refl _ | exact ⟨_, rfl⟩) hs2).mono ?_; rintro e w' ⟨rfl, q, rfl⟩) | (go_at_call 92; refine (H2.out.call k (by omega) hlt (by first | exact Drew.refl _ | exact ⟨_, rfl⟩) hs).mono ?_; rintro e w' ⟨rfl, q, rfl⟩) | (go_at_call 92; refine (H2.out.call (k - Wn) (by omega) (by omega) (by first | exact Drew.refl _ | exact ⟨_, rfl⟩) hs2).mono ?_; rintro e w' ⟨rfl, q, rfl⟩) | (at_builtin; refine wpList_append_own _ rfl (.tmp 45) (.tmp 50) 119 rfl w1.heap.size 121 i0 (.agg #[.int .i64 0, .int .i64 0]) 2 16 Try.underlying119 hi hz0 hz1 hz2 rfl (by decide) _ _ _ rfl (World.ownsRow.alloc (w := wr.drewN _) hrow _) ⟨wr.heap.size, 0, none⟩ 1 1 [.int .i64 ((k : Int) - 1), .int .i64 (k : Int)] rfl rfl (cell_two_new _ _ _ _) (ints_oneCell .i64 [(k : Int) - 1, (k : Int)]) (by unfold maxLen; omega) (by omega) (by simp; omega) ?_; intro v2 w2 hrow2 hg2 _; have hB2 := below_append hb hsz hrow (Nat.le_refl _) hg2; have H2 := Lib.hid (HH.out.keep hB2); have hsz2 := hB2.size; obtain ⟨⟨x0, x1, x2⟩, xl, _⟩ := HH.out.keep hB2) | (at_builtin; refine wpList_append_own _ rfl (.tmp 69) (.tmp 76) 119 rfl w1.heap.size 121 i0 (.agg #[.int .i64 0, .int .i64 0]) 2 16 Try.underlying119 hi hz0 hz1 hz2 rfl (by decide) _ _ _ rfl (World.ownsRow.alloc (w := w2.drewN _) hrow2 _) ⟨w2.heap.size, 0, none⟩ 1 1 [.int .i64 ((k : Int) - (Wn : Int)), .int .i64 (k : Int)] rfl rfl (cell_two_new _ _ _ _) (ints_oneCell .i64 [(k : Int) - (Wn : Int), (k : Int)]) (by unfold maxLen; omega) (by omega) (by simp; omega) ?_; intro v3 w3 hrow3 hg3 _; have hB3 := below_append hB2 hsz2 hrow2 (Nat.le_refl _) hg3) | (at_builtin; refine wpList_append_own _ rfl (.tmp 69) (.tmp 76) 119 rfl w1.heap.size 121 i0 (.agg #[.int .i64 0, .int .i64 0]) 2 16 Try.underlying119 hi hz0 hz1 hz2 rfl (by decide) _ _ _ rfl (World.ownsRow.alloc (w := wr.drewN _) hrow _) ⟨wr.heap.size, 0, none⟩ 1 1 [.int .i64 ((k : Int) - (Wn : Int)), .int .i64 (k : Int)] rfl rfl (cell_two_new _ _ _ _) (ints_oneCell .i64 [(k : Int) - (Wn : Int), (k : Int)]) (by unfold maxLen; omega) (by omega) (by simp; omega) ?_; intro v3 w3 hrow3 hg3 _; have hB3 := below_append hb hsz hrow (Nat.le_refl _) hg3))
              go_roundw
              case rel => exact ⟨k + 1, by omega, by go_num, by first | exact hb | exact below_drewN hb _, by rw [ES.out]; exact hrow⟩
              case measure => simp [intOf]; omega
          · by_cases hWk : Wn ≤ k
            · have hWk' : (Wn : Int) ≤ (k : Int) := by omega
              have ekW : ((k - Wn : Nat) : Int) = (k : Int) - (Wn : Int) := by omega
              cases hs2 : selB S L (k - Wn)
              · have SA : Vd.sideA Wn (selB S L) k = true := by simp [Vd.sideA, *]
                have SB : Vd.sideB Wn (selB S L) k = false := by simp [Vd.sideB, *]
                have es : Vd.sides Wn (selB S L) (k + 1) = Vd.sides Wn (selB S L) k ++ [(k - 1, k)] := by simp [Vd.sides, SA, SB]
                have ES := Lib.hid es
                clear es SA SB
                go_wp2_with (first | (go_at_call 92; refine (Hh.out.call k (by omega) hlt (by first | exact Drew.refl _ | exact ⟨_, rfl⟩) hs).mono ?_; rintro e w' ⟨rfl, q, rfl⟩) | (go_at_call 92; refine (Hh.out.call (k - 1) (by omega) (by omega) (by first | exact Drew.refl _ | exact ⟨_, rfl⟩) hs1).mono ?_; rintro e w' ⟨rfl, q, rfl⟩) | (go_at_call 92; refine (Hh.out.call (k - Wn) (by omega) (by omega) (by first | exact Drew.refl _ | exact ⟨_, rfl⟩) hs2).mono ?_; rintro e w' ⟨rfl, q, rfl⟩) | (go_at_call 92; refine (H2.out.call k (by omega) hlt (by first | exact Drew.refl _ | exact ⟨_, rfl⟩) hs).mono ?_; rintro e w' ⟨rfl, q, rfl⟩) | (go_at_call 92; refine (H2.out.call (k - Wn) (by omega) (by omega) (by first | exact Drew.refl _ | exact ⟨_, rfl⟩) hs2).mono ?_; rintro e w' ⟨rfl, q, rfl⟩) | (at_builtin; refine wpList_append_own _ rfl (.tmp 45) (.tmp 50) 119 rfl w1.heap.size 121 i0 (.agg #[.int .i64 0, .int .i64 0]) 2 16 Try.underlying119 hi hz0 hz1 hz2 rfl (by decide) _ _ _ rfl (World.ownsRow.alloc (w := wr.drewN _) hrow _) ⟨wr.heap.size, 0, none⟩ 1 1 [.int .i64 ((k : Int) - 1), .int .i64 (k : Int)] rfl rfl (cell_two_new _ _ _ _) (ints_oneCell .i64 [(k : Int) - 1, (k : Int)]) (by unfold maxLen; omega) (by omega) (by simp; omega) ?_; intro v2 w2 hrow2 hg2 _; have hB2 := below_append hb hsz hrow (Nat.le_refl _) hg2; have H2 := Lib.hid (HH.out.keep hB2); have hsz2 := hB2.size; obtain ⟨⟨x0, x1, x2⟩, xl, _⟩ := HH.out.keep hB2) | (at_builtin; refine wpList_append_own _ rfl (.tmp 69) (.tmp 76) 119 rfl w1.heap.size 121 i0 (.agg #[.int .i64 0, .int .i64 0]) 2 16 Try.underlying119 hi hz0 hz1 hz2 rfl (by decide) _ _ _ rfl (World.ownsRow.alloc (w := w2.drewN _) hrow2 _) ⟨w2.heap.size, 0, none⟩ 1 1 [.int .i64 ((k : Int) - (Wn : Int)), .int .i64 (k : Int)] rfl rfl (cell_two_new _ _ _ _) (ints_oneCell .i64 [(k : Int) - (Wn : Int), (k : Int)]) (by unfold maxLen; omega) (by omega) (by simp; omega) ?_; intro v3 w3 hrow3 hg3 _; have hB3 := below_append hB2 hsz2 hrow2 (Nat.le_refl _) hg3) | (at_builtin; refine wpList_append_own _ rfl (.tmp 69) (.tmp 76) 119 rfl w1.heap.size 121 i0 (.agg #[.int .i64 0, .int .i64 0]) 2 16 Try.underlying119 hi hz0 hz1 hz2 rfl (by decide) _ _ _ rfl (World.ownsRow.alloc (w := wr.drewN _) hrow _) ⟨wr.heap.size, 0, none⟩ 1 1 [.int .i64 ((k : Int) - (Wn : Int)), .int .i64 (k : Int)] rfl rfl (cell_two_new _ _ _ _) (ints_oneCell .i64 [(k : Int) - (Wn : Int), (k : Int)]) (by unfold maxLen; omega) (by omega) (by simp; omega) ?_; intro v3 w3 hrow3 hg3 _; have hB3 := below_append hb hsz hrow (Nat.le_refl _) hg3))
                have ON : w2.ownsRow w1.heap.size 121 2 v2 (Vd.sides Wn (selB S L) (k + 1)).length (pvals (Vd.sides Wn (selB S L) (k + 1))) := by
                  rw [ES.out, pvals_snoc, List.length_append, ek1]; exact hrow2
                clear hrow hrow2 hg2
                go_wp2
                go_roundw
                case rel => exact ⟨k + 1, by omega, by go_num, by first | exact hB2 | exact below_drewN hB2 _, ON⟩
                case measure => simp [intOf]; omega
              · have SA : Vd.sideA Wn (selB S L) k = true := by simp [Vd.sideA, *]
                have SB : Vd.sideB Wn (selB S L) k = true := by simp [Vd.sideB, *]
                have es : Vd.sides Wn (selB S L) (k + 1) = (Vd.sides Wn (selB S L) k ++ [(k - 1, k)]) ++ [(k - Wn, k)] := by simp [Vd.sides, SA, SB]
                have ES := Lib.hid es
                clear es SA SB
                go_wp2_with (first | (go_at_call 92; refine (Hh.out.call k (by omega) hlt (by first | exact Drew.refl _ | exact ⟨_, rfl⟩) hs).mono ?_; rintro e w' ⟨rfl, q, rfl⟩) | (go_at_call 92; refine (Hh.out.call (k - 1) (by omega) (by omega) (by first | exact Drew.refl _ | exact ⟨_, rfl⟩) hs1).mono ?_; rintro e w' ⟨rfl, q, rfl⟩) | (go_at_call 92; refine (Hh.out.call (k - Wn) (by omega) (by omega) (by first | exact Drew.refl _ | exact ⟨_, rfl⟩) hs2).mono ?_; rintro e w' ⟨rfl, q, rfl⟩) | (go_at_call 92; refine (H2.out.call k (by omega) hlt (by first | exact Drew.refl _ | exact ⟨_, rfl⟩) hs).mono ?_; rintro e w' ⟨rfl, q, rfl⟩) | (go_at_call 92; refine (H2.out.call (k - Wn) (by omega) (by omega) (by first | exact Drew.refl _ | exact ⟨_, rfl⟩) hs2).mono ?_; rintro e w' ⟨rfl, q, rfl⟩) | (at_builtin; refine wpList_append_own _ rfl (.tmp 45) (.tmp 50) 119 rfl w1.heap.size 121 i0 (.agg #[.int .i64 0, .int .i64 0]) 2 16 Try.underlying119 hi hz0 hz1 hz2 rfl (by decide) _ _ _ rfl (World.ownsRow.alloc (w := wr.drewN _) hrow _) ⟨wr.heap.size, 0, none⟩ 1 1 [.int .i64 ((k : Int) - 1), .int .i64 (k : Int)] rfl rfl (cell_two_new _ _ _ _) (ints_oneCell .i64 [(k : Int) - 1, (k : Int)]) (by unfold maxLen; omega) (by omega) (by simp; omega) ?_; intro v2 w2 hrow2 hg2 _; have hB2 := below_append hb hsz hrow (Nat.le_refl _) hg2; have H2 := Lib.hid (HH.out.keep hB2); have hsz2 := hB2.size; obtain ⟨⟨x0, x1, x2⟩, xl, _⟩ := HH.out.keep hB2) | (at_builtin; refine wpList_append_own _ rfl (.tmp 69) (.tmp 76) 119 rfl w1.heap.size 121 i0 (.agg #[.int .i64 0, .int .i64 0]) 2 16 Try.underlying119 hi hz0 hz1 hz2 rfl (by decide) _ _ _ rfl (World.ownsRow.alloc (w := w2.drewN _) hrow2 _) ⟨w2.heap.size, 0, none⟩ 1 1 [.int .i64 ((k : Int) - (Wn : Int)), .int .i64 (k : Int)] rfl rfl (cell_two_new _ _ _ _) (ints_oneCell .i64 [(k : Int) - (Wn : Int), (k : Int)]) (by unfold maxLen; omega) (by omega) (by simp; omega) ?_; intro v3 w3 hrow3 hg3 _; have hB3 := below_append hB2 hsz2 hrow2 (Nat.le_refl _) hg3) | (at_builtin; refine wpList_append_own _ rfl (.tmp 69) (.tmp 76) 119 rfl w1.heap.size 121 i0 (.agg #[.int .i64 0, .int .i64 0]) 2 16 Try.underlying119 hi hz0 hz1 hz2 rfl (by decide) _ _ _ rfl (World.ownsRow.alloc (w := wr.drewN _) hrow _) ⟨wr.heap.size, 0, none⟩ 1 1 [.int .i64 ((k : Int) - (Wn : Int)), .int .i64 (k : Int)] rfl rfl (cell_two_new _ _ _ _) (ints_oneCell .i64 [(k : Int) - (Wn : Int), (k : Int)]) (by unfold maxLen; omega) (by omega) (by simp; omega) ?_; intro v3 w3 hrow3 hg3 _; have hB3 := below_append hb hsz hrow (Nat.le_refl _) hg3))
                have ON : w3.ownsRow w1.heap.size 121 2 v3 (Vd.sides Wn (selB S L) (k + 1)).length (pvals (Vd.sides Wn (selB S L) (k + 1))) := by
                  rw [ES.out, pvals_snoc, pvals_snoc, List.length_append, List.length_append, ek1, ekW]; exact hrow3
                clear hrow hrow2 hg2 hrow3 hg3
                go_wp2
                go_roundw
                case rel => exact ⟨k + 1, by omega, by go_num, by first | exact hB3 | exact below_drewN hB3 _, ON⟩
                case measure => simp [intOf]; omega
            · have hWk' : (k : Int) < (Wn : Int) := by omega
              have ekW : True := trivial
              have SA : Vd.sideA Wn (selB S L) k = true := by simp [Vd.sideA, *]
              have SB : Vd.sideB Wn (selB S L) k = false := by simp [Vd.sideB, *]
              have es : Vd.sides Wn (selB S L) (k + 1) = Vd.sides Wn (selB S L) k ++ [(k - 1, k)] := by simp [Vd.sides, SA, SB]
              have ES := Lib.hid es
              clear es SA SB
              go_wp2_with (first | (go_at_call 92; refine (Hh.out.call k (by omega) hlt (by first | exact Drew.refl _ | exact ⟨_, rfl⟩) hs).mono ?_; rintro e w' ⟨rfl, q, rfl⟩) | (go_at_call 92; refine (Hh.out.call (k - 1) (by omega) (by omega) (by first | exact Drew.refl _ | exact ⟨_, rfl⟩) hs1).mono ?_; rintro e w' ⟨rfl, q, rfl⟩) | (go_at_call 92; refine (Hh.out.call (k - Wn) (by omega) (by omega) (by first | exact Drew.refl _ | exact ⟨_, rfl⟩) hs2).mono ?_; rintro e w' ⟨rfl, q, rfl⟩) | (go_at_call 92; refine (H2.out.call k (by omega) hlt (by first | exact Drew.refl _ | exact ⟨_, rfl⟩) hs).mono ?_; rintro e w' ⟨rfl, q, rfl⟩) | (go_at_call 92; refine (H2.out.call (k - Wn) (by omega) (by omega) (by first | exact Drew.refl _ | exact ⟨_, rfl⟩) hs2).mono ?_; rintro e w' ⟨rfl, q, rfl⟩) | (at_builtin; refine wpList_append_own _ rfl (.tmp 45) (.tmp 50) 119 rfl w1.heap.size 121 i0 (.agg #[.int .i64 0, .int .i64 0]) 2 16 Try.underlying119 hi hz0 hz1 hz2 rfl (by decide) _ _ _ rfl (World.ownsRow.alloc (w := wr.drewN _) hrow _) ⟨wr.heap.size, 0, none⟩ 1 1 [.int .i64 ((k : Int) - 1), .int .i64 (k : Int)] rfl rfl (cell_two_new _ _ _ _) (ints_oneCell .i64 [(k : Int) - 1, (k : Int)]) (by unfold maxLen; omega) (by omega) (by simp; omega) ?_; intro v2 w2 hrow2 hg2 _; have hB2 := below_append hb hsz hrow (Nat.le_refl _) hg2; have H2 := Lib.hid (HH.out.keep hB2); have hsz2 := hB2.size; obtain ⟨⟨x0, x1, x2⟩, xl, _⟩ := HH.out.keep hB2) | (at_builtin; refine wpList_append_own _ rfl (.tmp 69) (.tmp 76) 119 rfl w1.heap.size 121 i0 (.agg #[.int .i64 0, .int .i64 0]) 2 16 Try.underlying119 hi hz0 hz1 hz2 rfl (by decide) _ _ _ rfl (World.ownsRow.alloc (w := w2.drewN _) hrow2 _) ⟨w2.heap.size, 0, none⟩ 1 1 [.int .i64 ((k : Int) - (Wn : Int)), .int .i64 (k : Int)] rfl rfl (cell_two_new _ _ _ _) (ints_oneCell .i64 [(k : Int) - (Wn : Int), (k : Int)]) (by unfold maxLen; omega) (by omega) (by simp; omega) ?_; intro v3 w3 hrow3 hg3 _; have hB3 := below_append hB2 hsz2 hrow2 (Nat.le_refl _) hg3) | (at_builtin; refine wpList_append_own _ rfl (.tmp 69) (.tmp 76) 119 rfl w1.heap.size 121 i0 (.agg #[.int .i64 0, .int .i64 0]) 2 16 Try.underlying119 hi hz0 hz1 hz2 rfl (by decide) _ _ _ rfl (World.ownsRow.alloc (w := wr.drewN _) hrow _) ⟨wr.heap.size, 0, none⟩ 1 1 [.int .i64 ((k : Int) - (Wn : Int)), .int .i64 (k : Int)] rfl rfl (cell_two_new _ _ _ _) (ints_oneCell .i64 [(k : Int) - (Wn : Int), (k : Int)]) (by unfold maxLen; omega) (by omega) (by simp; omega) ?_; intro v3 w3 hrow3 hg3 _; have hB3 := below_append hb hsz hrow (Nat.le_refl _) hg3))
              have ON : w2.ownsRow w1.heap.size 121 2 v2 (Vd.sides Wn (selB S L) (k + 1)).length (pvals (Vd.sides Wn (selB S L) (k + 1))) := by
                rw [ES.out, pvals_snoc, List.length_append, ek1]; exact hrow2
              clear hrow hrow2 hg2
              go_wp2
              go_roundw
              case rel => exact ⟨k + 1, by omega, by go_num, by first | exact hB2 | exact below_drewN hB2 _, ON⟩
              case measure => simp [intOf]; omega
    · have hkn : k = n := by omega
      subst hkn
      subst hsel
      have hlen := Vd.sides_len Wn (selB S L) k
      have hlay := Vd.lay_of (n := k) (selB S L) (show 0 < Wn by omega)
      have hES : ∀ e ∈ Vd.sides Wn (selB S L) k, e.1 < k ∧ e.2 < k := fun e he => ⟨(hlay.B e.1 e.2 he).1, (hlay.B e.1 e.2 he).2.1⟩
      obtain ⟨ao, be, c', hv1, hao1, hbe, hP⟩ := own_list hrow
      subst hv1
      have HES := Lib.hid hES
      have HP := Lib.hid hP
      have HAO := Lib.hid hao1
      have hh' := Lib.hid hh
      obtain ⟨⟨u0, u1, u2⟩, ul, ur⟩ := hh
      generalize hEs : Vd.sides Wn (selB S L) k = es at *
      have HEs := Lib.hid hEs
      clear hEs
      clear hrow hES hP hao1 hlay ul ur hao
      go_wp2_with fail
      refine (groupsOf_any k be c' es _ (by omega) (by omega) HES.out ao HAO.out hbe HP.out).mono ?_
      rintro e w2 ⟨gv, rfl, hg, kg⟩
      have hB2 : Below w1.heap.size w1 w2 := hb.trans (kg.mono hb.size)
      have hH2 := Lib.hid (HH.out.keep hB2)
      obtain ⟨gg, gc, rfl, hgb, hgr⟩ := own_shape hg (by omega)
      have hgr' : IRow w2 gg k (fun j => ((Vd.num (fun _ => true) (Vd.labs es) j : Nat) : Int)) := hgr.congr fun j hj => numList_at hj
      have hnl : ∀ j, Vd.num (fun _ => true) (Vd.labs es) j ≤ 300 ∨ k ≤ j := by
        intro j
        by_cases hj : j < k
        · left
          have h1 := Vd.cnt_le (sel := fun _ => true) (f := Vd.labs es) (Vd.rep (fun _ => true) (Vd.labs es) j)
          have h2 := (Vd.rep_spec (sel := fun _ => true) (f := Vd.labs es) (k := j) rfl).2.2.1
          unfold Vd.num
          omega
        · right; omega
      have hinj : ∀ i j, i < k → j < k → ((Vd.num (fun _ => true) (Vd.labs es) i = Vd.num (fun _ => true) (Vd.labs es) j) ↔ Vd.labs es i = Vd.labs es j) := fun i j _ _ => Vd.num_inj rfl rfl
      have HINJ := Lib.hid hinj
      have hG := Lib.hid hgr'
      have HNL := Lib.hid hnl
      have hBw2 := hB1.trans (hB2.mono (by omega : w.heap.size ≤ w1.heap.size))
      generalize hgf : Vd.num (fun _ => true) (Vd.labs es) = gf at *
      clear hg kg hgr hgr' u0 u1 u2 hb hnl hinj hgf HES HP HAO
      obtain ⟨j0, hj, hy0, hy1, hy2⟩ := info_parts info2
      go_wp2
      go_loopw [91, 12] (fun i v wr => ∃ j : Nat, j ≤ k ∧ i = .int .i64 j ∧ Below w2.heap.size w2 wr ∧ wr.ownsRow w2.heap.size 2 1 v j (outList (selB S L) gf j) ∧
          ∃ D : DataW Unit, wr.ownsMap Try.prog 2 (plainElem Try.prog 2) (w2.heap.size + 1) j D ∧ Vd.MInv (selB S L) gf j D) (fun i _ _ => k - (intOf i).toNat)
      case atStart =>
        have e : (w2.alloc (.cells #[] 2)).heap.size = w2.heap.size + 1 := by simp
        have hm := World.ownsMap_made (H := Unit) (w2.alloc (.cells #[] 2)) Try.prog 2 (plainElem Try.prog 2)
        rw [e] at hm
        exact ⟨0, Nat.zero_le _, rfl, ((Below.refl _ _).alloc (Nat.le_refl _) _).alloc (by simp) _, (World.ownsRow_made w2 #[] 0 (Nat.le_refl _) (by decide) rfl).alloc _, _, hm, Vd.MInv.start⟩
      case round =>
        obtain ⟨j, hj', rfl, hb3, hrow, D, hmap, hinv⟩ := hrel
        by_cases hjk : j < k
        · have cj := (hG.out.below hb3 hG.out.lt).cell hjk
          have hH3 := Lib.hid (hH2.out.keep hb3)
          have hvl : gf j ≤ 300 := by rcases HNL.out j with h | h <;> omega
          have hkey : keyOf Try.prog 2 (.int .i64 ((gf j : Nat) : Int)) = some (.int .i64 ((gf j : Nat) : Int)) := keyOf_int_mk Try.underlying2 (WalkArith.wf_i64 (by omega))
          have hsz3 := hb3.size
          have hne := map_ne_own hrow hmap
          cases hs : selB S L j
          · have I1 := Lib.hid (hinv.skip hs)
            have ho : outAt (selB S L) gf j = -1 := by simp [outAt, hs]
            have HO := Lib.hid ho
            clear hinv hkey ho
            go_wp2_with (first | (go_at_call 92; refine (hH3.out.call j (by omega) hjk (by first | exact Drew.refl _ | exact ⟨_, rfl⟩) hs).mono ?_; rintro e w' ⟨rfl, q, rfl⟩) | (at_builtin; refine wpList_append_own _ rfl _ _ 69 rfl w2.heap.size 2 j0 (.int .i64 0) 1 8 Try.underlying69 hj hy0 hy1 hy2 rfl (by decide) _ _ _ rfl (World.ownsRow.alloc (w := wr.drewN _) hrow _) ⟨wr.heap.size, 0, none⟩ 1 1 [.int .i64 (-1)] rfl rfl (cell_one_new _ _ _) (ints_oneCell .i64 [-1]) (by unfold maxLen; omega) (by omega) (by simp; omega) ?_; intro v' w4 hrow4 hg4 _))
            have hB4 := below_append hb3 hsz3 hrow (Nat.le_refl _) hg4
            have hM4 := (World.ownsMap.alloc (w := wr.drewN _) (hmap.mono (Nat.le_succ j)) (.cells #[.int .i64 (-1)] 2)).kept hg4 hne
            have hO4 : w4.ownsRow w2.heap.size 2 1 v' (j + 1) (outList (selB S L) gf (j + 1)) := by rw [outList_succ, HO.out]; exact hrow4
            clear hrow4 hg4
            go_wp2
            go_roundw
            case rel => exact ⟨j + 1, by omega, by go_num, hB4, hO4, _, hM4, I1.out⟩
            case measure => simp [intOf]; omega
          · have ho : outAt (selB S L) gf j = ((Vd.num (selB S L) gf j : Nat) : Int) := by simp [outAt, hs]
            have HO := Lib.hid ho
            clear ho
            cases hh' : Maps.has D (Vd.key (gf j))
            · obtain ⟨i1, i2⟩ := hinv.new hs hh'
              have I1 := Lib.hid i1
              have I2 := Lib.hid i2
              have hsz : Maps.size D ≤ 300 := by rw [hinv.size]; have := Vd.cnt_le (sel := selB S L) (f := gf) j; omega
              have hrow' := fun (q : Nat) (w3 : World) (hg : (wr.drewN q).grownBy w3 (some (w2.heap.size + 1))) => World.ownsRow.kept (w := wr.drewN q) hrow hg (own_ne_map hrow hmap)
              clear hinv i1 i2
              change Maps.has D (.int .i64 ((gf j : Nat) : Int)) = false at hh'
              change Hid (Vd.MInv (selB S L) gf (j + 1) (D.put (.int .i64 ((gf j : Nat) : Int)) (.lit (.int .i64 ((Maps.size D : Nat) : Int))))) at I1
              change Hid ((D.put (.int .i64 ((gf j : Nat) : Int)) (.lit (.int .i64 ((Maps.size D : Nat) : Int)))).atKey (.int .i64 ((gf j : Nat) : Int)) (.lit (.int .i64 0)) = _) at I2
              generalize hlj : gf j = lj at *
              go_wp2_with (first | (go_at_call 92; refine (hH3.out.call j (by omega) hjk (by first | exact Drew.refl _ | exact ⟨_, rfl⟩) hs).mono ?_; rintro e w' ⟨rfl, q, rfl⟩) | (at_lookup; refine wpList_lookup_own_ok_int _ rfl _ _ 125 rfl 2 2 .i64 law2 Try.underlying125 Try.underlying2 (zero2 _) (w2.heap.size + 1) j D rfl hmap _ _ rfl hkey ?_; intro c1 hat1 hwc1; rw [hh']) | (at_len; refine wpList_len_own _ rfl _ 125 rfl 2 2 Try.underlying125 _ (w2.heap.size + 1) j D rfl hmap ?_) | (at_mapUpdate; refine wpList_mapUpdate_own _ rfl _ _ _ 125 rfl 2 2 law2 Try.underlying125 _ (w2.heap.size + 1) j D rfl hmap (by unfold maxLen; omega) _ _ _ rfl rfl hkey _ [] (plainElem_int Try.underlying2 (WalkArith.wf_i64 (by omega))) ?_; intro w3 hmap1 hgrow1) | (at_lookup; refine wpList_lookup_own_int _ rfl _ _ 125 rfl 2 2 .i64 law2 Try.underlying125 Try.underlying2 (zero2 _) (w2.heap.size + 1) (j + 1) _ rfl hmap1 _ _ rfl hkey ?_; intro c2 hat2 hwc2) | (at_builtin; refine wpList_append_own _ rfl _ _ 69 rfl w2.heap.size 2 j0 (.int .i64 0) 1 8 Try.underlying69 hj hy0 hy1 hy2 rfl (by decide) _ _ _ rfl ((hrow' _ w3 hgrow1).alloc _) ⟨w3.heap.size, 0, none⟩ 1 1 [.int .i64 c2] rfl rfl (cell_one_new _ _ _) (ints_oneCell .i64 [c2]) (by unfold maxLen; omega) (by omega) (by have := hgrow1.size; simp at this ⊢; omega) ?_; intro v' w4 hrow4 hg4 _))
              have hc2 : c2 = ((Vd.num (selB S L) gf j : Nat) : Int) := by
                have := hat2.symm.trans I2.out
                injection this with this
                injection this
              have hB4 : Below w2.heap.size w2 w4 := (((below_drewN hb3 _).grown hgrow1 hsz3 (fun x hx => by cases hx; omega)).alloc (by have := hgrow1.size; simp at this; omega) _).grown hg4 (by have := hgrow1.size; simp at this ⊢; omega) (fun x hx => (hrow.lt x hx).1)
              have hM4 := (hmap1.alloc (.cells #[.int .i64 c2] 2)).kept hg4 hne
              have hO4 : w4.ownsRow w2.heap.size 2 1 v' (j + 1) (outList (selB S L) gf (j + 1)) := by rw [outList_succ, HO.out, ← hc2]; exact hrow4
              clear hrow4 hg4 hgrow1 hmap1 hat1 hat2
              go_wp2
              go_roundw
              case rel => exact ⟨j + 1, by omega, by go_num, hB4, hO4, _, hM4, I1.out⟩
              case measure => simp [intOf]; omega
            · obtain ⟨i1, i2⟩ := hinv.seen hs hh'
              have I1 := Lib.hid i1
              have I2 := Lib.hid i2
              clear hinv i1 i2
              change Maps.has D (.int .i64 ((gf j : Nat) : Int)) = true at hh'
              change Hid (D.atKey (.int .i64 ((gf j : Nat) : Int)) (.lit (.int .i64 0)) = _) at I2
              generalize hlj : gf j = lj at *
              go_wp2_with (first | (go_at_call 92; refine (hH3.out.call j (by omega) hjk (by first | exact Drew.refl _ | exact ⟨_, rfl⟩) hs).mono ?_; rintro e w' ⟨rfl, q, rfl⟩) | (at_lookup; refine wpList_lookup_own_ok_int _ rfl _ _ 125 rfl 2 2 .i64 law2 Try.underlying125 Try.underlying2 (zero2 _) (w2.heap.size + 1) j D rfl hmap _ _ rfl hkey ?_; intro c1 hat1 hwc1; rw [hh']) | (at_lookup; refine wpList_lookup_own_int _ rfl _ _ 125 rfl 2 2 .i64 law2 Try.underlying125 Try.underlying2 (zero2 _) (w2.heap.size + 1) j D rfl hmap _ _ rfl hkey ?_; intro c2 hat2 hwc2) | (at_builtin; refine wpList_append_own _ rfl _ _ 69 rfl w2.heap.size 2 j0 (.int .i64 0) 1 8 Try.underlying69 hj hy0 hy1 hy2 rfl (by decide) _ _ _ rfl (World.ownsRow.alloc (w := wr.drewN _) hrow _) ⟨wr.heap.size, 0, none⟩ 1 1 [.int .i64 c2] rfl rfl (cell_one_new _ _ _) (ints_oneCell .i64 [c2]) (by unfold maxLen; omega) (by omega) (by simp; omega) ?_; intro v' w4 hrow4 hg4 _))
              have hc2 : c2 = ((Vd.num (selB S L) gf j : Nat) : Int) := by
                have := hat2.symm.trans I2.out
                injection this with this
                injection this
              have hB4 := below_append hb3 hsz3 hrow (Nat.le_refl _) hg4
              have hM4 := (World.ownsMap.alloc (w := wr.drewN _) (hmap.mono (Nat.le_succ j)) (.cells #[.int .i64 c2] 2)).kept hg4 hne
              have hO4 : w4.ownsRow w2.heap.size 2 1 v' (j + 1) (outList (selB S L) gf (j + 1)) := by rw [outList_succ, HO.out, ← hc2]; exact hrow4
              clear hrow4 hg4 hat1 hat2
              go_wp2
              go_roundw
              case rel => exact ⟨j + 1, by omega, by go_num, hB4, hO4, _, hM4, I1.out⟩
              case measure => simp [intOf]; omega
        · have hjk' : j = k := by omega
          subst hjk'
          have hsz := hinv.size
          have hcg : Vd.cnt (selB S L) gf j = Vd.cnt (selB S L) (Vd.labs es) j := Vd.cnt_congr HINJ.out j (Nat.le_refl _)
          have hol : outList (selB S L) gf j = outList (selB S L) (Vd.labs es) j := by
            refine List.map_congr_left fun x hx => ?_
            rw [List.mem_range] at hx
            unfold outAt
            by_cases hs : selB S L x = true
            · rw [if_pos hs, if_pos hs, Vd.num_congr HINJ.out hx hs]
            · rw [if_neg hs, if_neg hs]
          rw [hcg] at hsz
          have HSZ := Lib.hid hsz
          have HOL := Lib.hid hol
          clear hinv hsz hcg hol
          go_wp2_with (at_len; refine wpList_len_own _ rfl _ 125 rfl 2 2 Try.underlying125 _ (w2.heap.size + 1) j D rfl hmap ?_)
          go_ret3
          refine ⟨_, by rw [HEs.out, ← HSZ.out]; rfl, ?_, hBw2.trans (hb3.mono hBw2.size)⟩
          rw [HEs.out, ← HOL.out]
          exact own_base hrow (by have := hBw2.size; omega)
end Go.Proofs.Ythddnjhdonnojaa
