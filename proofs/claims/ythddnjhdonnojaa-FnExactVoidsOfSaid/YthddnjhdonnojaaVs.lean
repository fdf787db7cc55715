/- The reference's VoidsOf: the flood. -/
import Derived.Test.YthddnjhdonnojaaVg
import Derived.Test.YthddnjhdonnojaaMean
namespace Go.Proofs.Ythddnjhdonnojaa
open Go.RowKit
set_option linter.unusedVariables false
set_option linter.unusedSimpArgs false

theorem beside_is {W a b : Nat} {v : Bool} (h : Vd.besideB W a b = v) {x y : Int} (hx : x = (a : Int)) (hy : y = (b : Int)) (w : World) (hW : 0 < W) (hW' : W ≤ 300) (ha : a ≤ 300) (hb : b ≤ 300) :
    Calls Try.prog 91 #[.int .i64 W, .int .i64 x, .int .i64 y] w (Quiet (.bool v) w) := by
  subst hx hy
  exact h ▸ beside_any W a b w hW hW' ha hb

abbrev zvals (zs : List Nat) : List Value := zs.map fun x => .int .i64 ((x : Nat) : Int)
theorem zvals_at {zs : List Nat} {t : Nat} (ht : t < zs.length) : (zvals zs).getD t undef = .int .i64 ((zs[t] : Nat) : Int) := by
  simp [List.getD, ht]
theorem shape_own {w : World} {base n : Nat} {t : TypeId} {v : Value} {xs : List Value} (h : w.ownsRow base t 1 v n xs) (hn : 0 < n) : ∃ g cap, v = .slice (some ⟨g, 0, none⟩) n cap ∧ base ≤ g ∧ GRow w g t n (fun i => xs.getD i undef) := by
  have hh := h
  rcases h.2 with ⟨rfl, h0⟩ | ⟨g, cap, cur, rfl, hb, _⟩
  · omega
  · exact ⟨g, cap, rfl, hb, GRow.of_owns hh⟩

theorem own_one (w : World) (x : Value) (t : TypeId) : (w.alloc (.cells #[x] t)).ownsRow w.heap.size t 1 (.slice (some ⟨w.heap.size, 0, none⟩) 1 1) 1 [x] :=
  ⟨rfl, .inr ⟨_, 1, #[x], rfl, Nat.le_refl _, heap_alloc_new w _, Nat.le_refl _, by decide, rfl, rfl⟩⟩

theorem cell_one_at {W : World} {N : Nat} (h : W.heap.size = N) (x : Value) (t : TypeId) : ∀ j u, [x][j]? = some u → (W.alloc (.cells #[x] t)).cell? ((⟨N, 0, none⟩ : Addr).add j) = some u := by
  subst h
  exact cell_one_new W x t

theorem below_put {B : Nat} {a w w' : World} {q : Nat} {o : Obj} {base size n : Nat} {e : TypeId} {v : Value} {xs : List Value} (h : Below B a w) (hB : B ≤ w.heap.size) (ho : w.ownsRow base e size v n xs) (hb : B ≤ base) (hg : ((w.drewN q).alloc o).grownBy w' v.ownBlock) : Below B a w' :=
  ((below_drewN h q).alloc hB o).grown hg (by simp; exact Nat.le_succ_of_le hB) fun k hk => Nat.le_trans hb (ho.lt k hk).1

/-- What the reference reads all along. -/
structure Kept (w : World) (Bv : Nat) (W H : Int) (b off n c : Nat) (S : Nat → Nat) : Prop where
  v : VCell w Bv W H (some ⟨b, off, none⟩) n c
  r : FRow w b off n S
theorem Kept.keep {w w' : World} {Bv : Nat} {W H : Int} {b off n c : Nat} {S : Nat → Nat} (h : Kept w Bv W H b off n c S) (hb : Below w.heap.size w w') : Kept w' Bv W H b off n c S := ⟨h.v.keep hb, h.r.keep hb⟩

set_option maxRecDepth 100000 in
set_option maxHeartbeats 4000000 in
theorem voidsOf_spec (W H : Int) (b off n c L : Nat) (S : Nat → Nat) (w : World) (hn : n ≤ 1048576) (ao : Option Addr) (hao : 0 < n → ao = some ⟨b, off, none⟩) (hR : FRow w b off n S) (hv : viewB W H n S = true) :
    Calls Try.prog 49 #[vw W H ao n c, .float .f32 L] w fun e w' => ∃ g cap, e = .returned (.tuple #[.slice (some ⟨g, 0, none⟩) n cap, .int .i64 ((Vd.cnt (selB S L) (Vd.labs (Vd.sides W.toNat (selB S L) n)) n : Nat) : Int), .bool true]) ∧
      IRow w' g n (fun j => Vd.outer (selB S L) (Vd.labs (Vd.sides W.toNat (selB S L) n)) n j) ∧ w.heap.size ≤ g ∧ Below w.heap.size w w' := by
  obtain ⟨n0, n256, hnW, w1', w16, h1', h16, hfin⟩ := viewB_bounds hv
  obtain ⟨Wn, rfl⟩ : ∃ Wn : Nat, W = (Wn : Int) := ⟨W.toNat, by omega⟩
  rw [Int.toNat_natCast]
  have ha := hao (by omega)
  subst ha
  have hB : Below w.heap.size w (w.alloc (.cells #[.int .i64 Wn, .int .i64 H, .slice (some ⟨b, off, none⟩) n c] 42)) := (Below.refl _ _).alloc (Nat.le_refl _) _
  have hV0 := VCell.new w Wn H (some ⟨b, off, none⟩) n c 42
  have hR1 := hR.keep hB
  have hlay := Vd.lay_of (n := n) (selB S L) (show 0 < Wn by omega)
  have LAY := Lib.hid hlay
  have HNW := Lib.hid hnW
  have hlo : w.heap.size ≤ (w.alloc (.cells #[.int .i64 Wn, .int .i64 H, .slice (some ⟨b, off, none⟩) n c] 42)).heap.size := by simp
  clear hfin hlay hnW hR
  obtain ⟨i0, hi, hz0, hz1, hz2⟩ := info_parts info2
  go_enter Try.func49, Try.ntmps49
  go_wp2_with fail
  generalize w.alloc (.cells #[.int .i64 Wn, .int .i64 H, .slice (some ⟨b, off, none⟩) n c] 42) = w0 at *
  refine (l06View_any _ Wn H b off n c S _ hn _ (fun _ => rfl) hR1 hV0).mono ?_
  rintro e w1 ⟨rfl, q, rfl⟩
  rw [hv]
  have HK := Lib.hid (Kept.mk hV0 hR1)
  clear hR1 hV0 hao
  go_wp2
  go_loopw [8, 7] (fun i v wr => ∃ k : Nat, k ≤ n ∧ i = .int .i64 k ∧ Below w0.heap.size w0 wr ∧ wr.ownsRow w0.heap.size 2 1 v k (List.replicate k (.int .i64 (-1)))) (fun i _ _ => n - (intOf i).toNat)
  case atStart => exact ⟨0, Nat.zero_le _, rfl, (below_drewN (Below.refl _ _) _).alloc (Nat.le_refl _) _, World.ownsRow_made (w0.drewN q) #[] 0 (Nat.le_refl _) (by decide) rfl⟩
  case round =>
    obtain ⟨k, hk, rfl, hb, hrow⟩ := hrel
    obtain ⟨⟨u0, u1, u2⟩, _⟩ := HK.out.keep hb
    have hsz := hb.size
    by_cases hlt : k < n
    · go_wp2_with (at_builtin; refine wpList_append_own _ rfl (.tmp 24) (.tmp 25) 69 rfl w0.heap.size 2 i0 (.int .i64 0) 1 8 Try.underlying69 hi hz0 hz1 hz2 rfl (by decide) _ _ _ rfl (hrow.alloc _) ⟨wr.heap.size, 0, none⟩ 1 1 [.int .i64 (-1)] rfl rfl (cell_one_new _ _ _) (ints_oneCell .i64 [-1]) (by unfold maxLen; omega) (by omega) (by simp; omega) ?_; intro v' w4 hrow4 hg4 _)
      have hB4 := below_put (q := 0) hb hsz hrow (Nat.le_refl _) hg4
      have hO4 : w4.ownsRow w0.heap.size 2 1 v' (k + 1) (List.replicate (k + 1) (.int .i64 (-1))) := by rw [List.replicate_succ']; exact hrow4
      clear hrow4 hg4 hrow u0 u1 u2
      go_wp2
      go_roundw
      case rel => exact ⟨k + 1, by omega, by go_num, hB4, hO4⟩
      case measure => simp [intOf]; omega
    · have hkn : k = n := by omega
      subst hkn
      obtain ⟨g, cap, rfl, hg0, hgr⟩ := shape_own hrow (by omega)
      have hO : IRow wr g k (fun j => Vd.outer (selB S L) (Vd.labs (Vd.sides Wn (selB S L) k)) 0 j) := hgr.congr fun j hj => by simp [Vd.outer_zero, List.getD, hj]
      have HO := Lib.hid hO
      clear hgr hO hrow
      obtain ⟨es, hes⟩ : ∃ es, es = Vd.sides Wn (selB S L) k := ⟨_, rfl⟩
      have HES := Lib.hid hes
      rw [← hes] at HO LAY
      clear hes
      go_wp2
      clear u0 u1 u2
      go_loopw [10, 9] (fun i x wr => ∃ j : Nat, j ≤ k ∧ i = .int .i64 j ∧ x = .int .i64 ((Vd.cnt (selB S L) (Vd.labs es) j : Nat) : Int) ∧ Below w0.heap.size w0 wr ∧ IRow wr g k (fun y => Vd.outer (selB S L) (Vd.labs es) j y)) (fun i _ _ => k - (intOf i).toNat)
      case atStart => exact ⟨0, Nat.zero_le _, rfl, rfl, hb, HO.out⟩
      case round =>
        obtain ⟨j, hj, rfl, rfl, hb2, r⟩ := hrel
        by_cases hjk : j < k
        · obtain ⟨⟨u0, u1, u2⟩, ur⟩ := HK.out.keep hb2
          have cr := ur j hjk
          have cj : wr.cell? ⟨g, j, none⟩ = some (.int .i64 (Vd.outer (selB S L) (Vd.labs es) j j)) := r.cell hjk
          have fj := r.frozen j
          have R := Lib.hid r
          have hcl := Vd.cnt_le (sel := selB S L) (f := Vd.labs es) j
          clear ur r HO
          cases hs : selB S L j
          · have hf : Vd.first (selB S L) (Vd.labs es) j = false := by
              cases hf : Vd.first (selB S L) (Vd.labs es) j
              · rfl
              · have := (Vd.first_iff.1 hf).1; rw [hs] at this; cases this
            have HF := Lib.hid hf
            clear hf
            rw [Vd.outer_out hs] at cj
            have hsv : (FloatKind.f32.format.order (S j) L == some .lt) = false := hs
            go_wp2
            go_roundw
            case rel => exact ⟨j + 1, by omega, by go_num, by rw [Vd.cnt_succ, HF.out]; rfl, hb2, R.out.congr fun y _ => congrArg (Value.int .i64) (Vd.outer_skip HF.out y).symm⟩
            case measure => simp [intOf]; omega
          · have hsv : (FloatKind.f32.format.order (S j) L == some .lt) = true := hs
            cases hf : Vd.first (selB S L) (Vd.labs es) j
            · have h0 := (Vd.outer_neg hs).2 hf
              have HF := Lib.hid hf
              clear hf
              generalize hx : Vd.outer (selB S L) (Vd.labs es) j j = x at *
              clear hx
              go_wp2
              go_roundw
              case rel => exact ⟨j + 1, by omega, by go_num, by rw [Vd.cnt_succ, HF.out]; rfl, hb2, R.out.congr fun y _ => congrArg (Value.int .i64) (Vd.outer_skip HF.out y).symm⟩
              case measure => simp [intOf]; omega
            · have hx : Vd.outer (selB S L) (Vd.labs es) j j = -1 := by
                unfold Vd.outer
                rw [if_neg (fun c => by have := Vd.first_rep hf; have := c.2; omega)]
              rw [hx] at cj
              have HF := Lib.hid hf
              clear hf hx
              have hg1 : g < wr.heap.size := R.out.lt
              have hgs : g < wr.heap.size := R.out.lt
              have hws := hb2.size
              obtain ⟨B2, hB2⟩ : ∃ B2, B2 = wr.heap.size := ⟨_, rfl⟩
              have HB2 := Lib.hid hB2
              clear hB2
              go_wp2
              go_loopw [12, 11] (fun a v wq => ∃ (t : Nat) (zs : List Nat) (lg lc : Nat), a = .int .i64 t ∧ t ≤ zs.length ∧ v = .slice (some ⟨lg, 0, none⟩) zs.length lc ∧ Below w0.heap.size w0 wq ∧ IRow wq g k (fun y => Vd.inner (selB S L) (Vd.labs es) j zs y) ∧
                  wq.ownsRow B2 2 1 (.slice (some ⟨lg, 0, none⟩) zs.length lc) zs.length (zvals zs) ∧ Hid (Vd.Fld k (selB S L) (Vd.besideB Wn) es j zs t 0)) (fun a _ _ => k + 1 - (intOf a).toNat)
              case atStart =>
                have e : (wr.setCell ⟨g, j, none⟩ (.int .i64 ((Vd.cnt (selB S L) (Vd.labs es) j : Nat) : Int))).heap.size = wr.heap.size := by simp
                have ho := own_one (wr.setCell ⟨g, j, none⟩ (.int .i64 ((Vd.cnt (selB S L) (Vd.labs es) j : Nat) : Int))) (.int .i64 (j : Int)) 2
                rw [e] at ho
                refine ⟨0, [j], wr.heap.size, 1, rfl, Nat.zero_le _, rfl, (hb2.setCell (p := ⟨g, j, none⟩) hg0 _).alloc (by rw [e]; exact hws) _, ((R.out.set j (.int .i64 ((Vd.cnt (selB S L) (Vd.labs es) j : Nat) : Int))).keep ((Below.refl _ _).alloc (Nat.le_refl _) _)).congr fun y _ => ?_, ?_, Vd.Fld.new hjk hs⟩
                · show _ = Value.int .i64 (Vd.inner (selB S L) (Vd.labs es) j [j] y)
                  rw [Vd.inner_new]
                  by_cases hy : y = j <;> simp [hy]
                · rw [HB2.out]; exact ho
              case round =>
                obtain ⟨t, zs, lg, lc, rfl, ht, rfl, hb3, r3, hrow, hfl⟩ := hrel
                have hlen := hfl.out.len
                by_cases htl : t < zs.length
                · have R3 := Lib.hid r3
                  have HROW := Lib.hid hrow
                  clear r3 hrow
                  go_wp2
                  go_loopw [13, 11] (fun a v wq => ∃ (m : Nat) (zs : List Nat) (lg lc : Nat), a = .int .i64 m ∧ m ≤ k ∧ v = .slice (some ⟨lg, 0, none⟩) zs.length lc ∧ Below w0.heap.size w0 wq ∧ IRow wq g k (fun y => Vd.inner (selB S L) (Vd.labs es) j zs y) ∧
                      wq.ownsRow B2 2 1 (.slice (some ⟨lg, 0, none⟩) zs.length lc) zs.length (zvals zs) ∧ t < zs.length ∧ Hid (Vd.Fld k (selB S L) (Vd.besideB Wn) es j zs t m)) (fun a _ _ => k - (intOf a).toNat)
                  case atStart => exact ⟨0, zs, lg, lc, rfl, Nat.zero_le _, rfl, hb3, R3.out, HROW.out, htl, hfl⟩
                  case round =>
                    obtain ⟨m, zs, lg, lc, rfl, hm, rfl, hb4, r4, hrow4, htl, hfl⟩ := hrel
                    have hlen := hfl.out.len
                    by_cases hmk : m < k
                    · obtain ⟨⟨x0, x1, x2⟩, ur⟩ := HK.out.keep hb4
                      have cr := ur m hmk
                      have cm : wr.cell? ⟨g, m, none⟩ = some (.int .i64 (Vd.inner (selB S L) (Vd.labs es) j zs m)) := r4.cell hmk
                      have ct := (GRow.of_owns hrow4).cell htl
                      rw [zvals_at htl] at ct
                      have hzt := hfl.out.cls zs[t] (List.getElem_mem htl)
                      have hgl := (hrow4.lt lg rfl).1
                      have hgB : g < B2 := by have := HB2.out; omega
                      have i0' : (0 : Int) ≤ (m : Int) := by omega
                      have i1 : (m : Int) < (k : Int) := by omega
                      have i2 : (0 : Int) ≤ (t : Int) := by omega
                      have i3 : (t : Int) < (zs.length : Int) := by omega
                      have R4 := Lib.hid r4
                      have HROW4 := Lib.hid hrow4
                      have INEG := Lib.hid (Vd.inner_neg LAY.out HF.out hfl.out htl hmk)
                      clear r4 hrow4 ur
                      generalize hx : Vd.inner (selB S L) (Vd.labs es) j zs m = x at cm INEG
                      generalize hz : zs[t] = z at ct hzt INEG
                      have hz300 : z ≤ 300 := by have := hzt.1; omega
                      have HZ := Lib.hid hz
                      clear hx hz
                      by_cases hxn : x < 0
                      · cases hsm : selB S L m
                        · have hsv2 : (FloatKind.f32.format.order (S m) L == some .lt) = false := hsm
                          have FL := Lib.hid (hfl.out.pass (k := m) fun _ _ h _ => by rw [hsm] at h; cases h)
                          go_wp2_with fail
                          go_quiet (fail)
                          go_wp2
                          go_roundw
                          case rel => exact ⟨m + 1, zs, lg, lc, by go_num, by omega, rfl, below_drewN hb4 _, R4.out.drew ⟨_, rfl⟩, HROW4.out, htl, FL⟩
                          case measure => simp [intOf]; omega
                        · have hsv2 : (FloatKind.f32.format.order (S m) L == some .lt) = true := hsm
                          cases hbs : Vd.besideB Wn z m
                          · have FL := Lib.hid (hfl.out.pass (k := m) fun _ _ _ h => by rw [HZ.out, hbs] at h; cases h)
                            have hbw := fun w => beside_is hbs (x := (z : Int)) (y := (m : Int)) rfl rfl w (by omega) (by omega) hz300 (by omega)
                            go_wp2_with fail
                            go_quiet ((go_at_call 91; with_reducible exact quietOf (hbw _)))
                            go_wp2
                            go_roundw
                            case rel => exact ⟨m + 1, zs, lg, lc, by go_num, by omega, rfl, below_drewN hb4 _, R4.out.drew ⟨_, rfl⟩, HROW4.out, htl, FL⟩
                            case measure => simp [intOf]; omega
                          · have hnm : m ∉ zs := (INEG.out hsm hbs).1 hxn
                            have FL := Lib.hid (hfl.out.take LAY.out htl hmk hsm (by rw [HZ.out]; exact hbs) hnm)
                            have hbw := fun w => beside_is hbs (x := (z : Int)) (y := (m : Int)) rfl rfl w (by omega) (by omega) hz300 (by omega)
                            have fm := R4.out.frozen m
                            clear hnm
                            go_wp2_with fail
                            go_quiet ((go_at_call 91; with_reducible exact quietOf (hbw _)))
                            go_wp2_with (at_builtin; refine wpList_append_own _ rfl _ _ 69 rfl B2 2 i0 (.int .i64 0) 1 8 Try.underlying69 hi hz0 hz1 hz2 rfl (by decide) _ _ _ rfl ((ownsRow_setCell_below (w := wr.drewN _) HROW4.out (a := ⟨g, m, none⟩) hgB _).alloc _) ⟨wr.heap.size, 0, none⟩ 1 1 [.int .i64 (m : Int)] rfl rfl (cell_one_at (by simp) _ _) (ints_oneCell .i64 [(m : Int)]) (by unfold maxLen; omega) (by omega) (by have := (HROW4.out.lt lg rfl).2; simp; omega) ?_; intro v' w4 hrowN hgN _)
                            have hB5 : Below w0.heap.size w0 w4 := (((below_drewN hb4 _).setCell (p := ⟨g, m, none⟩) hg0 _).alloc (by have := hb4.size; simp; omega) _).grown hgN (by have := hb4.size; simp; omega) (fun x hx => by have := (HROW4.out.lt x hx).1; have := HB2.out; omega)
                            have hI5 : IRow w4 g k (fun y => Vd.inner (selB S L) (Vd.labs es) j (zs ++ [m]) y) := ((((R4.out.drew ⟨_, rfl⟩).set m (.int .i64 ((Vd.cnt (selB S L) (Vd.labs es) j : Nat) : Int))).keep ((Below.refl _ _).alloc (Nat.le_refl _) _)).grown hgN (fun h => by have := (HROW4.out.lt _ h.symm).1; omega)).congr fun y _ => by
                              show _ = Value.int .i64 (Vd.inner (selB S L) (Vd.labs es) j (zs ++ [m]) y)
                              rw [Vd.inner_take]
                              by_cases hy : y = m <;> simp [hy]
                            have hz5 : zvals (zs ++ [m]) = zvals zs ++ [.int .i64 (m : Int)] := by simp [zvals]
                            have hl5 : (zs ++ [m]).length = zs.length + 1 := by simp
                            obtain ⟨lg', lc', hv', _, _⟩ := shape_own hrowN (by omega)
                            subst hv'
                            have hO5 : w4.ownsRow B2 2 1 (.slice (some ⟨lg', 0, none⟩) (zs ++ [m]).length lc') (zs ++ [m]).length (zvals (zs ++ [m])) := by rw [hl5, hz5]; exact hrowN
                            have HI5 := Lib.hid hI5
                            clear hrowN hgN hI5 hz5
                            go_wp2
                            go_roundw
                            case rel => exact ⟨m + 1, zs ++ [m], lg', lc', by go_num, by omega, by rw [hl5], hB5, HI5.out, hO5, by omega, FL⟩
                            case measure => simp [intOf]; omega
                      · have hx0 : 0 ≤ x := by omega
                        have hxd : decide (x < 0) = false := decide_eq_false hxn
                        have FL := Lib.hid (hfl.out.pass (k := m) fun h1 h2 h3 h4 => Classical.byContradiction fun hc => hxn ((INEG.out h3 (by rw [HZ.out] at h4; exact h4)).2 hc))
                        clear hxn hx0
                        go_wp2_with fail
                        go_quiet (fail)
                        go_wp2
                        go_roundw
                        case rel => exact ⟨m + 1, zs, lg, lc, by go_num, by omega, rfl, below_drewN hb4 _, R4.out.drew ⟨_, rfl⟩, HROW4.out, htl, FL⟩
                        case measure => simp [intOf]; omega
                    · have hmk' : m = k := by omega
                      subst hmk'
                      have R4 := Lib.hid r4
                      have HROW4 := Lib.hid hrow4
                      have FL := Lib.hid hfl.out.next
                      clear r4 hrow4
                      go_wp2
                      go_roundw
                      case rel => exact ⟨t + 1, zs, lg, lc, by go_num, by omega, rfl, hb4, R4.out, HROW4.out, FL⟩
                      case measure => simp [intOf]; omega
                · have hte : t = zs.length := by omega
                  subst hte
                  have hin := fun y (hy : y < k) => Vd.inner_end LAY.out HF.out hfl.out hy
                  have r5 : IRow wr g k (fun y => Vd.outer (selB S L) (Vd.labs es) (j + 1) y) := r3.congr fun y hy => congrArg (Value.int .i64) (hin y hy)
                  have R5 := Lib.hid r5
                  clear r3 hrow r5 hin
                  go_wp2
                  go_roundw
                  case rel => exact ⟨j + 1, by omega, by go_num, by rw [Vd.cnt_succ, if_pos HF.out, Int.natCast_add]; rfl, hb3, R5.out⟩
                  case measure => simp [intOf]; omega
        · have hjk' : j = k := by omega
          subst hjk'
          have R := Lib.hid r
          clear r HO
          go_wp2
          go_ret3
          rw [← HES.out]
          exact ⟨g, cap, rfl, R.out, Nat.le_trans hlo hg0, hB.trans (hb2.mono hlo)⟩
end Go.Proofs.Ythddnjhdonnojaa
