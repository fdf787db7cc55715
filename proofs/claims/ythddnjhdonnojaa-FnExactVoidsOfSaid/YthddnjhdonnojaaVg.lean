/- Groups: the program's numbering of classes. -/
import Derived.Test.YthddnjhdonnojaaVf
import Derived.Maps.OwnSet
import Derived.Maps.OwnOps
import Derived.Maps.Own
import Derived.Maps.AppendAt
import Derived.Test.YthddnjhdonnojaaVm
namespace Go.Proofs.Ythddnjhdonnojaa
open Go.RowKit Go.Maps
set_option linter.unusedVariables false
set_option linter.unusedSimpArgs false

theorem info3 : (Try.prog.info? 3).map (fun i => (i.zero, i.size, i.bytes)) = some (some (.int .i64 0), 1, 8) := by kernel_rfl
theorem info2 : (Try.prog.info? 2).map (fun i => (i.zero, i.size, i.bytes)) = some (some (.int .i64 0), 1, 8) := by kernel_rfl
theorem law3 : Keyed Try.prog 3 := int_keyed Try.underlying3
theorem law2 : Keyed Try.prog 2 := int_keyed Try.underlying2
theorem zero2 (w : World) : (zeroValue 2).run Try.prog w = .ok (.int .i64 0) w := by kernel_rfl

theorem make3 (n : Nat) (hn : n ≤ 1048576) (w : World) : (Instr.makeSlice 133 (.int .i64 (n : Int)) (.int .i64 (n : Int))).run Try.prog w = .ok (.slice (some ⟨w.heap.size, 0, none⟩) n n) (w.alloc (.cells (madeCells #[.int .i64 0] n) 3)) := by
  obtain ⟨i0, hi, hz0, hz1, hz2⟩ := info_parts info3
  have h := run_make_rowN 133 3 i0 _ Try.underlying133 hi hz0 .i64 .i64 n n (Nat.le_refl _) (by rw [hz2]; omega) (by omega) w
  rw [hz1, Nat.mul_one] at h
  exact h

/-- A list of pairs in memory. -/
def PRow (w : World) (b : Nat) (es : List (Nat × Nat)) : Prop := ∀ j, j < es.length → w.cell? ⟨b, j * 2, none⟩ = some (.int .i64 ((es.getD j (0, 0)).1 : Int)) ∧ w.cell? ⟨b, j * 2 + 1, none⟩ = some (.int .i64 ((es.getD j (0, 0)).2 : Int))
theorem PRow.below {w w' : World} {b B : Nat} {es : List (Nat × Nat)} (h : PRow w b es) (hb : Below B w w') (hB : b < B) : PRow w' b es := by
  intro j hj
  obtain ⟨h1, h2⟩ := h j hj
  exact ⟨(hb.cell hB).trans h1, (hb.cell hB).trans h2⟩

theorem take_snoc {es : List (Nat × Nat)} {k : Nat} (hk : k < es.length) : es.take (k + 1) = es.take k ++ [es.getD k (0, 0)] := by
  rw [List.take_add_one]
  simp [hk, List.getD]

abbrev LRow (w : World) (g n : Nat) (f : Nat → Nat) : Prop := GRow w g 3 n (fun i => .int .i64 ((f i : Nat) : Int))

/-- The row while a merge runs through it. -/
def half (f : Nat → Nat) (e : Nat × Nat) (j : Nat) : Nat → Nat := fun i => if i < j then Vd.merge f e i else f i

theorem own_ne_map {w : World} {base size b n m : Nat} {e k : TypeId} {v : Value} {xs : List Value} {P : Program} {R : Value → Option (DataW Unit × List MemPlace)} {D : DataW Unit} (h : w.ownsRow base e size v n xs) (hm : w.ownsMap P k R b m D) : v.ownBlock = none ∨ v.ownBlock ≠ some b := by
  rcases h.2 with ⟨rfl, _⟩ | ⟨g, cap, cur, rfl, _, hg, _⟩
  · exact .inl rfl
  · right
    intro he
    simp [Value.ownBlock] at he
    obtain ⟨es, clock, hb, _⟩ := hm
    subst he
    rw [hg] at hb
    cases hb
theorem map_ne_own {w : World} {base size b n m : Nat} {e k : TypeId} {v : Value} {xs : List Value} {P : Program} {R : Value → Option (DataW Unit × List MemPlace)} {D : DataW Unit} (h : w.ownsRow base e size v n xs) (hm : w.ownsMap P k R b m D) : some b ≠ v.ownBlock := by
  rcases own_ne_map h hm with h1 | h1
  · rw [h1]; simp
  · exact fun e => h1 e.symm

/-- The numbers of the first i cells. -/
def numList (sel : Nat → Bool) (f : Nat → Nat) (i : Nat) : List Value := (List.range i).map fun j => .int .i64 ((Vd.num sel f j : Nat) : Int)
theorem numList_succ (sel : Nat → Bool) (f : Nat → Nat) (i : Nat) : numList sel f (i + 1) = numList sel f i ++ [.int .i64 ((Vd.num sel f i : Nat) : Int)] := by
  simp [numList, List.range_succ]

theorem run_max64 (x y : Nat) (ts : Array TypeId) (t : TypeId) (w : World) : (Builtin.max_ ts t #[.int .i64 (x : Int), .int .i64 (y : Int)]).run Try.prog w = .ok (.int .i64 ((max x y : Nat) : Int)) w := by
  have h : (if ((y : Int) > (x : Int)) then (y : Int) else (x : Int)) = ((max x y : Nat) : Int) := by split <;> omega
  simp only [Builtin.max_, List.foldlM_cons, List.foldlM_nil, Builtin.max2, h]
  rfl
theorem run_min64 (x y : Nat) (ts : Array TypeId) (t : TypeId) (w : World) : (Builtin.min_ ts t #[.int .i64 (x : Int), .int .i64 (y : Int)]).run Try.prog w = .ok (.int .i64 ((min x y : Nat) : Int)) w := by
  have h : (if ((y : Int) < (x : Int)) then (y : Int) else (x : Int)) = ((min x y : Nat) : Int) := by split <;> omega
  simp only [Builtin.min_, List.foldlM_cons, List.foldlM_nil, Builtin.min2, h]
  rfl

set_option maxRecDepth 100000 in
set_option maxHeartbeats 2000000 in
theorem groupsOf_any (n be c : Nat) (es : List (Nat × Nat)) (w : World) (hn : n ≤ 300) (hes : es.length ≤ 1000) (hES : ∀ e ∈ es, e.1 < n ∧ e.2 < n) (ao : Option Addr) (hao : 0 < es.length → ao = some ⟨be, 0, none⟩) (hbe : be < w.heap.size ∨ es.length = 0) (hP : PRow w be es) :
    Calls Try.prog 93 #[.int .i64 n, .slice ao es.length c, .func (.func 94) #[] #[]] w fun e w' => ∃ v, e = .returned (.tuple #[v, .int .i64 ((Vd.cnt (fun _ => true) (Vd.labs es) n : Nat) : Int)]) ∧
      w'.ownsRow (w.heap.size + 1) 2 1 v n (numList (fun _ => true) (Vd.labs es) n) ∧ Below w.heap.size w w' := by
  obtain ⟨i0, hi, hz0, hz1, hz2⟩ := info_parts info2
  have hmm := @run_makeMap Try.prog
  have hll := Vd.labs_lt es hES
  have hmk := make3 n (by omega)
  have B0 : Below w.heap.size w w := Below.refl _ _
  go_enter Try.func93, Try.ntmps93
  go_wp2
  go_loopw [27] (fun i wr => ∃ k : Nat, k ≤ n ∧ i = .int .i64 k ∧ Below w.heap.size w wr ∧ ∃ f, LRow wr w.heap.size n f ∧ ∀ j, j < k → f j = j) (fun i _ => n - (intOf i).toNat)
  case atStart => exact ⟨0, Nat.zero_le _, rfl, B0.alloc (Nat.le_refl _) _, fun _ => 0, GRow.of_rowIs (World.rowIs_made w (.int .i64 0) n 3), fun j hj => by omega⟩
  case round =>
    obtain ⟨k, hk, rfl, hb, f, r, hf⟩ := hrel
    by_cases hlt : k < n
    · have c0 := r.cell hlt
      have f0 := r.frozen k
      have R := Lib.hid r
      have HF := Lib.hid hf
      clear r hf hmk hP
      go_wp2
      go_roundw
      case rel =>
        refine ⟨k + 1, by omega, by go_num, hb.setCell (Nat.le_refl _) _, fun j => if j = k then k else f j, (R.out.set k _).congr fun i _ => by by_cases e : i = k <;> simp [e], fun j hj => ?_⟩
        by_cases e : j = k
        · simp [e]
        · simp only [if_neg e]; exact HF.out j (by omega)
      case measure => simp [intOf]; omega
    · have hkn : k = n := by omega
      subst hkn
      have r0 : LRow wr w.heap.size k (Vd.labs (es.take 0)) := r.congr fun i hi => by rw [hf i hi]; rfl
      have R0 := Lib.hid r0
      have HP := Lib.hid hP
      clear r hf hmk hP r0
      go_wp2
      go_loopw [37] (fun i wr => ∃ k' : Nat, k' ≤ es.length ∧ i = .int .i64 k' ∧ Below w.heap.size w wr ∧ LRow wr w.heap.size k (Vd.labs (es.take k'))) (fun i _ => es.length - (intOf i).toNat)
      case atStart => exact ⟨0, Nat.zero_le _, rfl, hb, R0.out⟩
      case round =>
        obtain ⟨k', hk', rfl, hb', r⟩ := hrel
        by_cases hlt' : k' < es.length
        · have ha := hao (by omega)
          subst ha
          obtain ⟨p1, p2⟩ := HP.out k' hlt'
          have hbe' : be < w.heap.size := by rcases hbe with h | h <;> omega
          have c0 := (hb'.cell hbe').trans p1
          have c1 := (hb'.cell hbe').trans p2
          generalize hea : (es.getD k' (0, 0)).1 = ea at *
          generalize heb : (es.getD k' (0, 0)).2 = eb at *
          have hR := Lib.hid r
          clear r p1 p2 R0 HP
          have hes' : (es.getD k' (0, 0)) = (ea, eb) := by rw [← hea, ← heb]
          have HE := Lib.hid hes'
          have hmem : (ea, eb) ∈ es := by rw [← hes']; simp [List.getD, hlt']
          have la := (hES _ hmem).1
          have lb := (hES _ hmem).2
          simp only at la lb
          go_wp2_with fail
          refine (pair_any _ _ _).mono ?_
          rintro e w1 ⟨rfl, k1⟩
          have hB1 : Below w.heap.size w w1 := (hb'.alloc hb'.size _).trans (k1.mono (by have := hb'.size; simp; omega))
          have hR1 : LRow w1 w.heap.size k (Vd.labs (es.take k')) := hR.out.of_block ((k1.block _ (by have := hR.out.lt; simp; omega)).trans (Below.heap_alloc _ _ _ hR.out.lt))
          have ca := hR1.cell la
          have cb := hR1.cell lb
          have i0 : (0 : Int) ≤ (ea : Int) := by omega
          have i1 : (ea : Int) < (k : Int) := by omega
          have i2 : (0 : Int) ≤ (eb : Int) := by omega
          have i3 : (eb : Int) < (k : Int) := by omega
          have HR1 := Lib.hid hR1
          clear hR1 hR k1 hea heb hmem c0 c1 hes'
          generalize hfa : Vd.labs (es.take k') ea = fa at *
          generalize hfb : Vd.labs (es.take k') eb = fb at *
          obtain ⟨mx, hmx⟩ : ∃ mx, mx = max fa fb := ⟨_, rfl⟩
          obtain ⟨mn, hmn⟩ : ∃ mn, mn = min fa fb := ⟨_, rfl⟩
          have hmax := run_max64 fa fb
          have hmin := run_min64 fa fb
          rw [← hmx] at hmax
          rw [← hmn] at hmin
          have HM := Lib.hid hmx
          have HN := Lib.hid hmn
          have HFA := Lib.hid hfa
          have HFB := Lib.hid hfb
          clear hmx hmn hfa hfb
          go_wp2_with fail
          go_quiet (first | (simp only [hmax]) | (simp only [hmin]))
          clear hmax hmin ca cb
          go_wp2
          go_loopw [67] (fun i wr => ∃ j : Nat, j ≤ k ∧ i = .int .i64 j ∧ Below w.heap.size w wr ∧ LRow wr w.heap.size k (half (Vd.labs (es.take k')) (ea, eb) j)) (fun i _ => k - (intOf i).toNat)
          case atStart => exact ⟨0, Nat.zero_le _, rfl, below_drewN hB1 _, (HR1.out.drew ⟨_, rfl⟩).congr fun i _ => by simp [half]⟩
          case round =>
            obtain ⟨j, hj, rfl, hb2, r⟩ := hrel
            have step : ∀ i, half (Vd.labs (es.take k')) (ea, eb) (j + 1) i = if i = j then (if Vd.labs (es.take k') j = mx then mn else Vd.labs (es.take k') j) else half (Vd.labs (es.take k')) (ea, eb) j i := by
              intro i
              unfold half
              by_cases e : i = j
              · subst e
                rw [if_pos (by omega), if_pos rfl, HM.out, HN.out]
                simp only [Vd.merge, HFA.out, HFB.out]
              · rw [if_neg e]
                by_cases h : i < j
                · rw [if_pos h, if_pos (by omega)]
                · rw [if_neg h, if_neg (by omega)]
            have ST := Lib.hid step
            clear step
            by_cases hjk : j < k
            · have cj := r.cell hjk
              have fj := r.frozen j
              have hjv : half (Vd.labs (es.take k')) (ea, eb) j j = Vd.labs (es.take k') j := by simp [half]
              rw [hjv] at cj
              have R := Lib.hid r
              clear r hjv
              generalize hv : Vd.labs (es.take k') j = v at *
              by_cases hm : v = mx
              · subst hm
                have HV := Lib.hid hv
                clear hv
                go_wp2
                go_roundw
                case rel =>
                  refine ⟨j + 1, by omega, by go_num, hb2.setCell (Nat.le_refl _) _, (R.out.set j (.int .i64 mn)).congr fun i _ => ?_⟩
                  rw [ST.out i]
                  by_cases e : i = j <;> simp [e]
                case measure => simp [intOf]; omega
              · have hm' : ((v : Nat) : Int) ≠ ((mx : Nat) : Int) := by omega
                have HV := Lib.hid hv
                clear hv
                go_wp2
                go_roundw
                case rel =>
                  refine ⟨j + 1, by omega, by go_num, hb2, R.out.congr fun i _ => ?_⟩
                  rw [ST.out i]
                  by_cases e : i = j
                  · subst e
                    simp [hm, half, HV.out]
                  · simp [e]
                case measure => simp [intOf]; omega
            · have hjk' : j = k := by omega
              subst hjk'
              have R := Lib.hid r
              clear r
              go_wp2
              go_roundw
              case rel =>
                refine ⟨k' + 1, by omega, by go_num, hb2, R.out.congr fun i hi => ?_⟩
                have hes' : (es.getD k' (0, 0)) = (ea, eb) := HE.out
                rw [take_snoc hlt', hes', Vd.labs_snoc]
                simp [half, hi]
              case measure => simp [intOf]; omega
        · have hke : k' = es.length := by omega
          subst hke
          rw [List.take_length] at r
          have R := Lib.hid r
          have HL := Lib.hid hll
          clear r R0 HP hll hao
          go_wp2
          have hg0lt : w.heap.size < wr.heap.size := R.out.lt
          generalize hg0 : wr.heap.size = g0 at *
          go_loopw [86, 17] (fun i v wr => ∃ j : Nat, j ≤ k ∧ i = .int .i64 j ∧ Below w.heap.size w wr ∧ LRow wr w.heap.size k (Vd.labs es) ∧ wr.ownsRow (w.heap.size + 1) 2 1 v j (numList (fun _ => true) (Vd.labs es) j) ∧
              ∃ D : DataW Unit, wr.ownsMap Try.prog 3 (plainElem Try.prog 2) (g0 + 1) j D ∧ Vd.MInv (fun _ => true) (Vd.labs es) j D) (fun i _ _ => k - (intOf i).toNat)
          case atStart =>
            subst hg0
            have e : (wr.alloc (.cells #[] 2)).heap.size = wr.heap.size + 1 := by simp
            have hm := World.ownsMap_made (H := Unit) (wr.alloc (.cells #[] 2)) Try.prog 3 (plainElem Try.prog 2)
            rw [e] at hm
            exact ⟨0, Nat.zero_le _, rfl, (hb'.alloc hb'.size _).alloc (by have := hb'.size; simp; omega) _, (R.out.keep ((Below.refl _ _).alloc (Nat.le_refl _) _)).keep ((Below.refl _ _).alloc (Nat.le_refl _) _),
              (World.ownsRow_made wr #[] 0 (by omega) (by decide) rfl).alloc _, _, hm, Vd.MInv.start⟩
          case round =>
            obtain ⟨j, hj, rfl, hb3, r, hrow, D, hmap, hinv⟩ := hrel
            by_cases hjk : j < k
            · have cj := r.cell hjk
              have hvl := HL.out j hjk
              have hkey : keyOf Try.prog 3 (.int .i64 ((Vd.labs es j : Nat) : Int)) = some (.int .i64 ((Vd.labs es j : Nat) : Int)) := keyOf_int_mk Try.underlying3 (WalkArith.wf_i64 (by omega))
              have hsz3 := hb3.size
              have hsz4 := r.lt
              have hne := map_ne_own hrow hmap
              cases hh : Maps.has D (Vd.key (Vd.labs es j))
              · obtain ⟨i1, i2⟩ := hinv.new rfl hh
                have I1 := Lib.hid i1
                have I2 := Lib.hid i2
                have hsz : Maps.size D ≤ 300 := by rw [hinv.size]; have := Vd.cnt_le (sel := fun _ => true) (f := Vd.labs es) j; omega
                have hrow' := fun (w1 : World) (hg : wr.grownBy w1 (some (g0 + 1))) => hrow.kept hg (own_ne_map hrow hmap)
                have R' := Lib.hid r
                clear hinv i1 i2 r HL hvl R
                change Maps.has D (.int .i64 ((Vd.labs es j : Nat) : Int)) = false at hh
                generalize Vd.labs es j = lj at *
                go_wp2_with (first | (at_lookup; refine wpList_lookup_own_ok_int _ rfl _ _ 135 rfl 3 2 .i64 law3 Try.underlying135 Try.underlying2 (zero2 _) (g0 + 1) j D rfl hmap _ _ rfl hkey ?_; intro c1 hat1 hwc1; rw [hh]) | (at_len; refine wpList_len_own _ rfl _ 135 rfl 3 2 Try.underlying135 _ (g0 + 1) j D rfl hmap ?_) | (at_mapUpdate; refine wpList_mapUpdate_own _ rfl _ _ _ 135 rfl 3 2 law3 Try.underlying135 _ (g0 + 1) j D rfl hmap (by unfold maxLen; omega) _ _ _ rfl rfl hkey _ [] (plainElem_int Try.underlying2 (WalkArith.wf_i64 (by omega))) ?_; intro w1 hmap1 hgrow1) | (at_lookup; refine wpList_lookup_own_int _ rfl _ _ 135 rfl 3 2 .i64 law3 Try.underlying135 Try.underlying2 (zero2 _) (g0 + 1) (j + 1) _ rfl hmap1 _ _ rfl hkey ?_; intro c2 hat2 hwc2) | (at_builtin; refine wpList_append_own _ rfl _ _ 69 rfl (w.heap.size + 1) 2 i0 (.int .i64 0) 1 8 Try.underlying69 hi hz0 hz1 hz2 rfl (by decide) _ _ _ rfl ((hrow' w1 hgrow1).alloc _) ⟨w1.heap.size, 0, none⟩ 1 1 [.int .i64 c2] rfl rfl (cell_one_new _ _ _) (ints_oneCell .i64 [c2]) (by unfold maxLen; omega) (by omega) (by have := hgrow1.size; simp; omega) ?_; intro v' w2 hrow2 hgrow2 hnil2))
                have hc2 : c2 = ((Vd.num (fun _ => true) (Vd.labs es) j : Nat) : Int) := by
                  have := hat2.symm.trans I2.out
                  injection this with this
                  injection this
                have hB2 : Below w.heap.size w w2 := ((hb3.grown hgrow1 hb3.size (fun x hx => by cases hx; omega)).alloc (by have := hgrow1.size; omega) _).grown hgrow2 (by have := hgrow1.size; simp; omega) (fun x hx => by have := (hrow.lt x hx).1; omega)
                have hL2 : LRow w2 w.heap.size k (Vd.labs es) := ((R'.out.grown hgrow1 (by intro h; injection h; omega)).keep ((Below.refl _ _).alloc (Nat.le_refl _) _)).grown hgrow2 (fun h => by have := (hrow.lt _ h.symm).1; omega)
                have hM2 := (hmap1.alloc (.cells #[.int .i64 c2] 2)).kept hgrow2 hne
                have hO2 : w2.ownsRow (w.heap.size + 1) 2 1 v' (j + 1) (numList (fun _ => true) (Vd.labs es) (j + 1)) := by rw [numList_succ, ← hc2]; exact hrow2
                clear hrow2 hgrow2 hgrow1 hmap1 hat1 hat2 hnil2
                go_wp2
                go_roundw
                case rel => exact ⟨j + 1, by omega, by go_num, hB2, hL2, hO2, _, hM2, I1.out⟩
                case measure => simp [intOf]; omega
              · obtain ⟨i1, i2⟩ := hinv.seen rfl hh
                have I1 := Lib.hid i1
                have I2 := Lib.hid i2
                have R' := Lib.hid r
                clear hinv i1 i2 r HL hvl R
                change Maps.has D (.int .i64 ((Vd.labs es j : Nat) : Int)) = true at hh
                generalize Vd.labs es j = lj at *
                go_wp2_with (first | (at_lookup; refine wpList_lookup_own_ok_int _ rfl _ _ 135 rfl 3 2 .i64 law3 Try.underlying135 Try.underlying2 (zero2 _) (g0 + 1) j D rfl hmap _ _ rfl hkey ?_; intro c1 hat1 hwc1; rw [hh]) | (at_lookup; refine wpList_lookup_own_int _ rfl _ _ 135 rfl 3 2 .i64 law3 Try.underlying135 Try.underlying2 (zero2 _) (g0 + 1) j _ rfl hmap _ _ rfl hkey ?_; intro c2 hat2 hwc2) | (at_builtin; refine wpList_append_own _ rfl _ _ 69 rfl (w.heap.size + 1) 2 i0 (.int .i64 0) 1 8 Try.underlying69 hi hz0 hz1 hz2 rfl (by decide) _ _ _ rfl (hrow.alloc _) ⟨wr.heap.size, 0, none⟩ 1 1 [.int .i64 c2] rfl rfl (cell_one_new _ _ _) (ints_oneCell .i64 [c2]) (by unfold maxLen; omega) (by omega) (by simp; omega) ?_; intro v' w2 hrow2 hgrow2 hnil2))
                have hc2 : c2 = ((Vd.num (fun _ => true) (Vd.labs es) j : Nat) : Int) := by
                  have := hat2.symm.trans I2.out
                  injection this with this
                  injection this
                have hB2 : Below w.heap.size w w2 := (hb3.alloc hb3.size _).grown hgrow2 (by simp; omega) (fun x hx => by have := (hrow.lt x hx).1; omega)
                have hL2 : LRow w2 w.heap.size k (Vd.labs es) := (R'.out.keep ((Below.refl _ _).alloc (Nat.le_refl _) _)).grown hgrow2 (fun h => by have := (hrow.lt _ h.symm).1; omega)
                have hM2 := ((hmap.mono (Nat.le_succ j)).alloc (.cells #[.int .i64 c2] 2)).kept hgrow2 hne
                have hO2 : w2.ownsRow (w.heap.size + 1) 2 1 v' (j + 1) (numList (fun _ => true) (Vd.labs es) (j + 1)) := by rw [numList_succ, ← hc2]; exact hrow2
                clear hrow2 hgrow2 hat1 hat2 hnil2
                go_wp2
                go_roundw
                case rel => exact ⟨j + 1, by omega, by go_num, hB2, hL2, hO2, _, hM2, I1.out⟩
                case measure => simp [intOf]; omega
            · have hjk' : j = k := by omega
              subst hjk'
              have hsz := Lib.hid hinv.size
              clear r hinv HL R
              go_wp2_with (at_len; refine wpList_len_own _ rfl _ 135 rfl 3 2 Try.underlying135 _ (g0 + 1) j D rfl hmap ?_)
              go_ret2
              exact ⟨_, by rw [← hsz.out]; rfl, hrow, hb3⟩
end Go.Proofs.Ythddnjhdonnojaa
