/- Rows of 64-bit integers: contracts of the small functions that VoidsOf's law calls. -/
import Derived.Test.YthddnjhdonnojaaX
import Derived.Test.YthddnjhdonnojaaVc
import Derived.WalkKit
namespace Go.Proofs.Ythddnjhdonnojaa
open Go.RowKit
set_option linter.unusedVariables false
set_option linter.unusedSimpArgs false
attribute [local go_sem] run_store_float

/-- Block g begins with n cells, none frozen. -/
def GRow (w : World) (g : Nat) (t : TypeId) (n : Nat) (F : Nat → Value) : Prop := ∃ c : Array Value, w.heap[g]? = some (.cells c t (0, 0)) ∧ n ≤ c.size ∧ ∀ i, i < n → c[i]? = some (F i)
namespace GRow
variable {w : World} {g : Nat} {t : TypeId} {n : Nat} {F G : Nat → Value}
theorem cell (h : GRow w g t n F) {i : Nat} (hi : i < n) : w.cell? ⟨g, i, none⟩ = some (F i) := by
  obtain ⟨c, hb, _, hc⟩ := h
  simp [World.cell?, hb, hc i hi]
theorem frozen (h : GRow w g t n F) (i : Nat) : w.frozen? ⟨g, i, none⟩ = false := by
  obtain ⟨c, hb, _, _⟩ := h
  simp [World.frozen?, hb]
theorem lt (h : GRow w g t n F) : g < w.heap.size := by
  obtain ⟨c, hb, _, _⟩ := h
  exact (Array.getElem?_eq_some_iff.1 hb).1
theorem congr (h : GRow w g t n F) (e : ∀ i, i < n → F i = G i) : GRow w g t n G := by
  obtain ⟨c, hb, hn, hc⟩ := h
  exact ⟨c, hb, hn, fun i hi => by rw [hc i hi, e i hi]⟩
theorem of_block {w' : World} (h : GRow w g t n F) (e : w'.heap[g]? = w.heap[g]?) : GRow w' g t n F := by
  obtain ⟨c, hb, hn, hc⟩ := h
  exact ⟨c, e.trans hb, hn, hc⟩
theorem set (h : GRow w g t n F) (i : Nat) (v : Value) : GRow (w.setCell ⟨g, i, none⟩ v) g t n (fun j => if j = i then v else F j) := by
  obtain ⟨c, hb, hn, hc⟩ := h
  refine ⟨c.setIfInBounds i v, ?_, by simpa using hn, fun j hj => ?_⟩
  · simp [World.setCell, Array.getElem?_modify, hb]
  · rw [Array.getElem?_setIfInBounds]
    by_cases e : j = i
    · subst e
      have : j < c.size := by omega
      simp [this]
    · rw [if_neg (fun h => e h.symm)]
      show c[j]? = some (if j = i then v else F j)
      rw [if_neg e]
      exact hc j hj
theorem below (h : GRow w g t n F) {B : Nat} {w' : World} (hb : Below B w w') (hg : g < B) : GRow w' g t n F := h.of_block (hb.block g hg)
theorem keep (h : GRow w g t n F) {w' : World} (hb : Below w.heap.size w w') : GRow w' g t n F := h.below hb h.lt
theorem drew (h : GRow w g t n F) {w' : World} (hd : Drew w w') : GRow w' g t n F := by
  obtain ⟨q, rfl⟩ := hd
  exact h
theorem other (h : GRow w g t n F) {p : Addr} (hp : p.block ≠ g) (u : Value) : GRow (w.setCell p u) g t n F := h.of_block (Below.heap_setCell _ _ _ _ (fun e => hp e.symm))
theorem grown (h : GRow w g t n F) {w' : World} {row : Option Nat} (hg : w.grownBy w' row) (hne : some g ≠ row) : GRow w' g t n F := h.of_block (hg.block g h.lt hne)
theorem of_rowIs (h : w.rowIs g t n F) : GRow w g t n F := by
  obtain ⟨c, hb, hn, hc⟩ := h
  exact ⟨c, hb, by omega, hc⟩
theorem of_owns {base cap : Nat} {xs : List Value} (h : w.ownsRow base t 1 (.slice (some ⟨g, 0, none⟩) n cap) n xs) : GRow w g t n (fun i => xs.getD i undef) := by
  obtain ⟨h1, h2⟩ := h
  rcases h2 with ⟨h2, _⟩ | ⟨g', cap', cur, hv, hb, hg, hc, hm, hs, ht⟩
  · cases h2
  · injection hv with e1 e2 e3
    injection e1 with e1
    injection e1 with e1
    subst e1 e3
    rw [Nat.mul_one] at h1 hs ht
    refine ⟨cur, hg, by omega, fun i hi => ?_⟩
    subst ht
    have : i < cur.size := by omega
    simp [List.getD, List.getElem?_take, hi, this]
end GRow

abbrev IRow (w : World) (g n : Nat) (G : Nat → Int) : Prop := GRow w g 2 n (fun i => .int .i64 (G i))

theorem eqInts_self (g g' n c c' : Nat) (G : Nat → Int) (w : World) (hn : n ≤ 1048576) (hR : IRow w g n G) (hR' : IRow w g' n G) :
    Calls Try.prog 51 #[.slice (some ⟨g, 0, none⟩) n c, .slice (some ⟨g', 0, none⟩) n c'] w (Quiet (.bool true) w) := by
  go_enter Try.func51, Try.ntmps51
  go_wp2
  go_loopw [5] (fun i wr => ∃ k : Nat, k ≤ n ∧ i = .int .i64 k ∧ Drew w wr) (fun i _ => n - (intOf i).toNat)
  case atStart => exact ⟨0, Nat.zero_le _, rfl, Drew.refl _⟩
  case round =>
    obtain ⟨k, hk, rfl, hd⟩ := hrel
    by_cases hlt : k < n
    · have c0 := (hR.drew hd).cell hlt
      have c1 := (hR'.drew hd).cell hlt
      have i0 : (0 : Int) ≤ (k : Int) := by omega
      have i1 : (k : Int) < (n : Int) := by omega
      clear hR hR'
      go_wp2_with fail
      go_quiet (fail)
      go_wp2
      go_roundw
      case rel => exact ⟨k + 1, by omega, by go_num, hd.add _⟩
      case measure => simp [intOf]; omega
    · have hkn : k = n := by omega
      subst hkn
      clear hR hR'
      go_wp2
      go_ret
      exact ⟨rfl, hd⟩

/-- Only block g has turned, and what is new. -/
def Far (g : Nat) (w w' : World) : Prop := w.heap.size ≤ w'.heap.size ∧ ∀ k, k ≠ g → k < w.heap.size → w'.heap[k]? = w.heap[k]?

set_option maxRecDepth 100000 in
theorem markInts_any (g n c : Nat) (G : Nat → Int) (w : World) (hn : n ≤ 1048576) (hR : IRow w g n G) :
    Calls Try.prog 53 #[.slice (some ⟨g, 0, none⟩) n c, .int .i64 1] w fun e w' => e = .returned (.int .i64 ((n : Int) + 1)) ∧ IRow w' g n (fun i => (i : Int) + 1) ∧ Far g w w' ∧ Below g w w' := by
  go_enter Try.func53, Try.ntmps53
  go_wp2
  go_loopw [5, 1] (fun i x wr => ∃ k : Nat, k ≤ n ∧ i = .int .i64 k ∧ x = .int .i64 ((k : Int) + 1) ∧ (∃ G' : Nat → Int, IRow wr g n G' ∧ ∀ j, j < k → G' j = (j : Int) + 1) ∧ Far g w wr ∧ Below g w wr) (fun i _ _ => n - (intOf i).toNat)
  case atStart => exact ⟨0, Nat.zero_le _, rfl, rfl, ⟨G, hR, fun j hj => by omega⟩, ⟨Nat.le_refl _, fun _ _ _ => rfl⟩, Below.refl _ _⟩
  case round =>
    obtain ⟨k, hk, rfl, rfl, ⟨G', r, hG⟩, hf, hb⟩ := hrel
    by_cases hlt : k < n
    · have c0 := r.cell hlt
      have f0 := r.frozen k
      have r' := r.set k (.int .i64 ((k : Int) + 1))
      have R := Lib.hid r'
      have HG := Lib.hid hG
      clear hR r r' hG
      go_wp2
      go_roundw
      case rel =>
        refine ⟨k + 1, by omega, by go_num, by go_num, ⟨fun j => if j = k then (k : Int) + 1 else G' j, R.out.congr fun i _ => by by_cases e : i = k <;> simp [e], fun j hj => ?_⟩, ⟨by simpa using hf.1, fun x hx hl => ?_⟩, hb.setCell (Nat.le_refl _) _⟩
        · by_cases e : j = k
          · simp [e]
          · simp only [if_neg e]; exact HG.out j (by omega)
        · rw [Below.heap_setCell _ _ _ _ hx]; exact hf.2 x hx hl
      case measure => simp [intOf]; omega
    · have hkn : k = n := by omega
      subst hkn
      have R := Lib.hid r
      have HG := Lib.hid hG
      clear hR r hG
      go_wp2
      go_ret
      exact ⟨rfl, R.out.congr fun i hi => by rw [HG.out i hi], hf, hb⟩

theorem heldInts_any (g n c : Nat) (w : World) (hn : n ≤ 1048576) (hR : IRow w g n (fun i => (i : Int) + 1)) :
    Calls Try.prog 54 #[.slice (some ⟨g, 0, none⟩) n c, .int .i64 1] w (Quiet (.int .i64 ((n : Int) + 1)) w) := by
  go_enter Try.func54, Try.ntmps54
  go_wp2
  go_loopw [5, 1] (fun i x wr => ∃ k : Nat, k ≤ n ∧ i = .int .i64 k ∧ x = .int .i64 ((k : Int) + 1) ∧ Drew w wr) (fun i _ _ => n - (intOf i).toNat)
  case atStart => exact ⟨0, Nat.zero_le _, rfl, rfl, Drew.refl _⟩
  case round =>
    obtain ⟨k, hk, rfl, rfl, hd⟩ := hrel
    by_cases hlt : k < n
    · have c0 := (hR.drew hd).cell hlt
      clear hR
      go_wp2
      go_roundw
      case rel => exact ⟨k + 1, by omega, by go_num, by go_num, hd⟩
      case measure => simp [intOf]; omega
    · have hkn : k = n := by omega
      subst hkn
      clear hR
      go_wp2
      go_ret
      exact ⟨rfl, hd⟩

set_option maxRecDepth 100000 in
theorem markFloats_any (g n c : Nat) (F : Nat → Value) (w : World) (hn : n ≤ 1048576) (hR : GRow w g 22 n F) :
    Calls Try.prog 95 #[.slice (some ⟨g, 0, none⟩) n c, .int .i64 1] w fun e w' => e = .returned (.int .i64 ((n : Int) + 1)) ∧ Far g w w' ∧ Below g w w' := by
  go_enter Try.func95, Try.ntmps95
  go_wp2
  go_loopw [5, 1] (fun i x wr => ∃ k : Nat, k ≤ n ∧ i = .int .i64 k ∧ x = .int .i64 ((k : Int) + 1) ∧ (∃ F', GRow wr g 22 n F') ∧ Far g w wr ∧ Below g w wr) (fun i _ _ => n - (intOf i).toNat)
  case atStart => exact ⟨0, Nat.zero_le _, rfl, rfl, ⟨F, hR⟩, ⟨Nat.le_refl _, fun _ _ _ => rfl⟩, Below.refl _ _⟩
  case round =>
    obtain ⟨k, hk, rfl, rfl, ⟨F', r⟩, hf, hb⟩ := hrel
    by_cases hlt : k < n
    · have c0 := r.cell hlt
      have f0 := r.frozen k
      have R := Lib.hid r
      clear hR r
      go_wp2
      go_roundw
      case rel =>
        refine ⟨k + 1, by omega, by go_num, by go_num, ⟨_, R.out.set k _⟩, ⟨by simpa using hf.1, fun x hx hl => ?_⟩, hb.setCell (Nat.le_refl _) _⟩
        rw [Below.heap_setCell _ _ _ _ hx]; exact hf.2 x hx hl
      case measure => simp [intOf]; omega
    · have hkn : k = n := by omega
      subst hkn
      clear hR r
      go_wp2
      go_ret
      exact ⟨rfl, hf, hb⟩
end Go.Proofs.Ythddnjhdonnojaa
