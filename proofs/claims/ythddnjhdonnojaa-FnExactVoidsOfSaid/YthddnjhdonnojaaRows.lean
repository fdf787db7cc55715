/-
  No cell of these rows narrows 'for every input' (looked for: loops, veiled, ifaces, maps, wideKeys, modest, calm, conditions, laid).
  DERIVED. THE GIVEN ROWS OF THIS SEAT. 11 by the template 'for every input the law returns true; each argument reads behind the call as it read before'; 0 by the template 'total and deterministic' (their statements: YthddnjhdonnojaaTotals.lean).
  GIVEN WITH THE SEED: the statements are not yours to turn. If you find one false, say at which input.
  Laid BY PROGRAM, IN A SANDBOX (cutbox-rows.mjs): the forced cells as the released guide's own fill.sh prints them over the translation 149d4ebbace2c686… (all of the seat's roots in one cut). By AI agents, Wed Nov 11 2026. No macro, syntax, notation, axiom, sorry.
-/
import Derived.Test.YthddnjhdonnojaaChecked
import GoSem.Claim
import GoSem.ClaimJoined
import GoSem.ClaimMapViews
import Derived.JoinedTies
import Derived.KernelRfl
namespace Go.Proofs.Ythddnjhdonnojaa
/- THE CELL 'sum', in the pinned program and in every row, IS THE sha256 OF THE DUMP (.gsa) THAT YthddnjhdonnojaaProg.lean LOADS. Nothing in Lean hashes anything: it is a label: what it is worth is what the hold of that sum in a sandbox is worth. -/
noncomputable def Try.pinned : Pinned := { name := "ythddnjhdonnojaa", sum := "149d4ebbace2c686f113d8c4b6263a3f2a0f1c2cd66f1769cbbccc19ddfa5e46", checked := Try.checked }
namespace Rows
def none {H : Type} : Left H := { results := [], args := [] }

/-- 'laws.FnExactValidRules': WHATEVER THE INPUT: true; the input reads as it did. -/
def fnExactValidRulesSpec : ChangeSpec := { name := "fnExactValidRules", fn := fun _ => fun
  | [d] => { results := [.lit (.bool true)], args := [d] }
  | _ => none }
def fnExactValidRulesRow : OpenClaim := { program := "ythddnjhdonnojaa", sum := "149d4ebbace2c686f113d8c4b6263a3f2a0f1c2cd66f1769cbbccc19ddfa5e46", func := "loop.example/g01268/laws.FnExactValidRules", spec := "fnExactValidRules", apart := false }
def FnExactValidRulesSaid : Prop := fnExactValidRulesRow.holds Try.pinned (OpenSpec.ofChange fnExactValidRulesSpec)

/-- ITS FALSE NEIGHBOUR: 'it returns false'. Refute it at one input. -/
def fnExactValidRulesWrong : ChangeSpec := { name := "fnExactValidRules", fn := fun _ => fun
  | [d] => { results := [.lit (.bool false)], args := [d] }
  | _ => none }
def FnExactValidRulesWrongFalsely : Prop := fnExactValidRulesRow.holds Try.pinned (OpenSpec.ofChange fnExactValidRulesWrong)

/-- 'laws.FnExactSameRules': WHATEVER THE INPUT: true; the input reads as it did. -/
def fnExactSameRulesSpec : ChangeSpec := { name := "fnExactSameRules", fn := fun _ => fun
  | [d1, d2] => { results := [.lit (.bool true)], args := [d1, d2] }
  | _ => none }
def fnExactSameRulesRow : OpenClaim := { program := "ythddnjhdonnojaa", sum := "149d4ebbace2c686f113d8c4b6263a3f2a0f1c2cd66f1769cbbccc19ddfa5e46", func := "loop.example/g01268/laws.FnExactSameRules", spec := "fnExactSameRules", inPlace := ["math.Float32bits"], apart := false }
def FnExactSameRulesSaid : Prop := fnExactSameRulesRow.holds Try.pinned (OpenSpec.ofChange fnExactSameRulesSpec)

/-- ITS FALSE NEIGHBOUR: 'it returns false'. Refute it at one input. -/
def fnExactSameRulesWrong : ChangeSpec := { name := "fnExactSameRules", fn := fun _ => fun
  | [d1, d2] => { results := [.lit (.bool false)], args := [d1, d2] }
  | _ => none }
def FnExactSameRulesWrongFalsely : Prop := fnExactSameRulesRow.holds Try.pinned (OpenSpec.ofChange fnExactSameRulesWrong)

/-- 'laws.FnExactSameTouches': WHATEVER THE INPUT: true; the input reads as it did. -/
def fnExactSameTouchesSpec : ChangeSpec := { name := "fnExactSameTouches", fn := fun _ => fun
  | [d1, d2] => { results := [.lit (.bool true)], args := [d1, d2] }
  | _ => none }
def fnExactSameTouchesRow : OpenClaim := { program := "ythddnjhdonnojaa", sum := "149d4ebbace2c686f113d8c4b6263a3f2a0f1c2cd66f1769cbbccc19ddfa5e46", func := "loop.example/g01268/laws.FnExactSameTouches", spec := "fnExactSameTouches", inPlace := ["math.Float32bits"], unfollowed := true, recurses := true, apart := false }
def FnExactSameTouchesSaid : Prop := fnExactSameTouchesRow.holds Try.pinned (OpenSpec.ofChange fnExactSameTouchesSpec)

/-- ITS FALSE NEIGHBOUR: 'it returns false'. Refute it at one input. -/
def fnExactSameTouchesWrong : ChangeSpec := { name := "fnExactSameTouches", fn := fun _ => fun
  | [d1, d2] => { results := [.lit (.bool false)], args := [d1, d2] }
  | _ => none }
def FnExactSameTouchesWrongFalsely : Prop := fnExactSameTouchesRow.holds Try.pinned (OpenSpec.ofChange fnExactSameTouchesWrong)

/-- 'laws.FnExactValidView': WHATEVER THE INPUT: true; the input reads as it did. -/
def fnExactValidViewSpec : ChangeSpec := { name := "fnExactValidView", fn := fun _ => fun
  | [d] => { results := [.lit (.bool true)], args := [d] }
  | _ => none }
def fnExactValidViewRow : OpenClaim := { program := "ythddnjhdonnojaa", sum := "149d4ebbace2c686f113d8c4b6263a3f2a0f1c2cd66f1769cbbccc19ddfa5e46", func := "loop.example/g01268/laws.FnExactValidView", spec := "fnExactValidView", unfollowed := true, recurses := true, apart := false }
def FnExactValidViewSaid : Prop := fnExactValidViewRow.holds Try.pinned (OpenSpec.ofChange fnExactValidViewSpec)

/-- ITS FALSE NEIGHBOUR: 'it returns false'. Refute it at one input. -/
def fnExactValidViewWrong : ChangeSpec := { name := "fnExactValidView", fn := fun _ => fun
  | [d] => { results := [.lit (.bool false)], args := [d] }
  | _ => none }
def FnExactValidViewWrongFalsely : Prop := fnExactValidViewRow.holds Try.pinned (OpenSpec.ofChange fnExactValidViewWrong)

/-- 'laws.FnExactSameKnocks': WHATEVER THE INPUT: true; the input reads as it did. -/
def fnExactSameKnocksSpec : ChangeSpec := { name := "fnExactSameKnocks", fn := fun _ => fun
  | [d1, d2] => { results := [.lit (.bool true)], args := [d1, d2] }
  | _ => none }
def fnExactSameKnocksRow : OpenClaim := { program := "ythddnjhdonnojaa", sum := "149d4ebbace2c686f113d8c4b6263a3f2a0f1c2cd66f1769cbbccc19ddfa5e46", func := "loop.example/g01268/laws.FnExactSameKnocks", spec := "fnExactSameKnocks", inPlace := ["math.Float32bits"], unfollowed := true, recurses := true, apart := false }
def FnExactSameKnocksSaid : Prop := fnExactSameKnocksRow.holds Try.pinned (OpenSpec.ofChange fnExactSameKnocksSpec)

/-- ITS FALSE NEIGHBOUR: 'it returns false'. Refute it at one input. -/
def fnExactSameKnocksWrong : ChangeSpec := { name := "fnExactSameKnocks", fn := fun _ => fun
  | [d1, d2] => { results := [.lit (.bool false)], args := [d1, d2] }
  | _ => none }
def FnExactSameKnocksWrongFalsely : Prop := fnExactSameKnocksRow.holds Try.pinned (OpenSpec.ofChange fnExactSameKnocksWrong)

/-- 'laws.FnExactSameBonds': WHATEVER THE INPUT: true; the input reads as it did. -/
def fnExactSameBondsSpec : ChangeSpec := { name := "fnExactSameBonds", fn := fun _ => fun
  | [d1, d2] => { results := [.lit (.bool true)], args := [d1, d2] }
  | _ => none }
def fnExactSameBondsRow : OpenClaim := { program := "ythddnjhdonnojaa", sum := "149d4ebbace2c686f113d8c4b6263a3f2a0f1c2cd66f1769cbbccc19ddfa5e46", func := "loop.example/g01268/laws.FnExactSameBonds", spec := "fnExactSameBonds", inPlace := ["math.Float32bits"], unfollowed := true, recurses := true, apart := false }
def FnExactSameBondsSaid : Prop := fnExactSameBondsRow.holds Try.pinned (OpenSpec.ofChange fnExactSameBondsSpec)

/-- ITS FALSE NEIGHBOUR: 'it returns false'. Refute it at one input. -/
def fnExactSameBondsWrong : ChangeSpec := { name := "fnExactSameBonds", fn := fun _ => fun
  | [d1, d2] => { results := [.lit (.bool false)], args := [d1, d2] }
  | _ => none }
def FnExactSameBondsWrongFalsely : Prop := fnExactSameBondsRow.holds Try.pinned (OpenSpec.ofChange fnExactSameBondsWrong)

/-- 'laws.FnExactSameView': WHATEVER THE INPUT: true; the input reads as it did. -/
def fnExactSameViewSpec : ChangeSpec := { name := "fnExactSameView", fn := fun _ => fun
  | [d1, d2] => { results := [.lit (.bool true)], args := [d1, d2] }
  | _ => none }
def fnExactSameViewRow : OpenClaim := { program := "ythddnjhdonnojaa", sum := "149d4ebbace2c686f113d8c4b6263a3f2a0f1c2cd66f1769cbbccc19ddfa5e46", func := "loop.example/g01268/laws.FnExactSameView", spec := "fnExactSameView", inPlace := ["math.Float32bits"], unfollowed := true, recurses := true, apart := false }
def FnExactSameViewSaid : Prop := fnExactSameViewRow.holds Try.pinned (OpenSpec.ofChange fnExactSameViewSpec)

/-- ITS FALSE NEIGHBOUR: 'it returns false'. Refute it at one input. -/
def fnExactSameViewWrong : ChangeSpec := { name := "fnExactSameView", fn := fun _ => fun
  | [d1, d2] => { results := [.lit (.bool false)], args := [d1, d2] }
  | _ => none }
def FnExactSameViewWrongFalsely : Prop := fnExactSameViewRow.holds Try.pinned (OpenSpec.ofChange fnExactSameViewWrong)

/-- 'laws.FnExactMeanOfView': WHATEVER THE INPUT: true; the input reads as it did. -/
def fnExactMeanOfViewSpec : ChangeSpec := { name := "fnExactMeanOfView", fn := fun _ => fun
  | [d] => { results := [.lit (.bool true)], args := [d] }
  | _ => none }
def fnExactMeanOfViewRow : OpenClaim := { program := "ythddnjhdonnojaa", sum := "149d4ebbace2c686f113d8c4b6263a3f2a0f1c2cd66f1769cbbccc19ddfa5e46", func := "loop.example/g01268/laws.FnExactMeanOfView", spec := "fnExactMeanOfView", unfollowed := true, recurses := true, apart := false }
def FnExactMeanOfViewSaid : Prop := fnExactMeanOfViewRow.holds Try.pinned (OpenSpec.ofChange fnExactMeanOfViewSpec)

/-- ITS FALSE NEIGHBOUR: 'it returns false'. Refute it at one input. -/
def fnExactMeanOfViewWrong : ChangeSpec := { name := "fnExactMeanOfView", fn := fun _ => fun
  | [d] => { results := [.lit (.bool false)], args := [d] }
  | _ => none }
def FnExactMeanOfViewWrongFalsely : Prop := fnExactMeanOfViewRow.holds Try.pinned (OpenSpec.ofChange fnExactMeanOfViewWrong)

/-- 'laws.FnExactHopperWalls': WHATEVER THE INPUT: true; the input reads as it did. -/
def fnExactHopperWallsSpec : ChangeSpec := { name := "fnExactHopperWalls", fn := fun _ => fun
  | [d1, d2, d3] => { results := [.lit (.bool true)], args := [d1, d2, d3] }
  | _ => none }
def fnExactHopperWallsRow : OpenClaim := { program := "ythddnjhdonnojaa", sum := "149d4ebbace2c686f113d8c4b6263a3f2a0f1c2cd66f1769cbbccc19ddfa5e46", func := "loop.example/g01268/laws.FnExactHopperWalls", spec := "fnExactHopperWalls", unfollowed := true, recurses := true, apart := false }
def FnExactHopperWallsSaid : Prop := fnExactHopperWallsRow.holds Try.pinned (OpenSpec.ofChange fnExactHopperWallsSpec)

/-- ITS FALSE NEIGHBOUR: 'it returns false'. Refute it at one input. -/
def fnExactHopperWallsWrong : ChangeSpec := { name := "fnExactHopperWalls", fn := fun _ => fun
  | [d1, d2, d3] => { results := [.lit (.bool false)], args := [d1, d2, d3] }
  | _ => none }
def FnExactHopperWallsWrongFalsely : Prop := fnExactHopperWallsRow.holds Try.pinned (OpenSpec.ofChange fnExactHopperWallsWrong)

/-- 'laws.FnExactVoidsOf': WHATEVER THE INPUT: true; the input reads as it did. -/
def fnExactVoidsOfSpec : ChangeSpec := { name := "fnExactVoidsOf", fn := fun _ => fun
  | [d1, d2] => { results := [.lit (.bool true)], args := [d1, d2] }
  | _ => none }
def fnExactVoidsOfRow : OpenClaim := { program := "ythddnjhdonnojaa", sum := "149d4ebbace2c686f113d8c4b6263a3f2a0f1c2cd66f1769cbbccc19ddfa5e46", func := "loop.example/g01268/laws.FnExactVoidsOf", spec := "fnExactVoidsOf", unfollowed := true, recurses := true, apart := false }
def FnExactVoidsOfSaid : Prop := fnExactVoidsOfRow.holds Try.pinned (OpenSpec.ofChange fnExactVoidsOfSpec)

/-- ITS FALSE NEIGHBOUR: 'it returns false'. Refute it at one input. -/
def fnExactVoidsOfWrong : ChangeSpec := { name := "fnExactVoidsOf", fn := fun _ => fun
  | [d1, d2] => { results := [.lit (.bool false)], args := [d1, d2] }
  | _ => none }
def FnExactVoidsOfWrongFalsely : Prop := fnExactVoidsOfRow.holds Try.pinned (OpenSpec.ofChange fnExactVoidsOfWrong)

/-- 'laws.FnExactAxesOfStress': WHATEVER THE INPUT: true; the input reads as it did. -/
def fnExactAxesOfStressSpec : ChangeSpec := { name := "fnExactAxesOfStress", fn := fun _ => fun
  | [d] => { results := [.lit (.bool true)], args := [d] }
  | _ => none }
def fnExactAxesOfStressRow : OpenClaim := { program := "ythddnjhdonnojaa", sum := "149d4ebbace2c686f113d8c4b6263a3f2a0f1c2cd66f1769cbbccc19ddfa5e46", func := "loop.example/g01268/laws.FnExactAxesOfStress", spec := "fnExactAxesOfStress", inPlace := ["math.sqrt", "math.Float64frombits", "math.Float64bits"], unfollowed := true, recurses := true, apart := false }
def FnExactAxesOfStressSaid : Prop := fnExactAxesOfStressRow.holds Try.pinned (OpenSpec.ofChange fnExactAxesOfStressSpec)

/-- ITS FALSE NEIGHBOUR: 'it returns false'. Refute it at one input. -/
def fnExactAxesOfStressWrong : ChangeSpec := { name := "fnExactAxesOfStress", fn := fun _ => fun
  | [d] => { results := [.lit (.bool false)], args := [d] }
  | _ => none }
def FnExactAxesOfStressWrongFalsely : Prop := fnExactAxesOfStressRow.holds Try.pinned (OpenSpec.ofChange fnExactAxesOfStressWrong)

/- THE SECOND FORM. 'bulk': how many values and letters a reading holds, each counted each time it is reached (what is shared counts as often as it is met; a slice's spare places count too). A statement '..UptoSaid' is the law's where the arguments, and the package variables that the reading takes, are together of bulk at most 1048576: NARROWER than '..Said'. Prove '..Said' where nothing that the law and all that it calls make is longer than what came in: it says more and counts as full. Else prove '..UptoSaid'. A law counts once. -/
mutual
def uptoBulk {H : Type} : DataW H → Nat
  | .lit (.string bytes) => bytes.length + 1
  | .lit _ => 1
  | .nil => 1
  | .ptr d => uptoBulk d + 1
  | .slice elems spare => uptoBulkAll elems + uptoBulkAll spare + 1
  | .agg parts => uptoBulkAll parts + 1
  | .iface _ d => uptoBulk d + 1
  | .map entries => uptoBulkEntries entries + 1
  | .held _ => 1
def uptoBulkAll {H : Type} : List (DataW H) → Nat
  | [] => 0
  | d :: r => uptoBulk d + uptoBulkAll r
def uptoBulkEntries {H : Type} : List (Lit × DataW H) → Nat
  | [] => 0
  | x :: r => uptoBulkEntry x + uptoBulkEntries r
def uptoBulkEntry {H : Type} : Lit × DataW H → Nat
  | (.string bytes, d) => bytes.length + uptoBulk d + 1
  | (_, d) => uptoBulk d + 1
 end
def uptoSmall : (H : Type) → List (DataW H) → Bool := fun _ ds => decide (uptoBulkAll ds ≤ 1048576)
def OpenSpec.upto (s : _root_.Go.ChangeSpec) : _root_.Go.OpenSpec := { _root_.Go.OpenSpec.ofChange s with cond := some uptoSmall }

/-- 'laws.FnExactValidRules', WHERE WHAT IT READS IS OF BULK AT MOST 1048576: true; the input reads as it did. -/
def fnExactValidRulesUptoRow : OpenClaim := { program := "ythddnjhdonnojaa", sum := "149d4ebbace2c686f113d8c4b6263a3f2a0f1c2cd66f1769cbbccc19ddfa5e46", func := "loop.example/g01268/laws.FnExactValidRules", spec := "fnExactValidRules", apart := false, narrowed := true }
def FnExactValidRulesUptoSaid : Prop := fnExactValidRulesUptoRow.holds Try.pinned (OpenSpec.upto fnExactValidRulesSpec)

/-- 'laws.FnExactSameRules', WHERE WHAT IT READS IS OF BULK AT MOST 1048576: true; the input reads as it did. -/
def fnExactSameRulesUptoRow : OpenClaim := { program := "ythddnjhdonnojaa", sum := "149d4ebbace2c686f113d8c4b6263a3f2a0f1c2cd66f1769cbbccc19ddfa5e46", func := "loop.example/g01268/laws.FnExactSameRules", spec := "fnExactSameRules", inPlace := ["math.Float32bits"], apart := false, narrowed := true }
def FnExactSameRulesUptoSaid : Prop := fnExactSameRulesUptoRow.holds Try.pinned (OpenSpec.upto fnExactSameRulesSpec)

/-- 'laws.FnExactSameTouches', WHERE WHAT IT READS IS OF BULK AT MOST 1048576: true; the input reads as it did. -/
def fnExactSameTouchesUptoRow : OpenClaim := { program := "ythddnjhdonnojaa", sum := "149d4ebbace2c686f113d8c4b6263a3f2a0f1c2cd66f1769cbbccc19ddfa5e46", func := "loop.example/g01268/laws.FnExactSameTouches", spec := "fnExactSameTouches", inPlace := ["math.Float32bits"], unfollowed := true, recurses := true, apart := false, narrowed := true }
def FnExactSameTouchesUptoSaid : Prop := fnExactSameTouchesUptoRow.holds Try.pinned (OpenSpec.upto fnExactSameTouchesSpec)

/-- 'laws.FnExactValidView', WHERE WHAT IT READS IS OF BULK AT MOST 1048576: true; the input reads as it did. -/
def fnExactValidViewUptoRow : OpenClaim := { program := "ythddnjhdonnojaa", sum := "149d4ebbace2c686f113d8c4b6263a3f2a0f1c2cd66f1769cbbccc19ddfa5e46", func := "loop.example/g01268/laws.FnExactValidView", spec := "fnExactValidView", unfollowed := true, recurses := true, apart := false, narrowed := true }
def FnExactValidViewUptoSaid : Prop := fnExactValidViewUptoRow.holds Try.pinned (OpenSpec.upto fnExactValidViewSpec)

/-- 'laws.FnExactSameKnocks', WHERE WHAT IT READS IS OF BULK AT MOST 1048576: true; the input reads as it did. -/
def fnExactSameKnocksUptoRow : OpenClaim := { program := "ythddnjhdonnojaa", sum := "149d4ebbace2c686f113d8c4b6263a3f2a0f1c2cd66f1769cbbccc19ddfa5e46", func := "loop.example/g01268/laws.FnExactSameKnocks", spec := "fnExactSameKnocks", inPlace := ["math.Float32bits"], unfollowed := true, recurses := true, apart := false, narrowed := true }
def FnExactSameKnocksUptoSaid : Prop := fnExactSameKnocksUptoRow.holds Try.pinned (OpenSpec.upto fnExactSameKnocksSpec)

/-- 'laws.FnExactSameBonds', WHERE WHAT IT READS IS OF BULK AT MOST 1048576: true; the input reads as it did. -/
def fnExactSameBondsUptoRow : OpenClaim := { program := "ythddnjhdonnojaa", sum := "149d4ebbace2c686f113d8c4b6263a3f2a0f1c2cd66f1769cbbccc19ddfa5e46", func := "loop.example/g01268/laws.FnExactSameBonds", spec := "fnExactSameBonds", inPlace := ["math.Float32bits"], unfollowed := true, recurses := true, apart := false, narrowed := true }
def FnExactSameBondsUptoSaid : Prop := fnExactSameBondsUptoRow.holds Try.pinned (OpenSpec.upto fnExactSameBondsSpec)

/-- 'laws.FnExactSameView', WHERE WHAT IT READS IS OF BULK AT MOST 1048576: true; the input reads as it did. -/
def fnExactSameViewUptoRow : OpenClaim := { program := "ythddnjhdonnojaa", sum := "149d4ebbace2c686f113d8c4b6263a3f2a0f1c2cd66f1769cbbccc19ddfa5e46", func := "loop.example/g01268/laws.FnExactSameView", spec := "fnExactSameView", inPlace := ["math.Float32bits"], unfollowed := true, recurses := true, apart := false, narrowed := true }
def FnExactSameViewUptoSaid : Prop := fnExactSameViewUptoRow.holds Try.pinned (OpenSpec.upto fnExactSameViewSpec)

/-- 'laws.FnExactMeanOfView', WHERE WHAT IT READS IS OF BULK AT MOST 1048576: true; the input reads as it did. -/
def fnExactMeanOfViewUptoRow : OpenClaim := { program := "ythddnjhdonnojaa", sum := "149d4ebbace2c686f113d8c4b6263a3f2a0f1c2cd66f1769cbbccc19ddfa5e46", func := "loop.example/g01268/laws.FnExactMeanOfView", spec := "fnExactMeanOfView", unfollowed := true, recurses := true, apart := false, narrowed := true }
def FnExactMeanOfViewUptoSaid : Prop := fnExactMeanOfViewUptoRow.holds Try.pinned (OpenSpec.upto fnExactMeanOfViewSpec)

/-- 'laws.FnExactHopperWalls', WHERE WHAT IT READS IS OF BULK AT MOST 1048576: true; the input reads as it did. -/
def fnExactHopperWallsUptoRow : OpenClaim := { program := "ythddnjhdonnojaa", sum := "149d4ebbace2c686f113d8c4b6263a3f2a0f1c2cd66f1769cbbccc19ddfa5e46", func := "loop.example/g01268/laws.FnExactHopperWalls", spec := "fnExactHopperWalls", unfollowed := true, recurses := true, apart := false, narrowed := true }
def FnExactHopperWallsUptoSaid : Prop := fnExactHopperWallsUptoRow.holds Try.pinned (OpenSpec.upto fnExactHopperWallsSpec)

/-- 'laws.FnExactVoidsOf', WHERE WHAT IT READS IS OF BULK AT MOST 1048576: true; the input reads as it did. -/
def fnExactVoidsOfUptoRow : OpenClaim := { program := "ythddnjhdonnojaa", sum := "149d4ebbace2c686f113d8c4b6263a3f2a0f1c2cd66f1769cbbccc19ddfa5e46", func := "loop.example/g01268/laws.FnExactVoidsOf", spec := "fnExactVoidsOf", unfollowed := true, recurses := true, apart := false, narrowed := true }
def FnExactVoidsOfUptoSaid : Prop := fnExactVoidsOfUptoRow.holds Try.pinned (OpenSpec.upto fnExactVoidsOfSpec)

/-- 'laws.FnExactAxesOfStress', WHERE WHAT IT READS IS OF BULK AT MOST 1048576: true; the input reads as it did. -/
def fnExactAxesOfStressUptoRow : OpenClaim := { program := "ythddnjhdonnojaa", sum := "149d4ebbace2c686f113d8c4b6263a3f2a0f1c2cd66f1769cbbccc19ddfa5e46", func := "loop.example/g01268/laws.FnExactAxesOfStress", spec := "fnExactAxesOfStress", inPlace := ["math.sqrt", "math.Float64frombits", "math.Float64bits"], unfollowed := true, recurses := true, apart := false, narrowed := true }
def FnExactAxesOfStressUptoSaid : Prop := fnExactAxesOfStressUptoRow.holds Try.pinned (OpenSpec.upto fnExactAxesOfStressSpec)

end Rows
end Go.Proofs.Ythddnjhdonnojaa
