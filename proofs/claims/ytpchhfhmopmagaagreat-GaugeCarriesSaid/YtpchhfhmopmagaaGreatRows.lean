/-
  No cell of these rows narrows 'for every input' (looked for: loops, veiled, ifaces, maps, wideKeys, modest, calm, conditions, laid).
  DERIVED. THE GIVEN ROWS OF THIS SEAT. 7 by the template 'for every input the law returns true; each argument reads behind the call as it read before'; 0 by the template 'total and deterministic' (their statements: YtpchhfhmopmagaaGreatTotals.lean).
  GIVEN WITH THE SEED: the statements are not yours to turn. If you find one false, say at which input.
  Laid BY PROGRAM, IN A SANDBOX (cutbox-rows.mjs): the forced cells as the released guide's own fill.sh prints them over the translation b64072e55db43bac… (all of the seat's roots in one cut). By AI agents, Wed Nov 11 2026. No macro, syntax, notation, axiom, sorry.
-/
import Derived.Test.YtpchhfhmopmagaaGreatChecked
import GoSem.Claim
import GoSem.ClaimJoined
import GoSem.ClaimMapViews
import Derived.JoinedTies
import Derived.KernelRfl
namespace Go.Proofs.YtpchhfhmopmagaaGreat
/- THE CELL 'sum', in the pinned program and in every row, IS THE sha256 OF THE DUMP (.gsa) THAT YtpchhfhmopmagaaGreatProg.lean LOADS. Nothing in Lean hashes anything: it is a label: what it is worth is what the hold of that sum in a sandbox is worth. -/
noncomputable def Tryz.pinned : Pinned := { name := "ytpchhfhmopmagaagreat", sum := "b64072e55db43bacbc9fa15d0cae98a1f57ac0f31393278b87ea8df59b99d3bf", checked := Tryz.checked }
namespace Rows
def none {H : Type} : Left H := { results := [], args := [] }

/-- 'flashlocklaw23.DeltaTells': WHATEVER THE INPUT: true; the input reads as it did. -/
def deltaTellsSpec : ChangeSpec := { name := "deltaTells", fn := fun _ => fun
  | [d1, d2] => { results := [.lit (.bool true)], args := [d1, d2] }
  | _ => none }
def deltaTellsRow : OpenClaim := { program := "ytpchhfhmopmagaagreat", sum := "b64072e55db43bacbc9fa15d0cae98a1f57ac0f31393278b87ea8df59b99d3bf", func := "flashlock/flashlocklaw23.DeltaTells", spec := "deltaTells", inPlace := ["math.Float64bits", "math.Float64frombits", "math.RoundToEven"], unfollowed := true, recurses := true, apart := false }
def DeltaTellsSaid : Prop := deltaTellsRow.holds Tryz.pinned (OpenSpec.ofChange deltaTellsSpec)

/-- ITS FALSE NEIGHBOUR: 'it returns false'. Refute it at one input. -/
def deltaTellsWrong : ChangeSpec := { name := "deltaTells", fn := fun _ => fun
  | [d1, d2] => { results := [.lit (.bool false)], args := [d1, d2] }
  | _ => none }
def DeltaTellsWrongFalsely : Prop := deltaTellsRow.holds Tryz.pinned (OpenSpec.ofChange deltaTellsWrong)

/-- 'flashlocklaw26.GaugeUnder': WHATEVER THE INPUT: true; the input reads as it did. -/
def gaugeUnderSpec : ChangeSpec := { name := "gaugeUnder", fn := fun _ => fun
  | [d1, d2, d3] => { results := [.lit (.bool true)], args := [d1, d2, d3] }
  | _ => none }
def gaugeUnderRow : OpenClaim := { program := "ytpchhfhmopmagaagreat", sum := "b64072e55db43bacbc9fa15d0cae98a1f57ac0f31393278b87ea8df59b99d3bf", func := "flashlock/flashlocklaw26.GaugeUnder", spec := "gaugeUnder", inPlace := ["math.Float64bits", "math.Float64frombits", "math.RoundToEven"], unfollowed := true, recurses := true, apart := false }
def GaugeUnderSaid : Prop := gaugeUnderRow.holds Tryz.pinned (OpenSpec.ofChange gaugeUnderSpec)

/-- ITS FALSE NEIGHBOUR: 'it returns false'. Refute it at one input. -/
def gaugeUnderWrong : ChangeSpec := { name := "gaugeUnder", fn := fun _ => fun
  | [d1, d2, d3] => { results := [.lit (.bool false)], args := [d1, d2, d3] }
  | _ => none }
def GaugeUnderWrongFalsely : Prop := gaugeUnderRow.holds Tryz.pinned (OpenSpec.ofChange gaugeUnderWrong)

/-- 'flashlocklaw26.GaugePlays': WHATEVER THE INPUT: true; the input reads as it did. -/
def gaugePlaysSpec : ChangeSpec := { name := "gaugePlays", fn := fun _ => fun
  | [d1, d2, d3] => { results := [.lit (.bool true)], args := [d1, d2, d3] }
  | _ => none }
def gaugePlaysRow : OpenClaim := { program := "ytpchhfhmopmagaagreat", sum := "b64072e55db43bacbc9fa15d0cae98a1f57ac0f31393278b87ea8df59b99d3bf", func := "flashlock/flashlocklaw26.GaugePlays", spec := "gaugePlays", inPlace := ["math.Float64bits", "math.Float64frombits", "math.RoundToEven"], unfollowed := true, recurses := true, apart := false }
def GaugePlaysSaid : Prop := gaugePlaysRow.holds Tryz.pinned (OpenSpec.ofChange gaugePlaysSpec)

/-- ITS FALSE NEIGHBOUR: 'it returns false'. Refute it at one input. -/
def gaugePlaysWrong : ChangeSpec := { name := "gaugePlays", fn := fun _ => fun
  | [d1, d2, d3] => { results := [.lit (.bool false)], args := [d1, d2, d3] }
  | _ => none }
def GaugePlaysWrongFalsely : Prop := gaugePlaysRow.holds Tryz.pinned (OpenSpec.ofChange gaugePlaysWrong)

/-- 'flashlocklaw27.LendTells': WHATEVER THE INPUT: true; the input reads as it did. -/
def lendTellsSpec : ChangeSpec := { name := "lendTells", fn := fun _ => fun
  | [d1, d2, d3] => { results := [.lit (.bool true)], args := [d1, d2, d3] }
  | _ => none }
def lendTellsRow : OpenClaim := { program := "ytpchhfhmopmagaagreat", sum := "b64072e55db43bacbc9fa15d0cae98a1f57ac0f31393278b87ea8df59b99d3bf", func := "flashlock/flashlocklaw27.LendTells", spec := "lendTells", inPlace := ["math.Float64bits", "math.Float64frombits", "math.RoundToEven"], unfollowed := true, recurses := true, apart := false }
def LendTellsSaid : Prop := lendTellsRow.holds Tryz.pinned (OpenSpec.ofChange lendTellsSpec)

/-- ITS FALSE NEIGHBOUR: 'it returns false'. Refute it at one input. -/
def lendTellsWrong : ChangeSpec := { name := "lendTells", fn := fun _ => fun
  | [d1, d2, d3] => { results := [.lit (.bool false)], args := [d1, d2, d3] }
  | _ => none }
def LendTellsWrongFalsely : Prop := lendTellsRow.holds Tryz.pinned (OpenSpec.ofChange lendTellsWrong)

/-- 'flashlocklaw27.LendRules': WHATEVER THE INPUT: true; the input reads as it did. -/
def lendRulesSpec : ChangeSpec := { name := "lendRules", fn := fun _ => fun
  | [d1, d2, d3] => { results := [.lit (.bool true)], args := [d1, d2, d3] }
  | _ => none }
def lendRulesRow : OpenClaim := { program := "ytpchhfhmopmagaagreat", sum := "b64072e55db43bacbc9fa15d0cae98a1f57ac0f31393278b87ea8df59b99d3bf", func := "flashlock/flashlocklaw27.LendRules", spec := "lendRules", inPlace := ["math.Float64bits", "math.Float64frombits", "math.RoundToEven"], unfollowed := true, recurses := true, apart := false }
def LendRulesSaid : Prop := lendRulesRow.holds Tryz.pinned (OpenSpec.ofChange lendRulesSpec)

/-- ITS FALSE NEIGHBOUR: 'it returns false'. Refute it at one input. -/
def lendRulesWrong : ChangeSpec := { name := "lendRules", fn := fun _ => fun
  | [d1, d2, d3] => { results := [.lit (.bool false)], args := [d1, d2, d3] }
  | _ => none }
def LendRulesWrongFalsely : Prop := lendRulesRow.holds Tryz.pinned (OpenSpec.ofChange lendRulesWrong)

/-- 'flashlocklaw26.GaugeCarries': WHATEVER THE INPUT: true; the input reads as it did. -/
def gaugeCarriesSpec : ChangeSpec := { name := "gaugeCarries", fn := fun _ => fun
  | [d1, d2, d3] => { results := [.lit (.bool true)], args := [d1, d2, d3] }
  | _ => none }
def gaugeCarriesRow : OpenClaim := { program := "ytpchhfhmopmagaagreat", sum := "b64072e55db43bacbc9fa15d0cae98a1f57ac0f31393278b87ea8df59b99d3bf", func := "flashlock/flashlocklaw26.GaugeCarries", spec := "gaugeCarries", inPlace := ["math.Float64bits", "math.Float64frombits", "math.RoundToEven", "maps.clone"], unfollowed := true, recurses := true, apart := false }
def GaugeCarriesSaid : Prop := gaugeCarriesRow.holds Tryz.pinned (OpenSpec.ofChange gaugeCarriesSpec)

/-- ITS FALSE NEIGHBOUR: 'it returns false'. Refute it at one input. -/
def gaugeCarriesWrong : ChangeSpec := { name := "gaugeCarries", fn := fun _ => fun
  | [d1, d2, d3] => { results := [.lit (.bool false)], args := [d1, d2, d3] }
  | _ => none }
def GaugeCarriesWrongFalsely : Prop := gaugeCarriesRow.holds Tryz.pinned (OpenSpec.ofChange gaugeCarriesWrong)

/-- 'flashlocklaw23.DeltaMakes': WHATEVER THE INPUT: true; the input reads as it did. -/
def deltaMakesSpec : ChangeSpec := { name := "deltaMakes", fn := fun _ => fun
  | [d1, d2] => { results := [.lit (.bool true)], args := [d1, d2] }
  | _ => none }
def deltaMakesRow : OpenClaim := { program := "ytpchhfhmopmagaagreat", sum := "b64072e55db43bacbc9fa15d0cae98a1f57ac0f31393278b87ea8df59b99d3bf", func := "flashlock/flashlocklaw23.DeltaMakes", spec := "deltaMakes", inPlace := ["math.Float64bits", "math.Float64frombits", "math.RoundToEven"], unfollowed := true, recurses := true, apart := false }
def DeltaMakesSaid : Prop := deltaMakesRow.holds Tryz.pinned (OpenSpec.ofChange deltaMakesSpec)

/-- ITS FALSE NEIGHBOUR: 'it returns false'. Refute it at one input. -/
def deltaMakesWrong : ChangeSpec := { name := "deltaMakes", fn := fun _ => fun
  | [d1, d2] => { results := [.lit (.bool false)], args := [d1, d2] }
  | _ => none }
def DeltaMakesWrongFalsely : Prop := deltaMakesRow.holds Tryz.pinned (OpenSpec.ofChange deltaMakesWrong)

/- THE SECOND FORM. 'bulk': how many values and letters a reading holds, each counted each time it is reached (what is shared counts as often as it is met; a slice's spare places count too). A statement '..UptoSaid' is the law's where the arguments, and the package variables that the reading takes, are together of bulk at most 1048576: NARROWER than '..Said'. Prove '..Said' where nothing that the law and all that it calls make is longer than what came in: it says more and counts as full. Else prove '..UptoSaid'. A law counts once. -/
mutual
def uptoBulk {H : Type} : DataW H → Nat
  | .lit (.string bytes) => bytes.length + 1
  | .lit _ => 1
  | .nil => 1
  | .ptr d => uptoBulk d + 1
  | .slice elems spare => uptoBulkAll elems + uptoBulkAll spare + 1
  | .agg parts => uptoBulkAll parts + 1
  | .iface _ d => uptoBulk d + 1
  | .map entries => uptoBulkEntries entries + 1
  | .held _ => 1
def uptoBulkAll {H : Type} : List (DataW H) → Nat
  | [] => 0
  | d :: r => uptoBulk d + uptoBulkAll r
def uptoBulkEntries {H : Type} : List (Lit × DataW H) → Nat
  | [] => 0
  | x :: r => uptoBulkEntry x + uptoBulkEntries r
def uptoBulkEntry {H : Type} : Lit × DataW H → Nat
  | (.string bytes, d) => bytes.length + uptoBulk d + 1
  | (_, d) => uptoBulk d + 1
 end
def uptoSmall : (H : Type) → List (DataW H) → Bool := fun _ ds => decide (uptoBulkAll ds ≤ 1048576)
def OpenSpec.upto (s : _root_.Go.ChangeSpec) : _root_.Go.OpenSpec := { _root_.Go.OpenSpec.ofChange s with cond := some uptoSmall }

/-- 'flashlocklaw23.DeltaTells', WHERE WHAT IT READS IS OF BULK AT MOST 1048576: true; the input reads as it did. -/
def deltaTellsUptoRow : OpenClaim := { program := "ytpchhfhmopmagaagreat", sum := "b64072e55db43bacbc9fa15d0cae98a1f57ac0f31393278b87ea8df59b99d3bf", func := "flashlock/flashlocklaw23.DeltaTells", spec := "deltaTells", inPlace := ["math.Float64bits", "math.Float64frombits", "math.RoundToEven"], unfollowed := true, recurses := true, apart := false, narrowed := true }
def DeltaTellsUptoSaid : Prop := deltaTellsUptoRow.holds Tryz.pinned (OpenSpec.upto deltaTellsSpec)

/-- 'flashlocklaw26.GaugeUnder', WHERE WHAT IT READS IS OF BULK AT MOST 1048576: true; the input reads as it did. -/
def gaugeUnderUptoRow : OpenClaim := { program := "ytpchhfhmopmagaagreat", sum := "b64072e55db43bacbc9fa15d0cae98a1f57ac0f31393278b87ea8df59b99d3bf", func := "flashlock/flashlocklaw26.GaugeUnder", spec := "gaugeUnder", inPlace := ["math.Float64bits", "math.Float64frombits", "math.RoundToEven"], unfollowed := true, recurses := true, apart := false, narrowed := true }
def GaugeUnderUptoSaid : Prop := gaugeUnderUptoRow.holds Tryz.pinned (OpenSpec.upto gaugeUnderSpec)

/-- 'flashlocklaw26.GaugePlays', WHERE WHAT IT READS IS OF BULK AT MOST 1048576: true; the input reads as it did. -/
def gaugePlaysUptoRow : OpenClaim := { program := "ytpchhfhmopmagaagreat", sum := "b64072e55db43bacbc9fa15d0cae98a1f57ac0f31393278b87ea8df59b99d3bf", func := "flashlock/flashlocklaw26.GaugePlays", spec := "gaugePlays", inPlace := ["math.Float64bits", "math.Float64frombits", "math.RoundToEven"], unfollowed := true, recurses := true, apart := false, narrowed := true }
def GaugePlaysUptoSaid : Prop := gaugePlaysUptoRow.holds Tryz.pinned (OpenSpec.upto gaugePlaysSpec)

/-- 'flashlocklaw27.LendTells', WHERE WHAT IT READS IS OF BULK AT MOST 1048576: true; the input reads as it did. -/
def lendTellsUptoRow : OpenClaim := { program := "ytpchhfhmopmagaagreat", sum := "b64072e55db43bacbc9fa15d0cae98a1f57ac0f31393278b87ea8df59b99d3bf", func := "flashlock/flashlocklaw27.LendTells", spec := "lendTells", inPlace := ["math.Float64bits", "math.Float64frombits", "math.RoundToEven"], unfollowed := true, recurses := true, apart := false, narrowed := true }
def LendTellsUptoSaid : Prop := lendTellsUptoRow.holds Tryz.pinned (OpenSpec.upto lendTellsSpec)

/-- 'flashlocklaw27.LendRules', WHERE WHAT IT READS IS OF BULK AT MOST 1048576: true; the input reads as it did. -/
def lendRulesUptoRow : OpenClaim := { program := "ytpchhfhmopmagaagreat", sum := "b64072e55db43bacbc9fa15d0cae98a1f57ac0f31393278b87ea8df59b99d3bf", func := "flashlock/flashlocklaw27.LendRules", spec := "lendRules", inPlace := ["math.Float64bits", "math.Float64frombits", "math.RoundToEven"], unfollowed := true, recurses := true, apart := false, narrowed := true }
def LendRulesUptoSaid : Prop := lendRulesUptoRow.holds Tryz.pinned (OpenSpec.upto lendRulesSpec)

/-- 'flashlocklaw26.GaugeCarries', WHERE WHAT IT READS IS OF BULK AT MOST 1048576: true; the input reads as it did. -/
def gaugeCarriesUptoRow : OpenClaim := { program := "ytpchhfhmopmagaagreat", sum := "b64072e55db43bacbc9fa15d0cae98a1f57ac0f31393278b87ea8df59b99d3bf", func := "flashlock/flashlocklaw26.GaugeCarries", spec := "gaugeCarries", inPlace := ["math.Float64bits", "math.Float64frombits", "math.RoundToEven", "maps.clone"], unfollowed := true, recurses := true, apart := false, narrowed := true }
def GaugeCarriesUptoSaid : Prop := gaugeCarriesUptoRow.holds Tryz.pinned (OpenSpec.upto gaugeCarriesSpec)

/-- 'flashlocklaw23.DeltaMakes', WHERE WHAT IT READS IS OF BULK AT MOST 1048576: true; the input reads as it did. -/
def deltaMakesUptoRow : OpenClaim := { program := "ytpchhfhmopmagaagreat", sum := "b64072e55db43bacbc9fa15d0cae98a1f57ac0f31393278b87ea8df59b99d3bf", func := "flashlock/flashlocklaw23.DeltaMakes", spec := "deltaMakes", inPlace := ["math.Float64bits", "math.Float64frombits", "math.RoundToEven"], unfollowed := true, recurses := true, apart := false, narrowed := true }
def DeltaMakesUptoSaid : Prop := deltaMakesUptoRow.holds Tryz.pinned (OpenSpec.upto deltaMakesSpec)

end Rows
end Go.Proofs.YtpchhfhmopmagaaGreat
