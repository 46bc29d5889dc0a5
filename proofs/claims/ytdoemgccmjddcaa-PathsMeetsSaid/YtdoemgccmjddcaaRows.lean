/-
  No cell of these rows narrows 'for every input' (looked for: loops, veiled, ifaces, maps, wideKeys, modest, calm, conditions, laid).
  DERIVED. THE GIVEN ROWS OF THIS SEAT. 11 by the template 'for every input the law returns true; each argument reads behind the call as it read before'; 0 by the template 'total and deterministic' (their statements: YtdoemgccmjddcaaTotals.lean).
  GIVEN WITH THE SEED: the statements are not yours to turn. If you find one false, say at which input.
  Laid BY PROGRAM, IN A SANDBOX (cutbox-rows.mjs): the forced cells as the released guide's own fill.sh prints them over the translation d63ec1fd77ee7688… (all of the seat's roots in one cut). By AI agents, Wed Nov 11 2026. No macro, syntax, notation, axiom, sorry.
-/
import Derived.Test.YtdoemgccmjddcaaChecked
import GoSem.Claim
import GoSem.ClaimJoined
import GoSem.ClaimMapViews
import Derived.JoinedTies
import Derived.KernelRfl
namespace Go.Proofs.Ytdoemgccmjddcaa
/- THE CELL 'sum', in the pinned program and in every row, IS THE sha256 OF THE DUMP (.gsa) THAT YtdoemgccmjddcaaProg.lean LOADS. Nothing in Lean hashes anything: it is a label: what it is worth is what the hold of that sum in a sandbox is worth. -/
noncomputable def Try.pinned : Pinned := { name := "ytdoemgccmjddcaa", sum := "d63ec1fd77ee768808eb02e55f722ba4e7c652e4abe8f5a20b064e0533149e40", checked := Try.checked }
namespace Rows
def none {H : Type} : Left H := { results := [], args := [] }

/-- 'flashlocklaw46.ScriptOnce': WHATEVER THE INPUT: true; the input reads as it did. -/
def scriptOnceSpec : ChangeSpec := { name := "scriptOnce", fn := fun _ => fun
  | [d] => { results := [.lit (.bool true)], args := [d] }
  | _ => none }
def scriptOnceRow : OpenClaim := { program := "ytdoemgccmjddcaa", sum := "d63ec1fd77ee768808eb02e55f722ba4e7c652e4abe8f5a20b064e0533149e40", func := "flashlock/flashlocklaw46.ScriptOnce", spec := "scriptOnce", unfollowed := true, recurses := true, apart := false }
def ScriptOnceSaid : Prop := scriptOnceRow.holds Try.pinned (OpenSpec.ofChange scriptOnceSpec)

/-- ITS FALSE NEIGHBOUR: 'it returns false'. Refute it at one input. -/
def scriptOnceWrong : ChangeSpec := { name := "scriptOnce", fn := fun _ => fun
  | [d] => { results := [.lit (.bool false)], args := [d] }
  | _ => none }
def ScriptOnceWrongFalsely : Prop := scriptOnceRow.holds Try.pinned (OpenSpec.ofChange scriptOnceWrong)

/-- 'flashlocklaw50.StatsTells': WHATEVER THE INPUT: true; the input reads as it did. -/
def statsTellsSpec : ChangeSpec := { name := "statsTells", fn := fun _ => fun
  | [d1, d2, d3] => { results := [.lit (.bool true)], args := [d1, d2, d3] }
  | _ => none }
def statsTellsRow : OpenClaim := { program := "ytdoemgccmjddcaa", sum := "d63ec1fd77ee768808eb02e55f722ba4e7c652e4abe8f5a20b064e0533149e40", func := "flashlock/flashlocklaw50.StatsTells", spec := "statsTells", inPlace := ["math.Float64frombits", "math.Float64bits"], apart := false }
def StatsTellsSaid : Prop := statsTellsRow.holds Try.pinned (OpenSpec.ofChange statsTellsSpec)

/-- ITS FALSE NEIGHBOUR: 'it returns false'. Refute it at one input. -/
def statsTellsWrong : ChangeSpec := { name := "statsTells", fn := fun _ => fun
  | [d1, d2, d3] => { results := [.lit (.bool false)], args := [d1, d2, d3] }
  | _ => none }
def StatsTellsWrongFalsely : Prop := statsTellsRow.holds Try.pinned (OpenSpec.ofChange statsTellsWrong)

/-- 'flashlocklaw50.StatsReads': WHATEVER THE INPUT: true; the input reads as it did. -/
def statsReadsSpec : ChangeSpec := { name := "statsReads", fn := fun _ => fun
  | [d1, d2] => { results := [.lit (.bool true)], args := [d1, d2] }
  | _ => none }
def statsReadsRow : OpenClaim := { program := "ytdoemgccmjddcaa", sum := "d63ec1fd77ee768808eb02e55f722ba4e7c652e4abe8f5a20b064e0533149e40", func := "flashlock/flashlocklaw50.StatsReads", spec := "statsReads", unfollowed := true, recurses := true, apart := false }
def StatsReadsSaid : Prop := statsReadsRow.holds Try.pinned (OpenSpec.ofChange statsReadsSpec)

/-- ITS FALSE NEIGHBOUR: 'it returns false'. Refute it at one input. -/
def statsReadsWrong : ChangeSpec := { name := "statsReads", fn := fun _ => fun
  | [d1, d2] => { results := [.lit (.bool false)], args := [d1, d2] }
  | _ => none }
def StatsReadsWrongFalsely : Prop := statsReadsRow.holds Try.pinned (OpenSpec.ofChange statsReadsWrong)

/-- 'flashlocklaw17.ClassTells': WHATEVER THE INPUT: true; the input reads as it did. -/
def classTellsSpec : ChangeSpec := { name := "classTells", fn := fun _ => fun
  | [d1, d2, d3] => { results := [.lit (.bool true)], args := [d1, d2, d3] }
  | _ => none }
def classTellsRow : OpenClaim := { program := "ytdoemgccmjddcaa", sum := "d63ec1fd77ee768808eb02e55f722ba4e7c652e4abe8f5a20b064e0533149e40", func := "flashlock/flashlocklaw17.ClassTells", spec := "classTells", inPlace := ["math.Float64frombits", "math.Float64bits", "math.RoundToEven"], apart := false }
def ClassTellsSaid : Prop := classTellsRow.holds Try.pinned (OpenSpec.ofChange classTellsSpec)

/-- ITS FALSE NEIGHBOUR: 'it returns false'. Refute it at one input. -/
def classTellsWrong : ChangeSpec := { name := "classTells", fn := fun _ => fun
  | [d1, d2, d3] => { results := [.lit (.bool false)], args := [d1, d2, d3] }
  | _ => none }
def ClassTellsWrongFalsely : Prop := classTellsRow.holds Try.pinned (OpenSpec.ofChange classTellsWrong)

/-- 'flashlocklaw17.ClassSorts': WHATEVER THE INPUT: true; the input reads as it did. -/
def classSortsSpec : ChangeSpec := { name := "classSorts", fn := fun _ => fun
  | [d1, d2] => { results := [.lit (.bool true)], args := [d1, d2] }
  | _ => none }
def classSortsRow : OpenClaim := { program := "ytdoemgccmjddcaa", sum := "d63ec1fd77ee768808eb02e55f722ba4e7c652e4abe8f5a20b064e0533149e40", func := "flashlock/flashlocklaw17.ClassSorts", spec := "classSorts", inPlace := ["math.Float64bits", "math.Float64frombits", "math.RoundToEven"], unfollowed := true, recurses := true, apart := false }
def ClassSortsSaid : Prop := classSortsRow.holds Try.pinned (OpenSpec.ofChange classSortsSpec)

/-- ITS FALSE NEIGHBOUR: 'it returns false'. Refute it at one input. -/
def classSortsWrong : ChangeSpec := { name := "classSorts", fn := fun _ => fun
  | [d1, d2] => { results := [.lit (.bool false)], args := [d1, d2] }
  | _ => none }
def ClassSortsWrongFalsely : Prop := classSortsRow.holds Try.pinned (OpenSpec.ofChange classSortsWrong)

/-- 'flashlocklaw34.LedgerTells': WHATEVER THE INPUT: true; the input reads as it did. -/
def ledgerTellsSpec : ChangeSpec := { name := "ledgerTells", fn := fun _ => fun
  | [d1, d2, d3] => { results := [.lit (.bool true)], args := [d1, d2, d3] }
  | _ => none }
def ledgerTellsRow : OpenClaim := { program := "ytdoemgccmjddcaa", sum := "d63ec1fd77ee768808eb02e55f722ba4e7c652e4abe8f5a20b064e0533149e40", func := "flashlock/flashlocklaw34.LedgerTells", spec := "ledgerTells", unfollowed := true, recurses := true, apart := false }
def LedgerTellsSaid : Prop := ledgerTellsRow.holds Try.pinned (OpenSpec.ofChange ledgerTellsSpec)

/-- ITS FALSE NEIGHBOUR: 'it returns false'. Refute it at one input. -/
def ledgerTellsWrong : ChangeSpec := { name := "ledgerTells", fn := fun _ => fun
  | [d1, d2, d3] => { results := [.lit (.bool false)], args := [d1, d2, d3] }
  | _ => none }
def LedgerTellsWrongFalsely : Prop := ledgerTellsRow.holds Try.pinned (OpenSpec.ofChange ledgerTellsWrong)

/-- 'flashlocklaw34.LedgerParts': WHATEVER THE INPUT: true; the input reads as it did. -/
def ledgerPartsSpec : ChangeSpec := { name := "ledgerParts", fn := fun _ => fun
  | [d1, d2] => { results := [.lit (.bool true)], args := [d1, d2] }
  | _ => none }
def ledgerPartsRow : OpenClaim := { program := "ytdoemgccmjddcaa", sum := "d63ec1fd77ee768808eb02e55f722ba4e7c652e4abe8f5a20b064e0533149e40", func := "flashlock/flashlocklaw34.LedgerParts", spec := "ledgerParts", unfollowed := true, recurses := true, apart := false }
def LedgerPartsSaid : Prop := ledgerPartsRow.holds Try.pinned (OpenSpec.ofChange ledgerPartsSpec)

/-- ITS FALSE NEIGHBOUR: 'it returns false'. Refute it at one input. -/
def ledgerPartsWrong : ChangeSpec := { name := "ledgerParts", fn := fun _ => fun
  | [d1, d2] => { results := [.lit (.bool false)], args := [d1, d2] }
  | _ => none }
def LedgerPartsWrongFalsely : Prop := ledgerPartsRow.holds Try.pinned (OpenSpec.ofChange ledgerPartsWrong)

/-- 'flashlocklaw18.TreeCompiles': WHATEVER THE INPUT: true; the input reads as it did. -/
def treeCompilesSpec : ChangeSpec := { name := "treeCompiles", fn := fun _ => fun
  | [d1, d2] => { results := [.lit (.bool true)], args := [d1, d2] }
  | _ => none }
def treeCompilesRow : OpenClaim := { program := "ytdoemgccmjddcaa", sum := "d63ec1fd77ee768808eb02e55f722ba4e7c652e4abe8f5a20b064e0533149e40", func := "flashlock/flashlocklaw18.TreeCompiles", spec := "treeCompiles", inPlace := ["math.Float64bits", "math.Float64frombits", "math.RoundToEven"], unfollowed := true, recurses := true, apart := false }
def TreeCompilesSaid : Prop := treeCompilesRow.holds Try.pinned (OpenSpec.ofChange treeCompilesSpec)

/-- ITS FALSE NEIGHBOUR: 'it returns false'. Refute it at one input. -/
def treeCompilesWrong : ChangeSpec := { name := "treeCompiles", fn := fun _ => fun
  | [d1, d2] => { results := [.lit (.bool false)], args := [d1, d2] }
  | _ => none }
def TreeCompilesWrongFalsely : Prop := treeCompilesRow.holds Try.pinned (OpenSpec.ofChange treeCompilesWrong)

/-- 'flashlocklaw18.TreeHolds': WHATEVER THE INPUT: true; the input reads as it did. -/
def treeHoldsSpec : ChangeSpec := { name := "treeHolds", fn := fun _ => fun
  | [d] => { results := [.lit (.bool true)], args := [d] }
  | _ => none }
def treeHoldsRow : OpenClaim := { program := "ytdoemgccmjddcaa", sum := "d63ec1fd77ee768808eb02e55f722ba4e7c652e4abe8f5a20b064e0533149e40", func := "flashlock/flashlocklaw18.TreeHolds", spec := "treeHolds", inPlace := ["math.Float64bits", "math.Float64frombits", "math.RoundToEven"], unfollowed := true, recurses := true, apart := false }
def TreeHoldsSaid : Prop := treeHoldsRow.holds Try.pinned (OpenSpec.ofChange treeHoldsSpec)

/-- ITS FALSE NEIGHBOUR: 'it returns false'. Refute it at one input. -/
def treeHoldsWrong : ChangeSpec := { name := "treeHolds", fn := fun _ => fun
  | [d] => { results := [.lit (.bool false)], args := [d] }
  | _ => none }
def TreeHoldsWrongFalsely : Prop := treeHoldsRow.holds Try.pinned (OpenSpec.ofChange treeHoldsWrong)

/-- 'flashlocklaw19.PathsMeets': WHATEVER THE INPUT: true; the input reads as it did. -/
def pathsMeetsSpec : ChangeSpec := { name := "pathsMeets", fn := fun _ => fun
  | [d1, d2, d3] => { results := [.lit (.bool true)], args := [d1, d2, d3] }
  | _ => none }
def pathsMeetsRow : OpenClaim := { program := "ytdoemgccmjddcaa", sum := "d63ec1fd77ee768808eb02e55f722ba4e7c652e4abe8f5a20b064e0533149e40", func := "flashlock/flashlocklaw19.PathsMeets", spec := "pathsMeets", inPlace := ["math.Float64bits", "math.Float64frombits", "math.RoundToEven"], unfollowed := true, recurses := true, apart := false }
def PathsMeetsSaid : Prop := pathsMeetsRow.holds Try.pinned (OpenSpec.ofChange pathsMeetsSpec)

/-- ITS FALSE NEIGHBOUR: 'it returns false'. Refute it at one input. -/
def pathsMeetsWrong : ChangeSpec := { name := "pathsMeets", fn := fun _ => fun
  | [d1, d2, d3] => { results := [.lit (.bool false)], args := [d1, d2, d3] }
  | _ => none }
def PathsMeetsWrongFalsely : Prop := pathsMeetsRow.holds Try.pinned (OpenSpec.ofChange pathsMeetsWrong)

/-- 'flashlocklaw19.PathsTells': WHATEVER THE INPUT: true; the input reads as it did. -/
def pathsTellsSpec : ChangeSpec := { name := "pathsTells", fn := fun _ => fun
  | [d1, d2, d3] => { results := [.lit (.bool true)], args := [d1, d2, d3] }
  | _ => none }
def pathsTellsRow : OpenClaim := { program := "ytdoemgccmjddcaa", sum := "d63ec1fd77ee768808eb02e55f722ba4e7c652e4abe8f5a20b064e0533149e40", func := "flashlock/flashlocklaw19.PathsTells", spec := "pathsTells", inPlace := ["math.Float64bits", "math.Float64frombits", "math.RoundToEven"], unfollowed := true, recurses := true, apart := false }
def PathsTellsSaid : Prop := pathsTellsRow.holds Try.pinned (OpenSpec.ofChange pathsTellsSpec)

/-- ITS FALSE NEIGHBOUR: 'it returns false'. Refute it at one input. -/
def pathsTellsWrong : ChangeSpec := { name := "pathsTells", fn := fun _ => fun
  | [d1, d2, d3] => { results := [.lit (.bool false)], args := [d1, d2, d3] }
  | _ => none }
def PathsTellsWrongFalsely : Prop := pathsTellsRow.holds Try.pinned (OpenSpec.ofChange pathsTellsWrong)

/- THE SECOND FORM. 'bulk': how many values and letters a reading holds, each counted each time it is reached (what is shared counts as often as it is met; a slice's spare places count too). A statement '..UptoSaid' is the law's where the arguments, and the package variables that the reading takes, are together of bulk at most 1048576: NARROWER than '..Said'. Prove '..Said' where nothing that the law and all that it calls make is longer than what came in: it says more and counts as full. Else prove '..UptoSaid'. A law counts once. -/
mutual
def uptoBulk {H : Type} : DataW H → Nat
  | .lit (.string bytes) => bytes.length + 1
  | .lit _ => 1
  | .nil => 1
  | .ptr d => uptoBulk d + 1
  | .slice elems spare => uptoBulkAll elems + uptoBulkAll spare + 1
  | .agg parts => uptoBulkAll parts + 1
  | .iface _ d => uptoBulk d + 1
  | .map entries => uptoBulkEntries entries + 1
  | .held _ => 1
def uptoBulkAll {H : Type} : List (DataW H) → Nat
  | [] => 0
  | d :: r => uptoBulk d + uptoBulkAll r
def uptoBulkEntries {H : Type} : List (Lit × DataW H) → Nat
  | [] => 0
  | x :: r => uptoBulkEntry x + uptoBulkEntries r
def uptoBulkEntry {H : Type} : Lit × DataW H → Nat
  | (.string bytes, d) => bytes.length + uptoBulk d + 1
  | (_, d) => uptoBulk d + 1
 end
def uptoSmall : (H : Type) → List (DataW H) → Bool := fun _ ds => decide (uptoBulkAll ds ≤ 1048576)
def OpenSpec.upto (s : _root_.Go.ChangeSpec) : _root_.Go.OpenSpec := { _root_.Go.OpenSpec.ofChange s with cond := some uptoSmall }

/-- 'flashlocklaw46.ScriptOnce', WHERE WHAT IT READS IS OF BULK AT MOST 1048576: true; the input reads as it did. -/
def scriptOnceUptoRow : OpenClaim := { program := "ytdoemgccmjddcaa", sum := "d63ec1fd77ee768808eb02e55f722ba4e7c652e4abe8f5a20b064e0533149e40", func := "flashlock/flashlocklaw46.ScriptOnce", spec := "scriptOnce", unfollowed := true, recurses := true, apart := false, narrowed := true }
def ScriptOnceUptoSaid : Prop := scriptOnceUptoRow.holds Try.pinned (OpenSpec.upto scriptOnceSpec)

/-- 'flashlocklaw50.StatsTells', WHERE WHAT IT READS IS OF BULK AT MOST 1048576: true; the input reads as it did. -/
def statsTellsUptoRow : OpenClaim := { program := "ytdoemgccmjddcaa", sum := "d63ec1fd77ee768808eb02e55f722ba4e7c652e4abe8f5a20b064e0533149e40", func := "flashlock/flashlocklaw50.StatsTells", spec := "statsTells", inPlace := ["math.Float64frombits", "math.Float64bits"], apart := false, narrowed := true }
def StatsTellsUptoSaid : Prop := statsTellsUptoRow.holds Try.pinned (OpenSpec.upto statsTellsSpec)

/-- 'flashlocklaw50.StatsReads', WHERE WHAT IT READS IS OF BULK AT MOST 1048576: true; the input reads as it did. -/
def statsReadsUptoRow : OpenClaim := { program := "ytdoemgccmjddcaa", sum := "d63ec1fd77ee768808eb02e55f722ba4e7c652e4abe8f5a20b064e0533149e40", func := "flashlock/flashlocklaw50.StatsReads", spec := "statsReads", unfollowed := true, recurses := true, apart := false, narrowed := true }
def StatsReadsUptoSaid : Prop := statsReadsUptoRow.holds Try.pinned (OpenSpec.upto statsReadsSpec)

/-- 'flashlocklaw17.ClassTells', WHERE WHAT IT READS IS OF BULK AT MOST 1048576: true; the input reads as it did. -/
def classTellsUptoRow : OpenClaim := { program := "ytdoemgccmjddcaa", sum := "d63ec1fd77ee768808eb02e55f722ba4e7c652e4abe8f5a20b064e0533149e40", func := "flashlock/flashlocklaw17.ClassTells", spec := "classTells", inPlace := ["math.Float64frombits", "math.Float64bits", "math.RoundToEven"], apart := false, narrowed := true }
def ClassTellsUptoSaid : Prop := classTellsUptoRow.holds Try.pinned (OpenSpec.upto classTellsSpec)

/-- 'flashlocklaw17.ClassSorts', WHERE WHAT IT READS IS OF BULK AT MOST 1048576: true; the input reads as it did. -/
def classSortsUptoRow : OpenClaim := { program := "ytdoemgccmjddcaa", sum := "d63ec1fd77ee768808eb02e55f722ba4e7c652e4abe8f5a20b064e0533149e40", func := "flashlock/flashlocklaw17.ClassSorts", spec := "classSorts", inPlace := ["math.Float64bits", "math.Float64frombits", "math.RoundToEven"], unfollowed := true, recurses := true, apart := false, narrowed := true }
def ClassSortsUptoSaid : Prop := classSortsUptoRow.holds Try.pinned (OpenSpec.upto classSortsSpec)

/-- 'flashlocklaw34.LedgerTells', WHERE WHAT IT READS IS OF BULK AT MOST 1048576: true; the input reads as it did. -/
def ledgerTellsUptoRow : OpenClaim := { program := "ytdoemgccmjddcaa", sum := "d63ec1fd77ee768808eb02e55f722ba4e7c652e4abe8f5a20b064e0533149e40", func := "flashlock/flashlocklaw34.LedgerTells", spec := "ledgerTells", unfollowed := true, recurses := true, apart := false, narrowed := true }
def LedgerTellsUptoSaid : Prop := ledgerTellsUptoRow.holds Try.pinned (OpenSpec.upto ledgerTellsSpec)

/-- 'flashlocklaw34.LedgerParts', WHERE WHAT IT READS IS OF BULK AT MOST 1048576: true; the input reads as it did. -/
def ledgerPartsUptoRow : OpenClaim := { program := "ytdoemgccmjddcaa", sum := "d63ec1fd77ee768808eb02e55f722ba4e7c652e4abe8f5a20b064e0533149e40", func := "flashlock/flashlocklaw34.LedgerParts", spec := "ledgerParts", unfollowed := true, recurses := true, apart := false, narrowed := true }
def LedgerPartsUptoSaid : Prop := ledgerPartsUptoRow.holds Try.pinned (OpenSpec.upto ledgerPartsSpec)

/-- 'flashlocklaw18.TreeCompiles', WHERE WHAT IT READS IS OF BULK AT MOST 1048576: true; the input reads as it did. -/
def treeCompilesUptoRow : OpenClaim := { program := "ytdoemgccmjddcaa", sum := "d63ec1fd77ee768808eb02e55f722ba4e7c652e4abe8f5a20b064e0533149e40", func := "flashlock/flashlocklaw18.TreeCompiles", spec := "treeCompiles", inPlace := ["math.Float64bits", "math.Float64frombits", "math.RoundToEven"], unfollowed := true, recurses := true, apart := false, narrowed := true }
def TreeCompilesUptoSaid : Prop := treeCompilesUptoRow.holds Try.pinned (OpenSpec.upto treeCompilesSpec)

/-- 'flashlocklaw18.TreeHolds', WHERE WHAT IT READS IS OF BULK AT MOST 1048576: true; the input reads as it did. -/
def treeHoldsUptoRow : OpenClaim := { program := "ytdoemgccmjddcaa", sum := "d63ec1fd77ee768808eb02e55f722ba4e7c652e4abe8f5a20b064e0533149e40", func := "flashlock/flashlocklaw18.TreeHolds", spec := "treeHolds", inPlace := ["math.Float64bits", "math.Float64frombits", "math.RoundToEven"], unfollowed := true, recurses := true, apart := false, narrowed := true }
def TreeHoldsUptoSaid : Prop := treeHoldsUptoRow.holds Try.pinned (OpenSpec.upto treeHoldsSpec)

/-- 'flashlocklaw19.PathsMeets', WHERE WHAT IT READS IS OF BULK AT MOST 1048576: true; the input reads as it did. -/
def pathsMeetsUptoRow : OpenClaim := { program := "ytdoemgccmjddcaa", sum := "d63ec1fd77ee768808eb02e55f722ba4e7c652e4abe8f5a20b064e0533149e40", func := "flashlock/flashlocklaw19.PathsMeets", spec := "pathsMeets", inPlace := ["math.Float64bits", "math.Float64frombits", "math.RoundToEven"], unfollowed := true, recurses := true, apart := false, narrowed := true }
def PathsMeetsUptoSaid : Prop := pathsMeetsUptoRow.holds Try.pinned (OpenSpec.upto pathsMeetsSpec)

/-- 'flashlocklaw19.PathsTells', WHERE WHAT IT READS IS OF BULK AT MOST 1048576: true; the input reads as it did. -/
def pathsTellsUptoRow : OpenClaim := { program := "ytdoemgccmjddcaa", sum := "d63ec1fd77ee768808eb02e55f722ba4e7c652e4abe8f5a20b064e0533149e40", func := "flashlock/flashlocklaw19.PathsTells", spec := "pathsTells", inPlace := ["math.Float64bits", "math.Float64frombits", "math.RoundToEven"], unfollowed := true, recurses := true, apart := false, narrowed := true }
def PathsTellsUptoSaid : Prop := pathsTellsUptoRow.holds Try.pinned (OpenSpec.upto pathsTellsSpec)

end Rows
end Go.Proofs.Ytdoemgccmjddcaa
