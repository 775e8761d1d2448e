/-
  NARROWER THAN 'FOR EVERY INPUT', by the rows' own cells (each row's printed sentence says how): RollOf: laid · RollNames: laid · SplitCuts: laid · SplitRuns: laid · SplitAsBefore: laid · SplitGroups: laid · SplitBegins: laid · SplitNames: laid · SplitAll: laid.
  DERIVED. THE GIVEN ROWS OF THIS SEAT. 9 by the template 'for every input the law returns true; each argument reads behind the call as it read before'; 0 by the template 'total and deterministic' (their statements: YtmnggemifcjflaaDoorTotals.lean).
  GIVEN WITH THE SEED: the statements are not yours to turn. If you find one false, say at which input.
  Laid BY PROGRAM, IN A SANDBOX (cutbox-rows.mjs): the forced cells as the released guide's own fill.sh prints them over the translation eae6075d11c9c64c… (all of the seat's roots in one cut). By AI agents, Wed Nov 11 2026. No macro, syntax, notation, axiom, sorry.
-/
import Derived.Test.YtmnggemifcjflaaDoorChecked
import GoSem.Claim
import GoSem.ClaimJoined
import GoSem.ClaimMapViews
import Derived.JoinedTies
import Derived.KernelRfl
namespace Go.Proofs.YtmnggemifcjflaaDoor
/- THE CELL 'sum', in the pinned program and in every row, IS THE sha256 OF THE DUMP (.gsa) THAT YtmnggemifcjflaaDoorProg.lean LOADS. Nothing in Lean hashes anything: it is a label: what it is worth is what the hold of that sum in a sandbox is worth. -/
noncomputable def Tryd.pinned : Pinned := { name := "ytmnggemifcjflaadoor", sum := "eae6075d11c9c64c5cec65c815b673b5da59e4e41d858932f8814d83856f329b", checked := Tryd.checked }
namespace Rows
def none {H : Type} : Left H := { results := [], args := [] }

/- WHAT THE LISTED PACKAGE-LEVEL VARIABLES READ AS WHEN THE CALL BEGINS. Each datum BY PROGRAM (the guide's laid-datum.mjs) off the statement by which the dump's own 'gosem.cut.vars' lays the variable. In a bare row this is a premise. The card (YtmnggemifcjflaaDoorCards.lean) ties it to the program's text. -/
def laid_math_bits_deBruijn32tab {H : Type} : DataW H := .agg [.lit (.int .u8 0), .lit (.int .u8 1), .lit (.int .u8 28), .lit (.int .u8 2), .lit (.int .u8 29), .lit (.int .u8 14), .lit (.int .u8 24), .lit (.int .u8 3), .lit (.int .u8 30), .lit (.int .u8 22), .lit (.int .u8 20), .lit (.int .u8 15), .lit (.int .u8 25), .lit (.int .u8 17), .lit (.int .u8 4), .lit (.int .u8 8), .lit (.int .u8 31), .lit (.int .u8 27), .lit (.int .u8 13), .lit (.int .u8 23), .lit (.int .u8 21), .lit (.int .u8 19), .lit (.int .u8 16), .lit (.int .u8 7), .lit (.int .u8 26), .lit (.int .u8 12), .lit (.int .u8 18), .lit (.int .u8 6), .lit (.int .u8 11), .lit (.int .u8 5), .lit (.int .u8 10), .lit (.int .u8 9)]

/-- 'munimentlaw08.RollOf': WHATEVER THE INPUT: true; the input reads as it did. -/
def rollOfSpec : ChangeSpec := { name := "rollOf", fn := fun _ => fun
  | [d1, d2] => { results := [.lit (.bool true)], args := [d1, d2] }
  | _ => none }
def rollOfRow : OpenClaim := { program := "ytmnggemifcjflaadoor", sum := "eae6075d11c9c64c5cec65c815b673b5da59e4e41d858932f8814d83856f329b", func := "muniment/munimentlaw08.RollOf", spec := "rollOf", named := ["math/bits.deBruijn32tab"], apart := false, laid := [("math/bits.deBruijn32tab", laid_math_bits_deBruijn32tab)] }
def RollOfSaid : Prop := rollOfRow.holds Tryd.pinned (OpenSpec.ofChange rollOfSpec)

/-- ITS FALSE NEIGHBOUR: 'it returns false'. Refute it at one input. -/
def rollOfWrong : ChangeSpec := { name := "rollOf", fn := fun _ => fun
  | [d1, d2] => { results := [.lit (.bool false)], args := [d1, d2] }
  | _ => none }
def RollOfWrongFalsely : Prop := rollOfRow.holds Tryd.pinned (OpenSpec.ofChange rollOfWrong)

/-- 'munimentlaw08.RollNames': WHATEVER THE INPUT: true; the input reads as it did. -/
def rollNamesSpec : ChangeSpec := { name := "rollNames", fn := fun _ => fun
  | [] => { results := [.lit (.bool true)], args := [] }
  | _ => none }
def rollNamesRow : OpenClaim := { program := "ytmnggemifcjflaadoor", sum := "eae6075d11c9c64c5cec65c815b673b5da59e4e41d858932f8814d83856f329b", func := "muniment/munimentlaw08.RollNames", spec := "rollNames", named := ["math/bits.deBruijn32tab"], apart := false, laid := [("math/bits.deBruijn32tab", laid_math_bits_deBruijn32tab)] }
def RollNamesSaid : Prop := rollNamesRow.holds Tryd.pinned (OpenSpec.ofChange rollNamesSpec)

/-- ITS FALSE NEIGHBOUR: 'it returns false'. Refute it at one input. -/
def rollNamesWrong : ChangeSpec := { name := "rollNames", fn := fun _ => fun
  | [] => { results := [.lit (.bool false)], args := [] }
  | _ => none }
def RollNamesWrongFalsely : Prop := rollNamesRow.holds Tryd.pinned (OpenSpec.ofChange rollNamesWrong)

/-- 'munimentlaw09.SplitCuts': WHATEVER THE INPUT: true; the input reads as it did. -/
def splitCutsSpec : ChangeSpec := { name := "splitCuts", fn := fun _ => fun
  | [d1, d2] => { results := [.lit (.bool true)], args := [d1, d2] }
  | _ => none }
def splitCutsRow : OpenClaim := { program := "ytmnggemifcjflaadoor", sum := "eae6075d11c9c64c5cec65c815b673b5da59e4e41d858932f8814d83856f329b", func := "muniment/munimentlaw09.SplitCuts", spec := "splitCuts", unfollowed := true, recurses := true, named := ["math/bits.deBruijn32tab"], apart := false, laid := [("math/bits.deBruijn32tab", laid_math_bits_deBruijn32tab)] }
def SplitCutsSaid : Prop := splitCutsRow.holds Tryd.pinned (OpenSpec.ofChange splitCutsSpec)

/-- ITS FALSE NEIGHBOUR: 'it returns false'. Refute it at one input. -/
def splitCutsWrong : ChangeSpec := { name := "splitCuts", fn := fun _ => fun
  | [d1, d2] => { results := [.lit (.bool false)], args := [d1, d2] }
  | _ => none }
def SplitCutsWrongFalsely : Prop := splitCutsRow.holds Tryd.pinned (OpenSpec.ofChange splitCutsWrong)

/-- 'munimentlaw09.SplitRuns': WHATEVER THE INPUT: true; the input reads as it did. -/
def splitRunsSpec : ChangeSpec := { name := "splitRuns", fn := fun _ => fun
  | [d1, d2, d3] => { results := [.lit (.bool true)], args := [d1, d2, d3] }
  | _ => none }
def splitRunsRow : OpenClaim := { program := "ytmnggemifcjflaadoor", sum := "eae6075d11c9c64c5cec65c815b673b5da59e4e41d858932f8814d83856f329b", func := "muniment/munimentlaw09.SplitRuns", spec := "splitRuns", unfollowed := true, recurses := true, named := ["math/bits.deBruijn32tab"], apart := false, laid := [("math/bits.deBruijn32tab", laid_math_bits_deBruijn32tab)] }
def SplitRunsSaid : Prop := splitRunsRow.holds Tryd.pinned (OpenSpec.ofChange splitRunsSpec)

/-- ITS FALSE NEIGHBOUR: 'it returns false'. Refute it at one input. -/
def splitRunsWrong : ChangeSpec := { name := "splitRuns", fn := fun _ => fun
  | [d1, d2, d3] => { results := [.lit (.bool false)], args := [d1, d2, d3] }
  | _ => none }
def SplitRunsWrongFalsely : Prop := splitRunsRow.holds Tryd.pinned (OpenSpec.ofChange splitRunsWrong)

/-- 'munimentlaw09.SplitAsBefore': WHATEVER THE INPUT: true; the input reads as it did. -/
def splitAsBeforeSpec : ChangeSpec := { name := "splitAsBefore", fn := fun _ => fun
  | [d1, d2, d3, d4] => { results := [.lit (.bool true)], args := [d1, d2, d3, d4] }
  | _ => none }
def splitAsBeforeRow : OpenClaim := { program := "ytmnggemifcjflaadoor", sum := "eae6075d11c9c64c5cec65c815b673b5da59e4e41d858932f8814d83856f329b", func := "muniment/munimentlaw09.SplitAsBefore", spec := "splitAsBefore", unfollowed := true, recurses := true, named := ["math/bits.deBruijn32tab"], apart := false, laid := [("math/bits.deBruijn32tab", laid_math_bits_deBruijn32tab)] }
def SplitAsBeforeSaid : Prop := splitAsBeforeRow.holds Tryd.pinned (OpenSpec.ofChange splitAsBeforeSpec)

/-- ITS FALSE NEIGHBOUR: 'it returns false'. Refute it at one input. -/
def splitAsBeforeWrong : ChangeSpec := { name := "splitAsBefore", fn := fun _ => fun
  | [d1, d2, d3, d4] => { results := [.lit (.bool false)], args := [d1, d2, d3, d4] }
  | _ => none }
def SplitAsBeforeWrongFalsely : Prop := splitAsBeforeRow.holds Tryd.pinned (OpenSpec.ofChange splitAsBeforeWrong)

/-- 'munimentlaw09.SplitGroups': WHATEVER THE INPUT: true; the input reads as it did. -/
def splitGroupsSpec : ChangeSpec := { name := "splitGroups", fn := fun _ => fun
  | [d1, d2, d3] => { results := [.lit (.bool true)], args := [d1, d2, d3] }
  | _ => none }
def splitGroupsRow : OpenClaim := { program := "ytmnggemifcjflaadoor", sum := "eae6075d11c9c64c5cec65c815b673b5da59e4e41d858932f8814d83856f329b", func := "muniment/munimentlaw09.SplitGroups", spec := "splitGroups", unfollowed := true, recurses := true, named := ["math/bits.deBruijn32tab"], apart := false, laid := [("math/bits.deBruijn32tab", laid_math_bits_deBruijn32tab)] }
def SplitGroupsSaid : Prop := splitGroupsRow.holds Tryd.pinned (OpenSpec.ofChange splitGroupsSpec)

/-- ITS FALSE NEIGHBOUR: 'it returns false'. Refute it at one input. -/
def splitGroupsWrong : ChangeSpec := { name := "splitGroups", fn := fun _ => fun
  | [d1, d2, d3] => { results := [.lit (.bool false)], args := [d1, d2, d3] }
  | _ => none }
def SplitGroupsWrongFalsely : Prop := splitGroupsRow.holds Tryd.pinned (OpenSpec.ofChange splitGroupsWrong)

/-- 'munimentlaw09.SplitBegins': WHATEVER THE INPUT: true; the input reads as it did. -/
def splitBeginsSpec : ChangeSpec := { name := "splitBegins", fn := fun _ => fun
  | [d1, d2, d3, d4] => { results := [.lit (.bool true)], args := [d1, d2, d3, d4] }
  | _ => none }
def splitBeginsRow : OpenClaim := { program := "ytmnggemifcjflaadoor", sum := "eae6075d11c9c64c5cec65c815b673b5da59e4e41d858932f8814d83856f329b", func := "muniment/munimentlaw09.SplitBegins", spec := "splitBegins", unfollowed := true, recurses := true, named := ["math/bits.deBruijn32tab"], apart := false, laid := [("math/bits.deBruijn32tab", laid_math_bits_deBruijn32tab)] }
def SplitBeginsSaid : Prop := splitBeginsRow.holds Tryd.pinned (OpenSpec.ofChange splitBeginsSpec)

/-- ITS FALSE NEIGHBOUR: 'it returns false'. Refute it at one input. -/
def splitBeginsWrong : ChangeSpec := { name := "splitBegins", fn := fun _ => fun
  | [d1, d2, d3, d4] => { results := [.lit (.bool false)], args := [d1, d2, d3, d4] }
  | _ => none }
def SplitBeginsWrongFalsely : Prop := splitBeginsRow.holds Tryd.pinned (OpenSpec.ofChange splitBeginsWrong)

/-- 'munimentlaw09.SplitNames': WHATEVER THE INPUT: true; the input reads as it did. -/
def splitNamesSpec : ChangeSpec := { name := "splitNames", fn := fun _ => fun
  | [] => { results := [.lit (.bool true)], args := [] }
  | _ => none }
def splitNamesRow : OpenClaim := { program := "ytmnggemifcjflaadoor", sum := "eae6075d11c9c64c5cec65c815b673b5da59e4e41d858932f8814d83856f329b", func := "muniment/munimentlaw09.SplitNames", spec := "splitNames", unfollowed := true, recurses := true, named := ["math/bits.deBruijn32tab"], apart := false, laid := [("math/bits.deBruijn32tab", laid_math_bits_deBruijn32tab)] }
def SplitNamesSaid : Prop := splitNamesRow.holds Tryd.pinned (OpenSpec.ofChange splitNamesSpec)

/-- ITS FALSE NEIGHBOUR: 'it returns false'. Refute it at one input. -/
def splitNamesWrong : ChangeSpec := { name := "splitNames", fn := fun _ => fun
  | [] => { results := [.lit (.bool false)], args := [] }
  | _ => none }
def SplitNamesWrongFalsely : Prop := splitNamesRow.holds Tryd.pinned (OpenSpec.ofChange splitNamesWrong)

/-- 'munimentlaw09.SplitAll': WHATEVER THE INPUT: true; the input reads as it did. -/
def splitAllSpec : ChangeSpec := { name := "splitAll", fn := fun _ => fun
  | [d1, d2, d3] => { results := [.lit (.bool true)], args := [d1, d2, d3] }
  | _ => none }
def splitAllRow : OpenClaim := { program := "ytmnggemifcjflaadoor", sum := "eae6075d11c9c64c5cec65c815b673b5da59e4e41d858932f8814d83856f329b", func := "muniment/munimentlaw09.SplitAll", spec := "splitAll", unfollowed := true, recurses := true, named := ["math/bits.deBruijn32tab"], apart := false, laid := [("math/bits.deBruijn32tab", laid_math_bits_deBruijn32tab)] }
def SplitAllSaid : Prop := splitAllRow.holds Tryd.pinned (OpenSpec.ofChange splitAllSpec)

/-- ITS FALSE NEIGHBOUR: 'it returns false'. Refute it at one input. -/
def splitAllWrong : ChangeSpec := { name := "splitAll", fn := fun _ => fun
  | [d1, d2, d3] => { results := [.lit (.bool false)], args := [d1, d2, d3] }
  | _ => none }
def SplitAllWrongFalsely : Prop := splitAllRow.holds Tryd.pinned (OpenSpec.ofChange splitAllWrong)

/- THE SECOND FORM. 'bulk': how many values and letters a reading holds, each counted each time it is reached (what is shared counts as often as it is met; a slice's spare places count too). A statement '..UptoSaid' is the law's where the arguments, and the package variables that the reading takes, are together of bulk at most 1048576: NARROWER than '..Said'. Prove '..Said' where nothing that the law and all that it calls make is longer than what came in: it says more and counts as full. Else prove '..UptoSaid'. A law counts once. -/
mutual
def uptoBulk {H : Type} : DataW H → Nat
  | .lit (.string bytes) => bytes.length + 1
  | .lit _ => 1
  | .nil => 1
  | .ptr d => uptoBulk d + 1
  | .slice elems spare => uptoBulkAll elems + uptoBulkAll spare + 1
  | .agg parts => uptoBulkAll parts + 1
  | .iface _ d => uptoBulk d + 1
  | .map entries => uptoBulkEntries entries + 1
  | .held _ => 1
def uptoBulkAll {H : Type} : List (DataW H) → Nat
  | [] => 0
  | d :: r => uptoBulk d + uptoBulkAll r
def uptoBulkEntries {H : Type} : List (Lit × DataW H) → Nat
  | [] => 0
  | x :: r => uptoBulkEntry x + uptoBulkEntries r
def uptoBulkEntry {H : Type} : Lit × DataW H → Nat
  | (.string bytes, d) => bytes.length + uptoBulk d + 1
  | (_, d) => uptoBulk d + 1
 end
def uptoSmall : (H : Type) → List (DataW H) → Bool := fun _ ds => decide (uptoBulkAll ds ≤ 1048576)
def OpenSpec.upto (s : _root_.Go.ChangeSpec) : _root_.Go.OpenSpec := { _root_.Go.OpenSpec.ofChange s with cond := some uptoSmall }

/-- 'munimentlaw08.RollOf', WHERE WHAT IT READS IS OF BULK AT MOST 1048576: true; the input reads as it did. -/
def rollOfUptoRow : OpenClaim := { program := "ytmnggemifcjflaadoor", sum := "eae6075d11c9c64c5cec65c815b673b5da59e4e41d858932f8814d83856f329b", func := "muniment/munimentlaw08.RollOf", spec := "rollOf", named := ["math/bits.deBruijn32tab"], apart := false, laid := [("math/bits.deBruijn32tab", laid_math_bits_deBruijn32tab)], narrowed := true }
def RollOfUptoSaid : Prop := rollOfUptoRow.holds Tryd.pinned (OpenSpec.upto rollOfSpec)

/-- 'munimentlaw08.RollNames', WHERE WHAT IT READS IS OF BULK AT MOST 1048576: true; the input reads as it did. -/
def rollNamesUptoRow : OpenClaim := { program := "ytmnggemifcjflaadoor", sum := "eae6075d11c9c64c5cec65c815b673b5da59e4e41d858932f8814d83856f329b", func := "muniment/munimentlaw08.RollNames", spec := "rollNames", named := ["math/bits.deBruijn32tab"], apart := false, laid := [("math/bits.deBruijn32tab", laid_math_bits_deBruijn32tab)], narrowed := true }
def RollNamesUptoSaid : Prop := rollNamesUptoRow.holds Tryd.pinned (OpenSpec.upto rollNamesSpec)

/-- 'munimentlaw09.SplitCuts', WHERE WHAT IT READS IS OF BULK AT MOST 1048576: true; the input reads as it did. -/
def splitCutsUptoRow : OpenClaim := { program := "ytmnggemifcjflaadoor", sum := "eae6075d11c9c64c5cec65c815b673b5da59e4e41d858932f8814d83856f329b", func := "muniment/munimentlaw09.SplitCuts", spec := "splitCuts", unfollowed := true, recurses := true, named := ["math/bits.deBruijn32tab"], apart := false, laid := [("math/bits.deBruijn32tab", laid_math_bits_deBruijn32tab)], narrowed := true }
def SplitCutsUptoSaid : Prop := splitCutsUptoRow.holds Tryd.pinned (OpenSpec.upto splitCutsSpec)

/-- 'munimentlaw09.SplitRuns', WHERE WHAT IT READS IS OF BULK AT MOST 1048576: true; the input reads as it did. -/
def splitRunsUptoRow : OpenClaim := { program := "ytmnggemifcjflaadoor", sum := "eae6075d11c9c64c5cec65c815b673b5da59e4e41d858932f8814d83856f329b", func := "muniment/munimentlaw09.SplitRuns", spec := "splitRuns", unfollowed := true, recurses := true, named := ["math/bits.deBruijn32tab"], apart := false, laid := [("math/bits.deBruijn32tab", laid_math_bits_deBruijn32tab)], narrowed := true }
def SplitRunsUptoSaid : Prop := splitRunsUptoRow.holds Tryd.pinned (OpenSpec.upto splitRunsSpec)

/-- 'munimentlaw09.SplitAsBefore', WHERE WHAT IT READS IS OF BULK AT MOST 1048576: true; the input reads as it did. -/
def splitAsBeforeUptoRow : OpenClaim := { program := "ytmnggemifcjflaadoor", sum := "eae6075d11c9c64c5cec65c815b673b5da59e4e41d858932f8814d83856f329b", func := "muniment/munimentlaw09.SplitAsBefore", spec := "splitAsBefore", unfollowed := true, recurses := true, named := ["math/bits.deBruijn32tab"], apart := false, laid := [("math/bits.deBruijn32tab", laid_math_bits_deBruijn32tab)], narrowed := true }
def SplitAsBeforeUptoSaid : Prop := splitAsBeforeUptoRow.holds Tryd.pinned (OpenSpec.upto splitAsBeforeSpec)

/-- 'munimentlaw09.SplitGroups', WHERE WHAT IT READS IS OF BULK AT MOST 1048576: true; the input reads as it did. -/
def splitGroupsUptoRow : OpenClaim := { program := "ytmnggemifcjflaadoor", sum := "eae6075d11c9c64c5cec65c815b673b5da59e4e41d858932f8814d83856f329b", func := "muniment/munimentlaw09.SplitGroups", spec := "splitGroups", unfollowed := true, recurses := true, named := ["math/bits.deBruijn32tab"], apart := false, laid := [("math/bits.deBruijn32tab", laid_math_bits_deBruijn32tab)], narrowed := true }
def SplitGroupsUptoSaid : Prop := splitGroupsUptoRow.holds Tryd.pinned (OpenSpec.upto splitGroupsSpec)

/-- 'munimentlaw09.SplitBegins', WHERE WHAT IT READS IS OF BULK AT MOST 1048576: true; the input reads as it did. -/
def splitBeginsUptoRow : OpenClaim := { program := "ytmnggemifcjflaadoor", sum := "eae6075d11c9c64c5cec65c815b673b5da59e4e41d858932f8814d83856f329b", func := "muniment/munimentlaw09.SplitBegins", spec := "splitBegins", unfollowed := true, recurses := true, named := ["math/bits.deBruijn32tab"], apart := false, laid := [("math/bits.deBruijn32tab", laid_math_bits_deBruijn32tab)], narrowed := true }
def SplitBeginsUptoSaid : Prop := splitBeginsUptoRow.holds Tryd.pinned (OpenSpec.upto splitBeginsSpec)

/-- 'munimentlaw09.SplitNames', WHERE WHAT IT READS IS OF BULK AT MOST 1048576: true; the input reads as it did. -/
def splitNamesUptoRow : OpenClaim := { program := "ytmnggemifcjflaadoor", sum := "eae6075d11c9c64c5cec65c815b673b5da59e4e41d858932f8814d83856f329b", func := "muniment/munimentlaw09.SplitNames", spec := "splitNames", unfollowed := true, recurses := true, named := ["math/bits.deBruijn32tab"], apart := false, laid := [("math/bits.deBruijn32tab", laid_math_bits_deBruijn32tab)], narrowed := true }
def SplitNamesUptoSaid : Prop := splitNamesUptoRow.holds Tryd.pinned (OpenSpec.upto splitNamesSpec)

/-- 'munimentlaw09.SplitAll', WHERE WHAT IT READS IS OF BULK AT MOST 1048576: true; the input reads as it did. -/
def splitAllUptoRow : OpenClaim := { program := "ytmnggemifcjflaadoor", sum := "eae6075d11c9c64c5cec65c815b673b5da59e4e41d858932f8814d83856f329b", func := "muniment/munimentlaw09.SplitAll", spec := "splitAll", unfollowed := true, recurses := true, named := ["math/bits.deBruijn32tab"], apart := false, laid := [("math/bits.deBruijn32tab", laid_math_bits_deBruijn32tab)], narrowed := true }
def SplitAllUptoSaid : Prop := splitAllUptoRow.holds Tryd.pinned (OpenSpec.upto splitAllSpec)

end Rows
end Go.Proofs.YtmnggemifcjflaaDoor
