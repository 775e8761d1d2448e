/-
  No cell of these rows narrows 'for every input' (looked for: loops, veiled, ifaces, maps, wideKeys, modest, calm, conditions, laid).
  DERIVED. THE GIVEN ROWS OF THIS SEAT. 5 by the template 'for every input the law returns true; each argument reads behind the call as it read before'; 0 by the template 'total and deterministic' (their statements: YtmnggemifcjflaaTotals.lean).
  GIVEN WITH THE SEED: the statements are not yours to turn. If you find one false, say at which input.
  Laid BY PROGRAM, IN A SANDBOX (cutbox-rows.mjs): the forced cells as the released guide's own fill.sh prints them over the translation 3091c2be958db30e… (all of the seat's roots in one cut). By AI agents, Wed Nov 11 2026. No macro, syntax, notation, axiom, sorry.
-/
import Derived.Test.YtmnggemifcjflaaChecked
import GoSem.Claim
import GoSem.ClaimJoined
import GoSem.ClaimMapViews
import Derived.JoinedTies
import Derived.KernelRfl
namespace Go.Proofs.Ytmnggemifcjflaa
/- THE CELL 'sum', in the pinned program and in every row, IS THE sha256 OF THE DUMP (.gsa) THAT YtmnggemifcjflaaProg.lean LOADS. Nothing in Lean hashes anything: it is a label: what it is worth is what the hold of that sum in a sandbox is worth. -/
noncomputable def Try.pinned : Pinned := { name := "ytmnggemifcjflaa", sum := "3091c2be958db30e8bce790f16c1e2082c08fe88642956a68f48d32ad0bcf1a5", checked := Try.checked }
namespace Rows
def none {H : Type} : Left H := { results := [], args := [] }

/-- 'munimentlaw08.RollRuns': WHATEVER THE INPUT: true; the input reads as it did. -/
def rollRunsSpec : ChangeSpec := { name := "rollRuns", fn := fun _ => fun
  | [d] => { results := [.lit (.bool true)], args := [d] }
  | _ => none }
def rollRunsRow : OpenClaim := { program := "ytmnggemifcjflaa", sum := "3091c2be958db30e8bce790f16c1e2082c08fe88642956a68f48d32ad0bcf1a5", func := "muniment/munimentlaw08.RollRuns", spec := "rollRuns", apart := false }
def RollRunsSaid : Prop := rollRunsRow.holds Try.pinned (OpenSpec.ofChange rollRunsSpec)

/-- ITS FALSE NEIGHBOUR: 'it returns false'. Refute it at one input. -/
def rollRunsWrong : ChangeSpec := { name := "rollRuns", fn := fun _ => fun
  | [d] => { results := [.lit (.bool false)], args := [d] }
  | _ => none }
def RollRunsWrongFalsely : Prop := rollRunsRow.holds Try.pinned (OpenSpec.ofChange rollRunsWrong)

/-- 'munimentlaw08.RollWindow': WHATEVER THE INPUT: true; the input reads as it did. -/
def rollWindowSpec : ChangeSpec := { name := "rollWindow", fn := fun _ => fun
  | [d1, d2, d3, d4] => { results := [.lit (.bool true)], args := [d1, d2, d3, d4] }
  | _ => none }
def rollWindowRow : OpenClaim := { program := "ytmnggemifcjflaa", sum := "3091c2be958db30e8bce790f16c1e2082c08fe88642956a68f48d32ad0bcf1a5", func := "muniment/munimentlaw08.RollWindow", spec := "rollWindow", apart := false }
def RollWindowSaid : Prop := rollWindowRow.holds Try.pinned (OpenSpec.ofChange rollWindowSpec)

/-- ITS FALSE NEIGHBOUR: 'it returns false'. Refute it at one input. -/
def rollWindowWrong : ChangeSpec := { name := "rollWindow", fn := fun _ => fun
  | [d1, d2, d3, d4] => { results := [.lit (.bool false)], args := [d1, d2, d3, d4] }
  | _ => none }
def RollWindowWrongFalsely : Prop := rollWindowRow.holds Try.pinned (OpenSpec.ofChange rollWindowWrong)

/-- 'munimentlaw08.RollUnlike': WHATEVER THE INPUT: true; the input reads as it did. -/
def rollUnlikeSpec : ChangeSpec := { name := "rollUnlike", fn := fun _ => fun
  | [d1, d2, d3, d4] => { results := [.lit (.bool true)], args := [d1, d2, d3, d4] }
  | _ => none }
def rollUnlikeRow : OpenClaim := { program := "ytmnggemifcjflaa", sum := "3091c2be958db30e8bce790f16c1e2082c08fe88642956a68f48d32ad0bcf1a5", func := "muniment/munimentlaw08.RollUnlike", spec := "rollUnlike", apart := false }
def RollUnlikeSaid : Prop := rollUnlikeRow.holds Try.pinned (OpenSpec.ofChange rollUnlikeSpec)

/-- ITS FALSE NEIGHBOUR: 'it returns false'. Refute it at one input. -/
def rollUnlikeWrong : ChangeSpec := { name := "rollUnlike", fn := fun _ => fun
  | [d1, d2, d3, d4] => { results := [.lit (.bool false)], args := [d1, d2, d3, d4] }
  | _ => none }
def RollUnlikeWrongFalsely : Prop := rollUnlikeRow.holds Try.pinned (OpenSpec.ofChange rollUnlikeWrong)

/-- 'munimentlaw08.RollRolls': WHATEVER THE INPUT: true; the input reads as it did. -/
def rollRollsSpec : ChangeSpec := { name := "rollRolls", fn := fun _ => fun
  | [d] => { results := [.lit (.bool true)], args := [d] }
  | _ => none }
def rollRollsRow : OpenClaim := { program := "ytmnggemifcjflaa", sum := "3091c2be958db30e8bce790f16c1e2082c08fe88642956a68f48d32ad0bcf1a5", func := "muniment/munimentlaw08.RollRolls", spec := "rollRolls", apart := false }
def RollRollsSaid : Prop := rollRollsRow.holds Try.pinned (OpenSpec.ofChange rollRollsSpec)

/-- ITS FALSE NEIGHBOUR: 'it returns false'. Refute it at one input. -/
def rollRollsWrong : ChangeSpec := { name := "rollRolls", fn := fun _ => fun
  | [d] => { results := [.lit (.bool false)], args := [d] }
  | _ => none }
def RollRollsWrongFalsely : Prop := rollRollsRow.holds Try.pinned (OpenSpec.ofChange rollRollsWrong)

/-- 'munimentlaw09.SplitTiers': WHATEVER THE INPUT: true; the input reads as it did. -/
def splitTiersSpec : ChangeSpec := { name := "splitTiers", fn := fun _ => fun
  | [d1, d2] => { results := [.lit (.bool true)], args := [d1, d2] }
  | _ => none }
def splitTiersRow : OpenClaim := { program := "ytmnggemifcjflaa", sum := "3091c2be958db30e8bce790f16c1e2082c08fe88642956a68f48d32ad0bcf1a5", func := "muniment/munimentlaw09.SplitTiers", spec := "splitTiers", apart := false }
def SplitTiersSaid : Prop := splitTiersRow.holds Try.pinned (OpenSpec.ofChange splitTiersSpec)

/-- ITS FALSE NEIGHBOUR: 'it returns false'. Refute it at one input. -/
def splitTiersWrong : ChangeSpec := { name := "splitTiers", fn := fun _ => fun
  | [d1, d2] => { results := [.lit (.bool false)], args := [d1, d2] }
  | _ => none }
def SplitTiersWrongFalsely : Prop := splitTiersRow.holds Try.pinned (OpenSpec.ofChange splitTiersWrong)

/- THE SECOND FORM. 'bulk': how many values and letters a reading holds, each counted each time it is reached (what is shared counts as often as it is met; a slice's spare places count too). A statement '..UptoSaid' is the law's where the arguments, and the package variables that the reading takes, are together of bulk at most 1048576: NARROWER than '..Said'. Prove '..Said' where nothing that the law and all that it calls make is longer than what came in: it says more and counts as full. Else prove '..UptoSaid'. A law counts once. -/
mutual
def uptoBulk {H : Type} : DataW H → Nat
  | .lit (.string bytes) => bytes.length + 1
  | .lit _ => 1
  | .nil => 1
  | .ptr d => uptoBulk d + 1
  | .slice elems spare => uptoBulkAll elems + uptoBulkAll spare + 1
  | .agg parts => uptoBulkAll parts + 1
  | .iface _ d => uptoBulk d + 1
  | .map entries => uptoBulkEntries entries + 1
  | .held _ => 1
def uptoBulkAll {H : Type} : List (DataW H) → Nat
  | [] => 0
  | d :: r => uptoBulk d + uptoBulkAll r
def uptoBulkEntries {H : Type} : List (Lit × DataW H) → Nat
  | [] => 0
  | x :: r => uptoBulkEntry x + uptoBulkEntries r
def uptoBulkEntry {H : Type} : Lit × DataW H → Nat
  | (.string bytes, d) => bytes.length + uptoBulk d + 1
  | (_, d) => uptoBulk d + 1
 end
def uptoSmall : (H : Type) → List (DataW H) → Bool := fun _ ds => decide (uptoBulkAll ds ≤ 1048576)
def OpenSpec.upto (s : _root_.Go.ChangeSpec) : _root_.Go.OpenSpec := { _root_.Go.OpenSpec.ofChange s with cond := some uptoSmall }

/-- 'munimentlaw08.RollRuns', WHERE WHAT IT READS IS OF BULK AT MOST 1048576: true; the input reads as it did. -/
def rollRunsUptoRow : OpenClaim := { program := "ytmnggemifcjflaa", sum := "3091c2be958db30e8bce790f16c1e2082c08fe88642956a68f48d32ad0bcf1a5", func := "muniment/munimentlaw08.RollRuns", spec := "rollRuns", apart := false, narrowed := true }
def RollRunsUptoSaid : Prop := rollRunsUptoRow.holds Try.pinned (OpenSpec.upto rollRunsSpec)

/-- 'munimentlaw08.RollWindow', WHERE WHAT IT READS IS OF BULK AT MOST 1048576: true; the input reads as it did. -/
def rollWindowUptoRow : OpenClaim := { program := "ytmnggemifcjflaa", sum := "3091c2be958db30e8bce790f16c1e2082c08fe88642956a68f48d32ad0bcf1a5", func := "muniment/munimentlaw08.RollWindow", spec := "rollWindow", apart := false, narrowed := true }
def RollWindowUptoSaid : Prop := rollWindowUptoRow.holds Try.pinned (OpenSpec.upto rollWindowSpec)

/-- 'munimentlaw08.RollUnlike', WHERE WHAT IT READS IS OF BULK AT MOST 1048576: true; the input reads as it did. -/
def rollUnlikeUptoRow : OpenClaim := { program := "ytmnggemifcjflaa", sum := "3091c2be958db30e8bce790f16c1e2082c08fe88642956a68f48d32ad0bcf1a5", func := "muniment/munimentlaw08.RollUnlike", spec := "rollUnlike", apart := false, narrowed := true }
def RollUnlikeUptoSaid : Prop := rollUnlikeUptoRow.holds Try.pinned (OpenSpec.upto rollUnlikeSpec)

/-- 'munimentlaw08.RollRolls', WHERE WHAT IT READS IS OF BULK AT MOST 1048576: true; the input reads as it did. -/
def rollRollsUptoRow : OpenClaim := { program := "ytmnggemifcjflaa", sum := "3091c2be958db30e8bce790f16c1e2082c08fe88642956a68f48d32ad0bcf1a5", func := "muniment/munimentlaw08.RollRolls", spec := "rollRolls", apart := false, narrowed := true }
def RollRollsUptoSaid : Prop := rollRollsUptoRow.holds Try.pinned (OpenSpec.upto rollRollsSpec)

/-- 'munimentlaw09.SplitTiers', WHERE WHAT IT READS IS OF BULK AT MOST 1048576: true; the input reads as it did. -/
def splitTiersUptoRow : OpenClaim := { program := "ytmnggemifcjflaa", sum := "3091c2be958db30e8bce790f16c1e2082c08fe88642956a68f48d32ad0bcf1a5", func := "muniment/munimentlaw09.SplitTiers", spec := "splitTiers", apart := false, narrowed := true }
def SplitTiersUptoSaid : Prop := splitTiersUptoRow.holds Try.pinned (OpenSpec.upto splitTiersSpec)

end Rows
end Go.Proofs.Ytmnggemifcjflaa
