/-
  DERIVED. GIVEN WITH THE SEED: THE CARDS: each row of YtmnggemifcjflaaDoorRows.lean that lists a variable, with what it lists TIED to the program's text (the seventh form; the later family's looks); each row that meets fmt, with fmt's text TOLD by the authors' own Lean function (tested against real Go, not proved from fmt's source: count such statements apart). THE CARD IS WHAT COUNTS. Prove the row's statement (the work); the ties are given (YtmnggemifcjflaaDoorTie.lean); close each card by the builder's one call (the guide's Derived/Test/ToyasCard.lean, 'card_holds'). Laid BY PROGRAM, IN A SANDBOX (cutbox-door.mjs). By AI agents, Wed Nov 11 2026. No macro, syntax, notation, axiom, sorry.
-/
import Derived.Test.YtmnggemifcjflaaDoorRows
import GoSem.ClaimSeven
namespace Go.Proofs.YtmnggemifcjflaaDoor
namespace Rows

/-- THE TIED CARD OF 'munimentlaw08.RollOf'. -/
def rollOfCard : Claim7 := { stood := { row := rollOfRow, standIns := [], harness := (true, "ee43f07261bca8daf916724aec8b621f762cf0f5e760a16a328738a307fc5436"), looks := false }, kinds := [], alts := [], laidByText := true, laidKinds := [.data], laidTests := true, laidLooks := .later }
def RollOfCardSaid : Prop := Claim7.holds Tryd.pinned (.plain (OpenSpec.ofChange rollOfSpec)) rollOfCard

/-- THE TIED CARD OF 'munimentlaw08.RollNames'. -/
def rollNamesCard : Claim7 := { stood := { row := rollNamesRow, standIns := [], harness := (true, "ee43f07261bca8daf916724aec8b621f762cf0f5e760a16a328738a307fc5436"), looks := false }, kinds := [], alts := [], laidByText := true, laidKinds := [.data], laidTests := true, laidLooks := .later }
def RollNamesCardSaid : Prop := Claim7.holds Tryd.pinned (.plain (OpenSpec.ofChange rollNamesSpec)) rollNamesCard

/-- THE TIED CARD OF 'munimentlaw09.SplitCuts'. -/
def splitCutsCard : Claim7 := { stood := { row := splitCutsRow, standIns := [], harness := (true, "ee43f07261bca8daf916724aec8b621f762cf0f5e760a16a328738a307fc5436"), looks := false }, kinds := [], alts := [], laidByText := true, laidKinds := [.data], laidTests := true, laidLooks := .later }
def SplitCutsCardSaid : Prop := Claim7.holds Tryd.pinned (.plain (OpenSpec.ofChange splitCutsSpec)) splitCutsCard

/-- THE TIED CARD OF 'munimentlaw09.SplitRuns'. -/
def splitRunsCard : Claim7 := { stood := { row := splitRunsRow, standIns := [], harness := (true, "ee43f07261bca8daf916724aec8b621f762cf0f5e760a16a328738a307fc5436"), looks := false }, kinds := [], alts := [], laidByText := true, laidKinds := [.data], laidTests := true, laidLooks := .later }
def SplitRunsCardSaid : Prop := Claim7.holds Tryd.pinned (.plain (OpenSpec.ofChange splitRunsSpec)) splitRunsCard

/-- THE TIED CARD OF 'munimentlaw09.SplitAsBefore'. -/
def splitAsBeforeCard : Claim7 := { stood := { row := splitAsBeforeRow, standIns := [], harness := (true, "ee43f07261bca8daf916724aec8b621f762cf0f5e760a16a328738a307fc5436"), looks := false }, kinds := [], alts := [], laidByText := true, laidKinds := [.data], laidTests := true, laidLooks := .later }
def SplitAsBeforeCardSaid : Prop := Claim7.holds Tryd.pinned (.plain (OpenSpec.ofChange splitAsBeforeSpec)) splitAsBeforeCard

/-- THE TIED CARD OF 'munimentlaw09.SplitGroups'. -/
def splitGroupsCard : Claim7 := { stood := { row := splitGroupsRow, standIns := [], harness := (true, "ee43f07261bca8daf916724aec8b621f762cf0f5e760a16a328738a307fc5436"), looks := false }, kinds := [], alts := [], laidByText := true, laidKinds := [.data], laidTests := true, laidLooks := .later }
def SplitGroupsCardSaid : Prop := Claim7.holds Tryd.pinned (.plain (OpenSpec.ofChange splitGroupsSpec)) splitGroupsCard

/-- THE TIED CARD OF 'munimentlaw09.SplitBegins'. -/
def splitBeginsCard : Claim7 := { stood := { row := splitBeginsRow, standIns := [], harness := (true, "ee43f07261bca8daf916724aec8b621f762cf0f5e760a16a328738a307fc5436"), looks := false }, kinds := [], alts := [], laidByText := true, laidKinds := [.data], laidTests := true, laidLooks := .later }
def SplitBeginsCardSaid : Prop := Claim7.holds Tryd.pinned (.plain (OpenSpec.ofChange splitBeginsSpec)) splitBeginsCard

/-- THE TIED CARD OF 'munimentlaw09.SplitNames'. -/
def splitNamesCard : Claim7 := { stood := { row := splitNamesRow, standIns := [], harness := (true, "ee43f07261bca8daf916724aec8b621f762cf0f5e760a16a328738a307fc5436"), looks := false }, kinds := [], alts := [], laidByText := true, laidKinds := [.data], laidTests := true, laidLooks := .later }
def SplitNamesCardSaid : Prop := Claim7.holds Tryd.pinned (.plain (OpenSpec.ofChange splitNamesSpec)) splitNamesCard

/-- THE TIED CARD OF 'munimentlaw09.SplitAll'. -/
def splitAllCard : Claim7 := { stood := { row := splitAllRow, standIns := [], harness := (true, "ee43f07261bca8daf916724aec8b621f762cf0f5e760a16a328738a307fc5436"), looks := false }, kinds := [], alts := [], laidByText := true, laidKinds := [.data], laidTests := true, laidLooks := .later }
def SplitAllCardSaid : Prop := Claim7.holds Tryd.pinned (.plain (OpenSpec.ofChange splitAllSpec)) splitAllCard

/-- THE SECOND FORM's CARD OF 'munimentlaw08.RollOf'. -/
def rollOfUptoCard : Claim7 := { stood := { row := rollOfUptoRow, standIns := [], harness := (true, "ee43f07261bca8daf916724aec8b621f762cf0f5e760a16a328738a307fc5436"), looks := false }, kinds := [], alts := [], laidByText := true, laidKinds := [.data], laidTests := true, laidLooks := .later }
def RollOfUptoCardSaid : Prop := Claim7.holds Tryd.pinned (.plain (OpenSpec.upto rollOfSpec)) rollOfUptoCard

/-- THE SECOND FORM's CARD OF 'munimentlaw08.RollNames'. -/
def rollNamesUptoCard : Claim7 := { stood := { row := rollNamesUptoRow, standIns := [], harness := (true, "ee43f07261bca8daf916724aec8b621f762cf0f5e760a16a328738a307fc5436"), looks := false }, kinds := [], alts := [], laidByText := true, laidKinds := [.data], laidTests := true, laidLooks := .later }
def RollNamesUptoCardSaid : Prop := Claim7.holds Tryd.pinned (.plain (OpenSpec.upto rollNamesSpec)) rollNamesUptoCard

/-- THE SECOND FORM's CARD OF 'munimentlaw09.SplitCuts'. -/
def splitCutsUptoCard : Claim7 := { stood := { row := splitCutsUptoRow, standIns := [], harness := (true, "ee43f07261bca8daf916724aec8b621f762cf0f5e760a16a328738a307fc5436"), looks := false }, kinds := [], alts := [], laidByText := true, laidKinds := [.data], laidTests := true, laidLooks := .later }
def SplitCutsUptoCardSaid : Prop := Claim7.holds Tryd.pinned (.plain (OpenSpec.upto splitCutsSpec)) splitCutsUptoCard

/-- THE SECOND FORM's CARD OF 'munimentlaw09.SplitRuns'. -/
def splitRunsUptoCard : Claim7 := { stood := { row := splitRunsUptoRow, standIns := [], harness := (true, "ee43f07261bca8daf916724aec8b621f762cf0f5e760a16a328738a307fc5436"), looks := false }, kinds := [], alts := [], laidByText := true, laidKinds := [.data], laidTests := true, laidLooks := .later }
def SplitRunsUptoCardSaid : Prop := Claim7.holds Tryd.pinned (.plain (OpenSpec.upto splitRunsSpec)) splitRunsUptoCard

/-- THE SECOND FORM's CARD OF 'munimentlaw09.SplitAsBefore'. -/
def splitAsBeforeUptoCard : Claim7 := { stood := { row := splitAsBeforeUptoRow, standIns := [], harness := (true, "ee43f07261bca8daf916724aec8b621f762cf0f5e760a16a328738a307fc5436"), looks := false }, kinds := [], alts := [], laidByText := true, laidKinds := [.data], laidTests := true, laidLooks := .later }
def SplitAsBeforeUptoCardSaid : Prop := Claim7.holds Tryd.pinned (.plain (OpenSpec.upto splitAsBeforeSpec)) splitAsBeforeUptoCard

/-- THE SECOND FORM's CARD OF 'munimentlaw09.SplitGroups'. -/
def splitGroupsUptoCard : Claim7 := { stood := { row := splitGroupsUptoRow, standIns := [], harness := (true, "ee43f07261bca8daf916724aec8b621f762cf0f5e760a16a328738a307fc5436"), looks := false }, kinds := [], alts := [], laidByText := true, laidKinds := [.data], laidTests := true, laidLooks := .later }
def SplitGroupsUptoCardSaid : Prop := Claim7.holds Tryd.pinned (.plain (OpenSpec.upto splitGroupsSpec)) splitGroupsUptoCard

/-- THE SECOND FORM's CARD OF 'munimentlaw09.SplitBegins'. -/
def splitBeginsUptoCard : Claim7 := { stood := { row := splitBeginsUptoRow, standIns := [], harness := (true, "ee43f07261bca8daf916724aec8b621f762cf0f5e760a16a328738a307fc5436"), looks := false }, kinds := [], alts := [], laidByText := true, laidKinds := [.data], laidTests := true, laidLooks := .later }
def SplitBeginsUptoCardSaid : Prop := Claim7.holds Tryd.pinned (.plain (OpenSpec.upto splitBeginsSpec)) splitBeginsUptoCard

/-- THE SECOND FORM's CARD OF 'munimentlaw09.SplitNames'. -/
def splitNamesUptoCard : Claim7 := { stood := { row := splitNamesUptoRow, standIns := [], harness := (true, "ee43f07261bca8daf916724aec8b621f762cf0f5e760a16a328738a307fc5436"), looks := false }, kinds := [], alts := [], laidByText := true, laidKinds := [.data], laidTests := true, laidLooks := .later }
def SplitNamesUptoCardSaid : Prop := Claim7.holds Tryd.pinned (.plain (OpenSpec.upto splitNamesSpec)) splitNamesUptoCard

/-- THE SECOND FORM's CARD OF 'munimentlaw09.SplitAll'. -/
def splitAllUptoCard : Claim7 := { stood := { row := splitAllUptoRow, standIns := [], harness := (true, "ee43f07261bca8daf916724aec8b621f762cf0f5e760a16a328738a307fc5436"), looks := false }, kinds := [], alts := [], laidByText := true, laidKinds := [.data], laidTests := true, laidLooks := .later }
def SplitAllUptoCardSaid : Prop := Claim7.holds Tryd.pinned (.plain (OpenSpec.upto splitAllSpec)) splitAllUptoCard
end Rows
end Go.Proofs.YtmnggemifcjflaaDoor
