/-
  DERIVED. GIVEN WITH THE SEED: THE CARDS: each row of YtfbfomlgjghcmaaDoorRows.lean that lists a variable, with what it lists TIED to the program's text (the seventh form; the later family's looks); each row that meets fmt, with fmt's text TOLD by the authors' own Lean function (tested against real Go, not proved from fmt's source: count such statements apart). THE CARD IS WHAT COUNTS. Prove the row's statement (the work); the ties are given (YtfbfomlgjghcmaaDoorTie.lean); close each card by the builder's one call (the guide's Derived/Test/ToyasCard.lean, 'card_holds'). Laid BY PROGRAM, IN A SANDBOX (cutbox-door.mjs). By AI agents, Wed Nov 11 2026. No macro, syntax, notation, axiom, sorry.
-/
import Derived.Test.YtfbfomlgjghcmaaDoorRows
import GoSem.ClaimSeven
namespace Go.Proofs.YtfbfomlgjghcmaaDoor
namespace Rows

/-- THE TIED CARD OF 'laws.FnExactBucketSums'. -/
def fnExactBucketSumsCard : Claim7 := { stood := { row := fnExactBucketSumsRow, standIns := [], harness := (true, "6390478afabca9f827fdb370f858e1db9fa19eb9d670c146331534b7908023c9"), looks := false }, kinds := [], alts := [], laidByText := true, laidKinds := [.data], laidTests := true, laidLooks := .later }
def FnExactBucketSumsCardSaid : Prop := Claim7.holds Tryd.pinned (.plain (OpenSpec.ofChange fnExactBucketSumsSpec)) fnExactBucketSumsCard

/-- THE TIED CARD OF 'laws.FnExactUnlike'. -/
def fnExactUnlikeCard : Claim7 := { stood := { row := fnExactUnlikeRow, standIns := [], harness := (true, "6390478afabca9f827fdb370f858e1db9fa19eb9d670c146331534b7908023c9"), looks := false }, kinds := [], alts := [], laidByText := true, laidKinds := [.data], laidTests := true, laidLooks := .later }
def FnExactUnlikeCardSaid : Prop := Claim7.holds Tryd.pinned (.plain (OpenSpec.ofChange fnExactUnlikeSpec)) fnExactUnlikeCard

/-- THE TIED CARD OF 'laws.FnExactRecon'. -/
def fnExactReconCard : Claim7 := { stood := { row := fnExactReconRow, standIns := [], harness := (true, "6390478afabca9f827fdb370f858e1db9fa19eb9d670c146331534b7908023c9"), looks := false }, kinds := [], alts := [], laidByText := true, laidKinds := [.data], laidTests := true, laidLooks := .later }
def FnExactReconCardSaid : Prop := Claim7.holds Tryd.pinned (.plain (OpenSpec.ofChange fnExactReconSpec)) fnExactReconCard

/-- THE TIED CARD OF 'laws.FnRecon'. -/
def fnReconCard : Claim7 := { stood := { row := fnReconRow, standIns := [], harness := (true, "6390478afabca9f827fdb370f858e1db9fa19eb9d670c146331534b7908023c9"), looks := false }, kinds := [], alts := [], laidByText := true, laidKinds := [.data], laidTests := true, laidLooks := .later }
def FnReconCardSaid : Prop := Claim7.holds Tryd.pinned (.plain (OpenSpec.ofChange fnReconSpec)) fnReconCard

/-- THE SECOND FORM's CARD OF 'laws.FnExactBucketSums'. -/
def fnExactBucketSumsUptoCard : Claim7 := { stood := { row := fnExactBucketSumsUptoRow, standIns := [], harness := (true, "6390478afabca9f827fdb370f858e1db9fa19eb9d670c146331534b7908023c9"), looks := false }, kinds := [], alts := [], laidByText := true, laidKinds := [.data], laidTests := true, laidLooks := .later }
def FnExactBucketSumsUptoCardSaid : Prop := Claim7.holds Tryd.pinned (.plain (OpenSpec.upto fnExactBucketSumsSpec)) fnExactBucketSumsUptoCard

/-- THE SECOND FORM's CARD OF 'laws.FnExactUnlike'. -/
def fnExactUnlikeUptoCard : Claim7 := { stood := { row := fnExactUnlikeUptoRow, standIns := [], harness := (true, "6390478afabca9f827fdb370f858e1db9fa19eb9d670c146331534b7908023c9"), looks := false }, kinds := [], alts := [], laidByText := true, laidKinds := [.data], laidTests := true, laidLooks := .later }
def FnExactUnlikeUptoCardSaid : Prop := Claim7.holds Tryd.pinned (.plain (OpenSpec.upto fnExactUnlikeSpec)) fnExactUnlikeUptoCard

/-- THE SECOND FORM's CARD OF 'laws.FnExactRecon'. -/
def fnExactReconUptoCard : Claim7 := { stood := { row := fnExactReconUptoRow, standIns := [], harness := (true, "6390478afabca9f827fdb370f858e1db9fa19eb9d670c146331534b7908023c9"), looks := false }, kinds := [], alts := [], laidByText := true, laidKinds := [.data], laidTests := true, laidLooks := .later }
def FnExactReconUptoCardSaid : Prop := Claim7.holds Tryd.pinned (.plain (OpenSpec.upto fnExactReconSpec)) fnExactReconUptoCard

/-- THE SECOND FORM's CARD OF 'laws.FnRecon'. -/
def fnReconUptoCard : Claim7 := { stood := { row := fnReconUptoRow, standIns := [], harness := (true, "6390478afabca9f827fdb370f858e1db9fa19eb9d670c146331534b7908023c9"), looks := false }, kinds := [], alts := [], laidByText := true, laidKinds := [.data], laidTests := true, laidLooks := .later }
def FnReconUptoCardSaid : Prop := Claim7.holds Tryd.pinned (.plain (OpenSpec.upto fnReconSpec)) fnReconUptoCard
end Rows
end Go.Proofs.YtfbfomlgjghcmaaDoor
