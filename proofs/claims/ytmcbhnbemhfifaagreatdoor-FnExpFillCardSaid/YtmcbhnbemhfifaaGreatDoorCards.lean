/-
  DERIVED. GIVEN WITH THE SEED: THE CARDS: each row of YtmcbhnbemhfifaaGreatDoorRows.lean that lists a variable, with what it lists TIED to the program's text (the seventh form; the later family's looks); each row that meets fmt, with fmt's text TOLD by the authors' own Lean function (tested against real Go, not proved from fmt's source: count such statements apart). THE CARD IS WHAT COUNTS. Prove the row's statement (the work); the ties are given (YtmcbhnbemhfifaaGreatDoorTie.lean); close each card by the builder's one call (the guide's Derived/Test/ToyasCard.lean, 'card_holds'). Laid BY PROGRAM, IN A SANDBOX (cutbox-door.mjs). By AI agents, Wed Nov 11 2026. No macro, syntax, notation, axiom, sorry.
-/
import Derived.Test.YtmcbhnbemhfifaaGreatDoorRows
import GoSem.ClaimSeven
namespace Go.Proofs.YtmcbhnbemhfifaaGreatDoor
namespace Rows

/-- THE TIED CARD OF 'laws.FnExpMatch'. -/
def fnExpMatchCard : Claim7 := { stood := { row := fnExpMatchRow, standIns := [], harness := (true, "ce67eae47c90cc1718513252586c50794830760c344591f4a827eab89069fbbe"), looks := false }, kinds := [], alts := [], laidByText := true, laidKinds := [.data, .pinned], laidTests := true, laidLooks := .later }
def FnExpMatchCardSaid : Prop := Claim7.holds Tryz.pinned (.plain (OpenSpec.ofChange fnExpMatchSpec)) fnExpMatchCard

/-- THE TIED CARD OF 'laws.FnExactImgWrite'. -/
def fnExactImgWriteCard : Claim7 := { stood := { row := fnExactImgWriteRow, standIns := [], harness := (true, "ce67eae47c90cc1718513252586c50794830760c344591f4a827eab89069fbbe"), looks := false }, kinds := [], alts := [], laidByText := true, laidKinds := [.data, .data, .data], laidTests := true, laidLooks := .later }
def FnExactImgWriteCardSaid : Prop := Claim7.holds Tryz.pinned (.plain (OpenSpec.ofChange fnExactImgWriteSpec)) fnExactImgWriteCard

/-- THE TIED CARD OF 'laws.FnExpFill'. -/
def fnExpFillCard : Claim7 := { stood := { row := fnExpFillRow, standIns := [], harness := (true, "ce67eae47c90cc1718513252586c50794830760c344591f4a827eab89069fbbe"), looks := false }, kinds := [], alts := [], laidByText := true, laidKinds := [.data, .pinned], laidTests := true, laidLooks := .later }
def FnExpFillCardSaid : Prop := Claim7.holds Tryz.pinned (.plain (OpenSpec.ofChange fnExpFillSpec)) fnExpFillCard

/-- THE SECOND FORM's CARD OF 'laws.FnExpMatch'. -/
def fnExpMatchUptoCard : Claim7 := { stood := { row := fnExpMatchUptoRow, standIns := [], harness := (true, "ce67eae47c90cc1718513252586c50794830760c344591f4a827eab89069fbbe"), looks := false }, kinds := [], alts := [], laidByText := true, laidKinds := [.data, .pinned], laidTests := true, laidLooks := .later }
def FnExpMatchUptoCardSaid : Prop := Claim7.holds Tryz.pinned (.plain (OpenSpec.upto fnExpMatchSpec)) fnExpMatchUptoCard

/-- THE SECOND FORM's CARD OF 'laws.FnExactImgWrite'. -/
def fnExactImgWriteUptoCard : Claim7 := { stood := { row := fnExactImgWriteUptoRow, standIns := [], harness := (true, "ce67eae47c90cc1718513252586c50794830760c344591f4a827eab89069fbbe"), looks := false }, kinds := [], alts := [], laidByText := true, laidKinds := [.data, .data, .data], laidTests := true, laidLooks := .later }
def FnExactImgWriteUptoCardSaid : Prop := Claim7.holds Tryz.pinned (.plain (OpenSpec.upto fnExactImgWriteSpec)) fnExactImgWriteUptoCard

/-- THE SECOND FORM's CARD OF 'laws.FnExpFill'. -/
def fnExpFillUptoCard : Claim7 := { stood := { row := fnExpFillUptoRow, standIns := [], harness := (true, "ce67eae47c90cc1718513252586c50794830760c344591f4a827eab89069fbbe"), looks := false }, kinds := [], alts := [], laidByText := true, laidKinds := [.data, .pinned], laidTests := true, laidLooks := .later }
def FnExpFillUptoCardSaid : Prop := Claim7.holds Tryz.pinned (.plain (OpenSpec.upto fnExpFillSpec)) fnExpFillUptoCard
end Rows
end Go.Proofs.YtmcbhnbemhfifaaGreatDoor
