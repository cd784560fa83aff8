/-
  DERIVED. GIVEN WITH THE SEED: THE CARDS: each row of YtmdhanegafclmaaDoorRows.lean that lists a variable, with what it lists TIED to the program's text (the seventh form; the later family's looks); each row that meets fmt, with fmt's text TOLD by the authors' own Lean function (tested against real Go, not proved from fmt's source: count such statements apart). THE CARD IS WHAT COUNTS. Prove the row's statement (the work); the ties are given (YtmdhanegafclmaaDoorTie.lean); close each card by the builder's one call (the guide's Derived/Test/ToyasCard.lean, 'card_holds'). Laid BY PROGRAM, IN A SANDBOX (cutbox-door.mjs). By AI agents, Wed Nov 11 2026. No macro, syntax, notation, axiom, sorry.
-/
import Derived.Test.YtmdhanegafclmaaDoorRows
import GoSem.ClaimSeven
namespace Go.Proofs.YtmdhanegafclmaaDoor
namespace Rows

/-- THE TIED CARD OF 'laws.FnExactNumInt'. -/
def fnExactNumIntCard : Claim7 := { stood := { row := fnExactNumIntRow, standIns := [], harness := (true, "b224e3b82d33f50ed679d4b5a464313cbc254b4fe3b79e911ac3bbafe0d472b8"), looks := false }, kinds := [], alts := [], laidByText := true, laidKinds := [.data, .data, .data], laidTests := true, laidLooks := .later }
def FnExactNumIntCardSaid : Prop := Claim7.holds Tryd.pinned (.plain (OpenSpec.ofChange fnExactNumIntSpec)) fnExactNumIntCard

/-- THE TIED CARD OF 'laws.FnExactExpFormOk'. -/
def fnExactExpFormOkCard : Claim7 := { stood := { row := fnExactExpFormOkRow, standIns := [], harness := (true, "b224e3b82d33f50ed679d4b5a464313cbc254b4fe3b79e911ac3bbafe0d472b8"), looks := false }, kinds := [], alts := [], laidByText := true, laidKinds := [.data, .pinned], laidTests := true, laidLooks := .later }
def FnExactExpFormOkCardSaid : Prop := Claim7.holds Tryd.pinned (.plain (OpenSpec.ofChange fnExactExpFormOkSpec)) fnExactExpFormOkCard

/-- THE TIED CARD OF 'laws.FnExactExpShow'. -/
def fnExactExpShowCard : Claim7 := { stood := { row := fnExactExpShowRow, standIns := [], harness := (true, "b224e3b82d33f50ed679d4b5a464313cbc254b4fe3b79e911ac3bbafe0d472b8"), looks := false }, kinds := [], alts := [], laidByText := true, laidKinds := [.data, .pinned], laidTests := true, laidLooks := .later }
def FnExactExpShowCardSaid : Prop := Claim7.holds Tryd.pinned (.plain (OpenSpec.ofChange fnExactExpShowSpec)) fnExactExpShowCard

/-- THE TIED CARD OF 'laws.FnExactExpWith'. -/
def fnExactExpWithCard : Claim7 := { stood := { row := fnExactExpWithRow, standIns := [], harness := (true, "b224e3b82d33f50ed679d4b5a464313cbc254b4fe3b79e911ac3bbafe0d472b8"), looks := false }, kinds := [], alts := [], laidByText := true, laidKinds := [.data, .pinned], laidTests := true, laidLooks := .later }
def FnExactExpWithCardSaid : Prop := Claim7.holds Tryd.pinned (.plain (OpenSpec.ofChange fnExactExpWithSpec)) fnExactExpWithCard

/-- THE TIED CARD OF 'laws.FnExactExpPatternOk'. -/
def fnExactExpPatternOkCard : Claim7 := { stood := { row := fnExactExpPatternOkRow, standIns := [], harness := (true, "b224e3b82d33f50ed679d4b5a464313cbc254b4fe3b79e911ac3bbafe0d472b8"), looks := false }, kinds := [], alts := [], laidByText := true, laidKinds := [.data, .pinned], laidTests := true, laidLooks := .later }
def FnExactExpPatternOkCardSaid : Prop := Claim7.holds Tryd.pinned (.plain (OpenSpec.ofChange fnExactExpPatternOkSpec)) fnExactExpPatternOkCard

/-- THE SECOND FORM's CARD OF 'laws.FnExactNumInt'. -/
def fnExactNumIntUptoCard : Claim7 := { stood := { row := fnExactNumIntUptoRow, standIns := [], harness := (true, "b224e3b82d33f50ed679d4b5a464313cbc254b4fe3b79e911ac3bbafe0d472b8"), looks := false }, kinds := [], alts := [], laidByText := true, laidKinds := [.data, .data, .data], laidTests := true, laidLooks := .later }
def FnExactNumIntUptoCardSaid : Prop := Claim7.holds Tryd.pinned (.plain (OpenSpec.upto fnExactNumIntSpec)) fnExactNumIntUptoCard

/-- THE SECOND FORM's CARD OF 'laws.FnExactExpFormOk'. -/
def fnExactExpFormOkUptoCard : Claim7 := { stood := { row := fnExactExpFormOkUptoRow, standIns := [], harness := (true, "b224e3b82d33f50ed679d4b5a464313cbc254b4fe3b79e911ac3bbafe0d472b8"), looks := false }, kinds := [], alts := [], laidByText := true, laidKinds := [.data, .pinned], laidTests := true, laidLooks := .later }
def FnExactExpFormOkUptoCardSaid : Prop := Claim7.holds Tryd.pinned (.plain (OpenSpec.upto fnExactExpFormOkSpec)) fnExactExpFormOkUptoCard

/-- THE SECOND FORM's CARD OF 'laws.FnExactExpShow'. -/
def fnExactExpShowUptoCard : Claim7 := { stood := { row := fnExactExpShowUptoRow, standIns := [], harness := (true, "b224e3b82d33f50ed679d4b5a464313cbc254b4fe3b79e911ac3bbafe0d472b8"), looks := false }, kinds := [], alts := [], laidByText := true, laidKinds := [.data, .pinned], laidTests := true, laidLooks := .later }
def FnExactExpShowUptoCardSaid : Prop := Claim7.holds Tryd.pinned (.plain (OpenSpec.upto fnExactExpShowSpec)) fnExactExpShowUptoCard

/-- THE SECOND FORM's CARD OF 'laws.FnExactExpWith'. -/
def fnExactExpWithUptoCard : Claim7 := { stood := { row := fnExactExpWithUptoRow, standIns := [], harness := (true, "b224e3b82d33f50ed679d4b5a464313cbc254b4fe3b79e911ac3bbafe0d472b8"), looks := false }, kinds := [], alts := [], laidByText := true, laidKinds := [.data, .pinned], laidTests := true, laidLooks := .later }
def FnExactExpWithUptoCardSaid : Prop := Claim7.holds Tryd.pinned (.plain (OpenSpec.upto fnExactExpWithSpec)) fnExactExpWithUptoCard

/-- THE SECOND FORM's CARD OF 'laws.FnExactExpPatternOk'. -/
def fnExactExpPatternOkUptoCard : Claim7 := { stood := { row := fnExactExpPatternOkUptoRow, standIns := [], harness := (true, "b224e3b82d33f50ed679d4b5a464313cbc254b4fe3b79e911ac3bbafe0d472b8"), looks := false }, kinds := [], alts := [], laidByText := true, laidKinds := [.data, .pinned], laidTests := true, laidLooks := .later }
def FnExactExpPatternOkUptoCardSaid : Prop := Claim7.holds Tryd.pinned (.plain (OpenSpec.upto fnExactExpPatternOkSpec)) fnExactExpPatternOkUptoCard
end Rows
end Go.Proofs.YtmdhanegafclmaaDoor
