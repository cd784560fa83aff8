/-
  DERIVED. GIVEN WITH THE SEED: THE CARDS: each row of YtmcbhnbemhfifaaDoorRows.lean that lists a variable, with what it lists TIED to the program's text (the seventh form; the later family's looks); each row that meets fmt, with fmt's text TOLD by the authors' own Lean function (tested against real Go, not proved from fmt's source: count such statements apart). THE CARD IS WHAT COUNTS. Prove the row's statement (the work); the ties are given (YtmcbhnbemhfifaaDoorTie.lean); close each card by the builder's one call (the guide's Derived/Test/ToyasCard.lean, 'card_holds'). Laid BY PROGRAM, IN A SANDBOX (cutbox-door.mjs). By AI agents, Wed Nov 11 2026. No macro, syntax, notation, axiom, sorry.
-/
import Derived.Test.YtmcbhnbemhfifaaDoorRows
import GoSem.ClaimSeven
namespace Go.Proofs.YtmcbhnbemhfifaaDoor
namespace Rows

/-- THE TIED CARD OF 'laws.FnExactExpWith'. -/
def fnExactExpWithCard : Claim7 := { stood := { row := fnExactExpWithRow, standIns := [], harness := (true, "429bb66547cc69c797d60cbc75a68c2288b8921fbbc8d420d694b99114132444"), looks := false }, kinds := [], alts := [], laidByText := true, laidKinds := [.data, .pinned], laidTests := true, laidLooks := .later }
def FnExactExpWithCardSaid : Prop := Claim7.holds Tryd.pinned (.plain (OpenSpec.ofChange fnExactExpWithSpec)) fnExactExpWithCard

/-- THE TIED CARD OF 'laws.FnExactExpPatternOk'. -/
def fnExactExpPatternOkCard : Claim7 := { stood := { row := fnExactExpPatternOkRow, standIns := [], harness := (true, "429bb66547cc69c797d60cbc75a68c2288b8921fbbc8d420d694b99114132444"), looks := false }, kinds := [], alts := [], laidByText := true, laidKinds := [.data, .pinned], laidTests := true, laidLooks := .later }
def FnExactExpPatternOkCardSaid : Prop := Claim7.holds Tryd.pinned (.plain (OpenSpec.ofChange fnExactExpPatternOkSpec)) fnExactExpPatternOkCard

/-- THE TIED CARD OF 'laws.FnExactExpFlip'. -/
def fnExactExpFlipCard : Claim7 := { stood := { row := fnExactExpFlipRow, standIns := [], harness := (true, "429bb66547cc69c797d60cbc75a68c2288b8921fbbc8d420d694b99114132444"), looks := false }, kinds := [], alts := [], laidByText := true, laidKinds := [.data, .pinned], laidTests := true, laidLooks := .later }
def FnExactExpFlipCardSaid : Prop := Claim7.holds Tryd.pinned (.plain (OpenSpec.ofChange fnExactExpFlipSpec)) fnExactExpFlipCard

/-- THE TIED CARD OF 'laws.FnExpScopes'. -/
def fnExpScopesCard : Claim7 := { stood := { row := fnExpScopesRow, standIns := [], harness := (true, "429bb66547cc69c797d60cbc75a68c2288b8921fbbc8d420d694b99114132444"), looks := false }, kinds := [], alts := [], laidByText := true, laidKinds := [.data, .pinned], laidTests := true, laidLooks := .later }
def FnExpScopesCardSaid : Prop := Claim7.holds Tryd.pinned (.plain (OpenSpec.ofChange fnExpScopesSpec)) fnExpScopesCard

/-- THE TIED CARD OF 'laws.FnExactExpRules'. -/
def fnExactExpRulesCard : Claim7 := { stood := { row := fnExactExpRulesRow, standIns := [], harness := (true, "429bb66547cc69c797d60cbc75a68c2288b8921fbbc8d420d694b99114132444"), looks := false }, kinds := [], alts := [], laidByText := true, laidKinds := [.data, .pinned], laidTests := true, laidLooks := .later }
def FnExactExpRulesCardSaid : Prop := Claim7.holds Tryd.pinned (.plain (OpenSpec.ofChange fnExactExpRulesSpec)) fnExactExpRulesCard

/-- THE SECOND FORM's CARD OF 'laws.FnExactExpWith'. -/
def fnExactExpWithUptoCard : Claim7 := { stood := { row := fnExactExpWithUptoRow, standIns := [], harness := (true, "429bb66547cc69c797d60cbc75a68c2288b8921fbbc8d420d694b99114132444"), looks := false }, kinds := [], alts := [], laidByText := true, laidKinds := [.data, .pinned], laidTests := true, laidLooks := .later }
def FnExactExpWithUptoCardSaid : Prop := Claim7.holds Tryd.pinned (.plain (OpenSpec.upto fnExactExpWithSpec)) fnExactExpWithUptoCard

/-- THE SECOND FORM's CARD OF 'laws.FnExactExpPatternOk'. -/
def fnExactExpPatternOkUptoCard : Claim7 := { stood := { row := fnExactExpPatternOkUptoRow, standIns := [], harness := (true, "429bb66547cc69c797d60cbc75a68c2288b8921fbbc8d420d694b99114132444"), looks := false }, kinds := [], alts := [], laidByText := true, laidKinds := [.data, .pinned], laidTests := true, laidLooks := .later }
def FnExactExpPatternOkUptoCardSaid : Prop := Claim7.holds Tryd.pinned (.plain (OpenSpec.upto fnExactExpPatternOkSpec)) fnExactExpPatternOkUptoCard

/-- THE SECOND FORM's CARD OF 'laws.FnExactExpFlip'. -/
def fnExactExpFlipUptoCard : Claim7 := { stood := { row := fnExactExpFlipUptoRow, standIns := [], harness := (true, "429bb66547cc69c797d60cbc75a68c2288b8921fbbc8d420d694b99114132444"), looks := false }, kinds := [], alts := [], laidByText := true, laidKinds := [.data, .pinned], laidTests := true, laidLooks := .later }
def FnExactExpFlipUptoCardSaid : Prop := Claim7.holds Tryd.pinned (.plain (OpenSpec.upto fnExactExpFlipSpec)) fnExactExpFlipUptoCard

/-- THE SECOND FORM's CARD OF 'laws.FnExpScopes'. -/
def fnExpScopesUptoCard : Claim7 := { stood := { row := fnExpScopesUptoRow, standIns := [], harness := (true, "429bb66547cc69c797d60cbc75a68c2288b8921fbbc8d420d694b99114132444"), looks := false }, kinds := [], alts := [], laidByText := true, laidKinds := [.data, .pinned], laidTests := true, laidLooks := .later }
def FnExpScopesUptoCardSaid : Prop := Claim7.holds Tryd.pinned (.plain (OpenSpec.upto fnExpScopesSpec)) fnExpScopesUptoCard

/-- THE SECOND FORM's CARD OF 'laws.FnExactExpRules'. -/
def fnExactExpRulesUptoCard : Claim7 := { stood := { row := fnExactExpRulesUptoRow, standIns := [], harness := (true, "429bb66547cc69c797d60cbc75a68c2288b8921fbbc8d420d694b99114132444"), looks := false }, kinds := [], alts := [], laidByText := true, laidKinds := [.data, .pinned], laidTests := true, laidLooks := .later }
def FnExactExpRulesUptoCardSaid : Prop := Claim7.holds Tryd.pinned (.plain (OpenSpec.upto fnExactExpRulesSpec)) fnExactExpRulesUptoCard
end Rows
end Go.Proofs.YtmcbhnbemhfifaaDoor
