/-
  NARROWER THAN 'FOR EVERY INPUT', by the rows' own cells (each row's printed sentence says how): FnExactExpWith: loops, laid · FnExactExpPatternOk: loops, laid · FnExactExpFlip: loops, laid · FnExpScopes: laid · FnExactExpRules: loops, laid.
  DERIVED. THE GIVEN ROWS OF THIS SEAT. 5 by the template 'for every input the law returns true; each argument reads behind the call as it read before'; 0 by the template 'total and deterministic' (their statements: YtmcbhnbemhfifaaDoorTotals.lean).
  GIVEN WITH THE SEED: the statements are not yours to turn. If you find one false, say at which input.
  Laid BY PROGRAM, IN A SANDBOX (cutbox-rows.mjs): the forced cells as the released guide's own fill.sh prints them over the translation 550c85ad00ee0eff… (all of the seat's roots in one cut). By AI agents, Wed Nov 11 2026. No macro, syntax, notation, axiom, sorry.
-/
import Derived.Test.YtmcbhnbemhfifaaDoorChecked
import GoSem.PinnedTables
import GoSem.Claim
import GoSem.ClaimJoined
import GoSem.ClaimMapViews
import Derived.JoinedTies
import Derived.KernelRfl
namespace Go.Proofs.YtmcbhnbemhfifaaDoor
/- THE CELL 'sum', in the pinned program and in every row, IS THE sha256 OF THE DUMP (.gsa) THAT YtmcbhnbemhfifaaDoorProg.lean LOADS. Nothing in Lean hashes anything: it is a label: what it is worth is what the hold of that sum in a sandbox is worth. -/
noncomputable def Tryd.pinned : Pinned := { name := "ytmcbhnbemhfifaadoor", sum := "550c85ad00ee0effc71f251fd931900ce26b93330aa849be74f6dc172d1a9722", checked := Tryd.checked }
namespace Rows
def none {H : Type} : Left H := { results := [], args := [] }

/- WHAT THE LISTED PACKAGE-LEVEL VARIABLES READ AS WHEN THE CALL BEGINS. Each datum BY PROGRAM (the guide's laid-datum.mjs) off the statement by which the dump's own 'gosem.cut.vars' lays the variable. In a bare row this is a premise. The card (YtmcbhnbemhfifaaDoorCards.lean) ties it to the program's text. -/
def laid_unicode_utf8_acceptRanges {H : Type} : DataW H := .agg [.agg [.lit (.int .u8 128), .lit (.int .u8 191)], .agg [.lit (.int .u8 160), .lit (.int .u8 191)], .agg [.lit (.int .u8 128), .lit (.int .u8 159)], .agg [.lit (.int .u8 144), .lit (.int .u8 191)], .agg [.lit (.int .u8 128), .lit (.int .u8 143)], .agg [.lit (.int .u8 0), .lit (.int .u8 0)], .agg [.lit (.int .u8 0), .lit (.int .u8 0)], .agg [.lit (.int .u8 0), .lit (.int .u8 0)], .agg [.lit (.int .u8 0), .lit (.int .u8 0)], .agg [.lit (.int .u8 0), .lit (.int .u8 0)], .agg [.lit (.int .u8 0), .lit (.int .u8 0)], .agg [.lit (.int .u8 0), .lit (.int .u8 0)], .agg [.lit (.int .u8 0), .lit (.int .u8 0)], .agg [.lit (.int .u8 0), .lit (.int .u8 0)], .agg [.lit (.int .u8 0), .lit (.int .u8 0)], .agg [.lit (.int .u8 0), .lit (.int .u8 0)]]
/-- One of Go's own tables, pinned by name: the form's constant. -/
def laid_unicode_utf8_first : DataW Unit := Go.Pinned.utf8First

/-- 'laws.FnExactExpWith': WHATEVER THE INPUT: true; the input reads as it did. -/
def fnExactExpWithSpec : ChangeSpec := { name := "fnExactExpWith", fn := fun _ => fun
  | [d1, d2] => { results := [.lit (.bool true)], args := [d1, d2] }
  | _ => none }
def fnExactExpWithRow : OpenClaim := { program := "ytmcbhnbemhfifaadoor", sum := "550c85ad00ee0effc71f251fd931900ce26b93330aa849be74f6dc172d1a9722", func := "loop.example/siskin/laws.FnExactExpWith", spec := "fnExactExpWith", inPlace := ["internal/bytealg.IndexByteString", "internal/bytealg.IndexString"], unfollowed := true, recurses := true, named := ["unicode/utf8.first", "unicode/utf8.acceptRanges", "internal/bytealg.MaxLen"], loops := true, apart := false, laid := [("unicode/utf8.acceptRanges", laid_unicode_utf8_acceptRanges), ("unicode/utf8.first", laid_unicode_utf8_first)] }
def FnExactExpWithSaid : Prop := fnExactExpWithRow.holds Tryd.pinned (OpenSpec.ofChange fnExactExpWithSpec)

/-- ITS FALSE NEIGHBOUR: 'it returns false'. Refute it at one input. -/
def fnExactExpWithWrong : ChangeSpec := { name := "fnExactExpWith", fn := fun _ => fun
  | [d1, d2] => { results := [.lit (.bool false)], args := [d1, d2] }
  | _ => none }
def FnExactExpWithWrongFalsely : Prop := fnExactExpWithRow.holds Tryd.pinned (OpenSpec.ofChange fnExactExpWithWrong)

/-- 'laws.FnExactExpPatternOk': WHATEVER THE INPUT: true; the input reads as it did. -/
def fnExactExpPatternOkSpec : ChangeSpec := { name := "fnExactExpPatternOk", fn := fun _ => fun
  | [d1, d2] => { results := [.lit (.bool true)], args := [d1, d2] }
  | _ => none }
def fnExactExpPatternOkRow : OpenClaim := { program := "ytmcbhnbemhfifaadoor", sum := "550c85ad00ee0effc71f251fd931900ce26b93330aa849be74f6dc172d1a9722", func := "loop.example/siskin/laws.FnExactExpPatternOk", spec := "fnExactExpPatternOk", inPlace := ["internal/bytealg.IndexByteString", "internal/bytealg.IndexString"], recurses := true, named := ["unicode/utf8.first", "unicode/utf8.acceptRanges", "internal/bytealg.MaxLen"], loops := true, apart := false, laid := [("unicode/utf8.acceptRanges", laid_unicode_utf8_acceptRanges), ("unicode/utf8.first", laid_unicode_utf8_first)] }
def FnExactExpPatternOkSaid : Prop := fnExactExpPatternOkRow.holds Tryd.pinned (OpenSpec.ofChange fnExactExpPatternOkSpec)

/-- ITS FALSE NEIGHBOUR: 'it returns false'. Refute it at one input. -/
def fnExactExpPatternOkWrong : ChangeSpec := { name := "fnExactExpPatternOk", fn := fun _ => fun
  | [d1, d2] => { results := [.lit (.bool false)], args := [d1, d2] }
  | _ => none }
def FnExactExpPatternOkWrongFalsely : Prop := fnExactExpPatternOkRow.holds Tryd.pinned (OpenSpec.ofChange fnExactExpPatternOkWrong)

/-- 'laws.FnExactExpFlip': WHATEVER THE INPUT: true; the input reads as it did. -/
def fnExactExpFlipSpec : ChangeSpec := { name := "fnExactExpFlip", fn := fun _ => fun
  | [d1, d2] => { results := [.lit (.bool true)], args := [d1, d2] }
  | _ => none }
def fnExactExpFlipRow : OpenClaim := { program := "ytmcbhnbemhfifaadoor", sum := "550c85ad00ee0effc71f251fd931900ce26b93330aa849be74f6dc172d1a9722", func := "loop.example/siskin/laws.FnExactExpFlip", spec := "fnExactExpFlip", inPlace := ["internal/bytealg.IndexByteString", "internal/bytealg.IndexString"], unfollowed := true, recurses := true, named := ["unicode/utf8.first", "unicode/utf8.acceptRanges", "internal/bytealg.MaxLen"], loops := true, apart := false, laid := [("unicode/utf8.acceptRanges", laid_unicode_utf8_acceptRanges), ("unicode/utf8.first", laid_unicode_utf8_first)] }
def FnExactExpFlipSaid : Prop := fnExactExpFlipRow.holds Tryd.pinned (OpenSpec.ofChange fnExactExpFlipSpec)

/-- ITS FALSE NEIGHBOUR: 'it returns false'. Refute it at one input. -/
def fnExactExpFlipWrong : ChangeSpec := { name := "fnExactExpFlip", fn := fun _ => fun
  | [d1, d2] => { results := [.lit (.bool false)], args := [d1, d2] }
  | _ => none }
def FnExactExpFlipWrongFalsely : Prop := fnExactExpFlipRow.holds Tryd.pinned (OpenSpec.ofChange fnExactExpFlipWrong)

/-- 'laws.FnExpScopes': WHATEVER THE INPUT: true; the input reads as it did. -/
def fnExpScopesSpec : ChangeSpec := { name := "fnExpScopes", fn := fun _ => fun
  | [d] => { results := [.lit (.bool true)], args := [d] }
  | _ => none }
def fnExpScopesRow : OpenClaim := { program := "ytmcbhnbemhfifaadoor", sum := "550c85ad00ee0effc71f251fd931900ce26b93330aa849be74f6dc172d1a9722", func := "loop.example/siskin/laws.FnExpScopes", spec := "fnExpScopes", inPlace := ["internal/bytealg.IndexByteString", "internal/bytealg.IndexString", "internal/abi.NoEscape", "internal/bytealg.MakeNoZero"], unfollowed := true, recurses := true, named := ["unicode/utf8.first", "unicode/utf8.acceptRanges", "internal/bytealg.MaxLen"], apart := false, laid := [("unicode/utf8.acceptRanges", laid_unicode_utf8_acceptRanges), ("unicode/utf8.first", laid_unicode_utf8_first)] }
def FnExpScopesSaid : Prop := fnExpScopesRow.holds Tryd.pinned (OpenSpec.ofChange fnExpScopesSpec)

/-- ITS FALSE NEIGHBOUR: 'it returns false'. Refute it at one input. -/
def fnExpScopesWrong : ChangeSpec := { name := "fnExpScopes", fn := fun _ => fun
  | [d] => { results := [.lit (.bool false)], args := [d] }
  | _ => none }
def FnExpScopesWrongFalsely : Prop := fnExpScopesRow.holds Tryd.pinned (OpenSpec.ofChange fnExpScopesWrong)

/-- 'laws.FnExactExpRules': WHATEVER THE INPUT: true; the input reads as it did. -/
def fnExactExpRulesSpec : ChangeSpec := { name := "fnExactExpRules", fn := fun _ => fun
  | [d] => { results := [.lit (.bool true)], args := [d] }
  | _ => none }
def fnExactExpRulesRow : OpenClaim := { program := "ytmcbhnbemhfifaadoor", sum := "550c85ad00ee0effc71f251fd931900ce26b93330aa849be74f6dc172d1a9722", func := "loop.example/siskin/laws.FnExactExpRules", spec := "fnExactExpRules", inPlace := ["internal/bytealg.IndexByteString", "internal/bytealg.IndexString"], recurses := true, named := ["unicode/utf8.first", "unicode/utf8.acceptRanges", "internal/bytealg.MaxLen"], loops := true, apart := false, laid := [("unicode/utf8.acceptRanges", laid_unicode_utf8_acceptRanges), ("unicode/utf8.first", laid_unicode_utf8_first)] }
def FnExactExpRulesSaid : Prop := fnExactExpRulesRow.holds Tryd.pinned (OpenSpec.ofChange fnExactExpRulesSpec)

/-- ITS FALSE NEIGHBOUR: 'it returns false'. Refute it at one input. -/
def fnExactExpRulesWrong : ChangeSpec := { name := "fnExactExpRules", fn := fun _ => fun
  | [d] => { results := [.lit (.bool false)], args := [d] }
  | _ => none }
def FnExactExpRulesWrongFalsely : Prop := fnExactExpRulesRow.holds Tryd.pinned (OpenSpec.ofChange fnExactExpRulesWrong)

/- THE SECOND FORM. 'bulk': how many values and letters a reading holds, each counted each time it is reached (what is shared counts as often as it is met; a slice's spare places count too). A statement '..UptoSaid' is the law's where the arguments, and the package variables that the reading takes, are together of bulk at most 1048576: NARROWER than '..Said'. Prove '..Said' where nothing that the law and all that it calls make is longer than what came in: it says more and counts as full. Else prove '..UptoSaid'. A law counts once. -/
mutual
def uptoBulk {H : Type} : DataW H → Nat
  | .lit (.string bytes) => bytes.length + 1
  | .lit _ => 1
  | .nil => 1
  | .ptr d => uptoBulk d + 1
  | .slice elems spare => uptoBulkAll elems + uptoBulkAll spare + 1
  | .agg parts => uptoBulkAll parts + 1
  | .iface _ d => uptoBulk d + 1
  | .map entries => uptoBulkEntries entries + 1
  | .held _ => 1
def uptoBulkAll {H : Type} : List (DataW H) → Nat
  | [] => 0
  | d :: r => uptoBulk d + uptoBulkAll r
def uptoBulkEntries {H : Type} : List (Lit × DataW H) → Nat
  | [] => 0
  | x :: r => uptoBulkEntry x + uptoBulkEntries r
def uptoBulkEntry {H : Type} : Lit × DataW H → Nat
  | (.string bytes, d) => bytes.length + uptoBulk d + 1
  | (_, d) => uptoBulk d + 1
 end
def uptoSmall : (H : Type) → List (DataW H) → Bool := fun _ ds => decide (uptoBulkAll ds ≤ 1048576)
def OpenSpec.upto (s : _root_.Go.ChangeSpec) : _root_.Go.OpenSpec := { _root_.Go.OpenSpec.ofChange s with cond := some uptoSmall }

/-- 'laws.FnExactExpWith', WHERE WHAT IT READS IS OF BULK AT MOST 1048576: true; the input reads as it did. -/
def fnExactExpWithUptoRow : OpenClaim := { program := "ytmcbhnbemhfifaadoor", sum := "550c85ad00ee0effc71f251fd931900ce26b93330aa849be74f6dc172d1a9722", func := "loop.example/siskin/laws.FnExactExpWith", spec := "fnExactExpWith", inPlace := ["internal/bytealg.IndexByteString", "internal/bytealg.IndexString"], unfollowed := true, recurses := true, named := ["unicode/utf8.first", "unicode/utf8.acceptRanges", "internal/bytealg.MaxLen"], loops := true, apart := false, laid := [("unicode/utf8.acceptRanges", laid_unicode_utf8_acceptRanges), ("unicode/utf8.first", laid_unicode_utf8_first)], narrowed := true }
def FnExactExpWithUptoSaid : Prop := fnExactExpWithUptoRow.holds Tryd.pinned (OpenSpec.upto fnExactExpWithSpec)

/-- 'laws.FnExactExpPatternOk', WHERE WHAT IT READS IS OF BULK AT MOST 1048576: true; the input reads as it did. -/
def fnExactExpPatternOkUptoRow : OpenClaim := { program := "ytmcbhnbemhfifaadoor", sum := "550c85ad00ee0effc71f251fd931900ce26b93330aa849be74f6dc172d1a9722", func := "loop.example/siskin/laws.FnExactExpPatternOk", spec := "fnExactExpPatternOk", inPlace := ["internal/bytealg.IndexByteString", "internal/bytealg.IndexString"], recurses := true, named := ["unicode/utf8.first", "unicode/utf8.acceptRanges", "internal/bytealg.MaxLen"], loops := true, apart := false, laid := [("unicode/utf8.acceptRanges", laid_unicode_utf8_acceptRanges), ("unicode/utf8.first", laid_unicode_utf8_first)], narrowed := true }
def FnExactExpPatternOkUptoSaid : Prop := fnExactExpPatternOkUptoRow.holds Tryd.pinned (OpenSpec.upto fnExactExpPatternOkSpec)

/-- 'laws.FnExactExpFlip', WHERE WHAT IT READS IS OF BULK AT MOST 1048576: true; the input reads as it did. -/
def fnExactExpFlipUptoRow : OpenClaim := { program := "ytmcbhnbemhfifaadoor", sum := "550c85ad00ee0effc71f251fd931900ce26b93330aa849be74f6dc172d1a9722", func := "loop.example/siskin/laws.FnExactExpFlip", spec := "fnExactExpFlip", inPlace := ["internal/bytealg.IndexByteString", "internal/bytealg.IndexString"], unfollowed := true, recurses := true, named := ["unicode/utf8.first", "unicode/utf8.acceptRanges", "internal/bytealg.MaxLen"], loops := true, apart := false, laid := [("unicode/utf8.acceptRanges", laid_unicode_utf8_acceptRanges), ("unicode/utf8.first", laid_unicode_utf8_first)], narrowed := true }
def FnExactExpFlipUptoSaid : Prop := fnExactExpFlipUptoRow.holds Tryd.pinned (OpenSpec.upto fnExactExpFlipSpec)

/-- 'laws.FnExpScopes', WHERE WHAT IT READS IS OF BULK AT MOST 1048576: true; the input reads as it did. -/
def fnExpScopesUptoRow : OpenClaim := { program := "ytmcbhnbemhfifaadoor", sum := "550c85ad00ee0effc71f251fd931900ce26b93330aa849be74f6dc172d1a9722", func := "loop.example/siskin/laws.FnExpScopes", spec := "fnExpScopes", inPlace := ["internal/bytealg.IndexByteString", "internal/bytealg.IndexString", "internal/abi.NoEscape", "internal/bytealg.MakeNoZero"], unfollowed := true, recurses := true, named := ["unicode/utf8.first", "unicode/utf8.acceptRanges", "internal/bytealg.MaxLen"], apart := false, laid := [("unicode/utf8.acceptRanges", laid_unicode_utf8_acceptRanges), ("unicode/utf8.first", laid_unicode_utf8_first)], narrowed := true }
def FnExpScopesUptoSaid : Prop := fnExpScopesUptoRow.holds Tryd.pinned (OpenSpec.upto fnExpScopesSpec)

/-- 'laws.FnExactExpRules', WHERE WHAT IT READS IS OF BULK AT MOST 1048576: true; the input reads as it did. -/
def fnExactExpRulesUptoRow : OpenClaim := { program := "ytmcbhnbemhfifaadoor", sum := "550c85ad00ee0effc71f251fd931900ce26b93330aa849be74f6dc172d1a9722", func := "loop.example/siskin/laws.FnExactExpRules", spec := "fnExactExpRules", inPlace := ["internal/bytealg.IndexByteString", "internal/bytealg.IndexString"], recurses := true, named := ["unicode/utf8.first", "unicode/utf8.acceptRanges", "internal/bytealg.MaxLen"], loops := true, apart := false, laid := [("unicode/utf8.acceptRanges", laid_unicode_utf8_acceptRanges), ("unicode/utf8.first", laid_unicode_utf8_first)], narrowed := true }
def FnExactExpRulesUptoSaid : Prop := fnExactExpRulesUptoRow.holds Tryd.pinned (OpenSpec.upto fnExactExpRulesSpec)

end Rows
end Go.Proofs.YtmcbhnbemhfifaaDoor
