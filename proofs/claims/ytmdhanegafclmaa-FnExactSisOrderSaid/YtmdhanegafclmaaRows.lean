/-
  NARROWER THAN 'FOR EVERY INPUT', by the rows' own cells (each row's printed sentence says how): FnExactExpAlpha: loops · FnExactExpCoreShow: loops.
  DERIVED. THE GIVEN ROWS OF THIS SEAT. 7 by the template 'for every input the law returns true; each argument reads behind the call as it read before'; 0 by the template 'total and deterministic' (their statements: YtmdhanegafclmaaTotals.lean).
  GIVEN WITH THE SEED: the statements are not yours to turn. If you find one false, say at which input.
  Laid BY PROGRAM, IN A SANDBOX (cutbox-rows.mjs): the forced cells as the released guide's own fill.sh prints them over the translation 266404f163e52670… (all of the seat's roots in one cut). By AI agents, Wed Nov 11 2026. No macro, syntax, notation, axiom, sorry.
-/
import Derived.Test.YtmdhanegafclmaaChecked
import GoSem.Claim
import GoSem.ClaimJoined
import GoSem.ClaimMapViews
import Derived.JoinedTies
import Derived.KernelRfl
namespace Go.Proofs.Ytmdhanegafclmaa
/- THE CELL 'sum', in the pinned program and in every row, IS THE sha256 OF THE DUMP (.gsa) THAT YtmdhanegafclmaaProg.lean LOADS. Nothing in Lean hashes anything: it is a label: what it is worth is what the hold of that sum in a sandbox is worth. -/
noncomputable def Try.pinned : Pinned := { name := "ytmdhanegafclmaa", sum := "266404f163e52670f7c99ce7ae0d11b77918f20b650c8c57e1f6b83da185e777", checked := Try.checked }
namespace Rows
def none {H : Type} : Left H := { results := [], args := [] }

/-- 'laws.FnExactConstants': WHATEVER THE INPUT: true; the input reads as it did. -/
def fnExactConstantsSpec : ChangeSpec := { name := "fnExactConstants", fn := fun _ => fun
  | [] => { results := [.lit (.bool true)], args := [] }
  | _ => none }
def fnExactConstantsRow : OpenClaim := { program := "ytmdhanegafclmaa", sum := "266404f163e52670f7c99ce7ae0d11b77918f20b650c8c57e1f6b83da185e777", func := "loop.example/siskin/laws.FnExactConstants", spec := "fnExactConstants", apart := false }
def FnExactConstantsSaid : Prop := fnExactConstantsRow.holds Try.pinned (OpenSpec.ofChange fnExactConstantsSpec)

/-- ITS FALSE NEIGHBOUR: 'it returns false'. Refute it at one input. -/
def fnExactConstantsWrong : ChangeSpec := { name := "fnExactConstants", fn := fun _ => fun
  | [] => { results := [.lit (.bool false)], args := [] }
  | _ => none }
def FnExactConstantsWrongFalsely : Prop := fnExactConstantsRow.holds Try.pinned (OpenSpec.ofChange fnExactConstantsWrong)

/-- 'laws.FnExactSisGiven': WHATEVER THE INPUT: true; the input reads as it did. -/
def fnExactSisGivenSpec : ChangeSpec := { name := "fnExactSisGiven", fn := fun _ => fun
  | [] => { results := [.lit (.bool true)], args := [] }
  | _ => none }
def fnExactSisGivenRow : OpenClaim := { program := "ytmdhanegafclmaa", sum := "266404f163e52670f7c99ce7ae0d11b77918f20b650c8c57e1f6b83da185e777", func := "loop.example/siskin/laws.FnExactSisGiven", spec := "fnExactSisGiven", apart := false }
def FnExactSisGivenSaid : Prop := fnExactSisGivenRow.holds Try.pinned (OpenSpec.ofChange fnExactSisGivenSpec)

/-- ITS FALSE NEIGHBOUR: 'it returns false'. Refute it at one input. -/
def fnExactSisGivenWrong : ChangeSpec := { name := "fnExactSisGiven", fn := fun _ => fun
  | [] => { results := [.lit (.bool false)], args := [] }
  | _ => none }
def FnExactSisGivenWrongFalsely : Prop := fnExactSisGivenRow.holds Try.pinned (OpenSpec.ofChange fnExactSisGivenWrong)

/-- 'laws.FnExactExpAlpha': WHATEVER THE INPUT: true; the input reads as it did. -/
def fnExactExpAlphaSpec : ChangeSpec := { name := "fnExactExpAlpha", fn := fun _ => fun
  | [d1, d2] => { results := [.lit (.bool true)], args := [d1, d2] }
  | _ => none }
def fnExactExpAlphaRow : OpenClaim := { program := "ytmdhanegafclmaa", sum := "266404f163e52670f7c99ce7ae0d11b77918f20b650c8c57e1f6b83da185e777", func := "loop.example/siskin/laws.FnExactExpAlpha", spec := "fnExactExpAlpha", recurses := true, loops := true, apart := false }
def FnExactExpAlphaSaid : Prop := fnExactExpAlphaRow.holds Try.pinned (OpenSpec.ofChange fnExactExpAlphaSpec)

/-- ITS FALSE NEIGHBOUR: 'it returns false'. Refute it at one input. -/
def fnExactExpAlphaWrong : ChangeSpec := { name := "fnExactExpAlpha", fn := fun _ => fun
  | [d1, d2] => { results := [.lit (.bool false)], args := [d1, d2] }
  | _ => none }
def FnExactExpAlphaWrongFalsely : Prop := fnExactExpAlphaRow.holds Try.pinned (OpenSpec.ofChange fnExactExpAlphaWrong)

/-- 'laws.FnExpFind': WHATEVER THE INPUT: true; the input reads as it did. -/
def fnExpFindSpec : ChangeSpec := { name := "fnExpFind", fn := fun _ => fun
  | [d] => { results := [.lit (.bool true)], args := [d] }
  | _ => none }
def fnExpFindRow : OpenClaim := { program := "ytmdhanegafclmaa", sum := "266404f163e52670f7c99ce7ae0d11b77918f20b650c8c57e1f6b83da185e777", func := "loop.example/siskin/laws.FnExpFind", spec := "fnExpFind", recurses := true, apart := false }
def FnExpFindSaid : Prop := fnExpFindRow.holds Try.pinned (OpenSpec.ofChange fnExpFindSpec)

/-- ITS FALSE NEIGHBOUR: 'it returns false'. Refute it at one input. -/
def fnExpFindWrong : ChangeSpec := { name := "fnExpFind", fn := fun _ => fun
  | [d] => { results := [.lit (.bool false)], args := [d] }
  | _ => none }
def FnExpFindWrongFalsely : Prop := fnExpFindRow.holds Try.pinned (OpenSpec.ofChange fnExpFindWrong)

/-- 'laws.FnExactExpCoreShow': WHATEVER THE INPUT: true; the input reads as it did. -/
def fnExactExpCoreShowSpec : ChangeSpec := { name := "fnExactExpCoreShow", fn := fun _ => fun
  | [d] => { results := [.lit (.bool true)], args := [d] }
  | _ => none }
def fnExactExpCoreShowRow : OpenClaim := { program := "ytmdhanegafclmaa", sum := "266404f163e52670f7c99ce7ae0d11b77918f20b650c8c57e1f6b83da185e777", func := "loop.example/siskin/laws.FnExactExpCoreShow", spec := "fnExactExpCoreShow", inPlace := ["internal/abi.NoEscape", "internal/bytealg.MakeNoZero"], recurses := true, loops := true, apart := false }
def FnExactExpCoreShowSaid : Prop := fnExactExpCoreShowRow.holds Try.pinned (OpenSpec.ofChange fnExactExpCoreShowSpec)

/-- ITS FALSE NEIGHBOUR: 'it returns false'. Refute it at one input. -/
def fnExactExpCoreShowWrong : ChangeSpec := { name := "fnExactExpCoreShow", fn := fun _ => fun
  | [d] => { results := [.lit (.bool false)], args := [d] }
  | _ => none }
def FnExactExpCoreShowWrongFalsely : Prop := fnExactExpCoreShowRow.holds Try.pinned (OpenSpec.ofChange fnExactExpCoreShowWrong)

/-- 'laws.FnExactSisOrder': WHATEVER THE INPUT: true; the input reads as it did. -/
def fnExactSisOrderSpec : ChangeSpec := { name := "fnExactSisOrder", fn := fun _ => fun
  | [d] => { results := [.lit (.bool true)], args := [d] }
  | _ => none }
def fnExactSisOrderRow : OpenClaim := { program := "ytmdhanegafclmaa", sum := "266404f163e52670f7c99ce7ae0d11b77918f20b650c8c57e1f6b83da185e777", func := "loop.example/siskin/laws.FnExactSisOrder", spec := "fnExactSisOrder", unfollowed := true, recurses := true, apart := false }
def FnExactSisOrderSaid : Prop := fnExactSisOrderRow.holds Try.pinned (OpenSpec.ofChange fnExactSisOrderSpec)

/-- ITS FALSE NEIGHBOUR: 'it returns false'. Refute it at one input. -/
def fnExactSisOrderWrong : ChangeSpec := { name := "fnExactSisOrder", fn := fun _ => fun
  | [d] => { results := [.lit (.bool false)], args := [d] }
  | _ => none }
def FnExactSisOrderWrongFalsely : Prop := fnExactSisOrderRow.holds Try.pinned (OpenSpec.ofChange fnExactSisOrderWrong)

/-- 'laws.FnSisOrder': WHATEVER THE INPUT: true; the input reads as it did. -/
def fnSisOrderSpec : ChangeSpec := { name := "fnSisOrder", fn := fun _ => fun
  | [d1, d2] => { results := [.lit (.bool true)], args := [d1, d2] }
  | _ => none }
def fnSisOrderRow : OpenClaim := { program := "ytmdhanegafclmaa", sum := "266404f163e52670f7c99ce7ae0d11b77918f20b650c8c57e1f6b83da185e777", func := "loop.example/siskin/laws.FnSisOrder", spec := "fnSisOrder", unfollowed := true, recurses := true, apart := false }
def FnSisOrderSaid : Prop := fnSisOrderRow.holds Try.pinned (OpenSpec.ofChange fnSisOrderSpec)

/-- ITS FALSE NEIGHBOUR: 'it returns false'. Refute it at one input. -/
def fnSisOrderWrong : ChangeSpec := { name := "fnSisOrder", fn := fun _ => fun
  | [d1, d2] => { results := [.lit (.bool false)], args := [d1, d2] }
  | _ => none }
def FnSisOrderWrongFalsely : Prop := fnSisOrderRow.holds Try.pinned (OpenSpec.ofChange fnSisOrderWrong)

/- THE SECOND FORM. 'bulk': how many values and letters a reading holds, each counted each time it is reached (what is shared counts as often as it is met; a slice's spare places count too). A statement '..UptoSaid' is the law's where the arguments, and the package variables that the reading takes, are together of bulk at most 1048576: NARROWER than '..Said'. Prove '..Said' where nothing that the law and all that it calls make is longer than what came in: it says more and counts as full. Else prove '..UptoSaid'. A law counts once. -/
mutual
def uptoBulk {H : Type} : DataW H → Nat
  | .lit (.string bytes) => bytes.length + 1
  | .lit _ => 1
  | .nil => 1
  | .ptr d => uptoBulk d + 1
  | .slice elems spare => uptoBulkAll elems + uptoBulkAll spare + 1
  | .agg parts => uptoBulkAll parts + 1
  | .iface _ d => uptoBulk d + 1
  | .map entries => uptoBulkEntries entries + 1
  | .held _ => 1
def uptoBulkAll {H : Type} : List (DataW H) → Nat
  | [] => 0
  | d :: r => uptoBulk d + uptoBulkAll r
def uptoBulkEntries {H : Type} : List (Lit × DataW H) → Nat
  | [] => 0
  | x :: r => uptoBulkEntry x + uptoBulkEntries r
def uptoBulkEntry {H : Type} : Lit × DataW H → Nat
  | (.string bytes, d) => bytes.length + uptoBulk d + 1
  | (_, d) => uptoBulk d + 1
 end
def uptoSmall : (H : Type) → List (DataW H) → Bool := fun _ ds => decide (uptoBulkAll ds ≤ 1048576)
def OpenSpec.upto (s : _root_.Go.ChangeSpec) : _root_.Go.OpenSpec := { _root_.Go.OpenSpec.ofChange s with cond := some uptoSmall }

/-- 'laws.FnExactConstants', WHERE WHAT IT READS IS OF BULK AT MOST 1048576: true; the input reads as it did. -/
def fnExactConstantsUptoRow : OpenClaim := { program := "ytmdhanegafclmaa", sum := "266404f163e52670f7c99ce7ae0d11b77918f20b650c8c57e1f6b83da185e777", func := "loop.example/siskin/laws.FnExactConstants", spec := "fnExactConstants", apart := false, narrowed := true }
def FnExactConstantsUptoSaid : Prop := fnExactConstantsUptoRow.holds Try.pinned (OpenSpec.upto fnExactConstantsSpec)

/-- 'laws.FnExactSisGiven', WHERE WHAT IT READS IS OF BULK AT MOST 1048576: true; the input reads as it did. -/
def fnExactSisGivenUptoRow : OpenClaim := { program := "ytmdhanegafclmaa", sum := "266404f163e52670f7c99ce7ae0d11b77918f20b650c8c57e1f6b83da185e777", func := "loop.example/siskin/laws.FnExactSisGiven", spec := "fnExactSisGiven", apart := false, narrowed := true }
def FnExactSisGivenUptoSaid : Prop := fnExactSisGivenUptoRow.holds Try.pinned (OpenSpec.upto fnExactSisGivenSpec)

/-- 'laws.FnExactExpAlpha', WHERE WHAT IT READS IS OF BULK AT MOST 1048576: true; the input reads as it did. -/
def fnExactExpAlphaUptoRow : OpenClaim := { program := "ytmdhanegafclmaa", sum := "266404f163e52670f7c99ce7ae0d11b77918f20b650c8c57e1f6b83da185e777", func := "loop.example/siskin/laws.FnExactExpAlpha", spec := "fnExactExpAlpha", recurses := true, loops := true, apart := false, narrowed := true }
def FnExactExpAlphaUptoSaid : Prop := fnExactExpAlphaUptoRow.holds Try.pinned (OpenSpec.upto fnExactExpAlphaSpec)

/-- 'laws.FnExpFind', WHERE WHAT IT READS IS OF BULK AT MOST 1048576: true; the input reads as it did. -/
def fnExpFindUptoRow : OpenClaim := { program := "ytmdhanegafclmaa", sum := "266404f163e52670f7c99ce7ae0d11b77918f20b650c8c57e1f6b83da185e777", func := "loop.example/siskin/laws.FnExpFind", spec := "fnExpFind", recurses := true, apart := false, narrowed := true }
def FnExpFindUptoSaid : Prop := fnExpFindUptoRow.holds Try.pinned (OpenSpec.upto fnExpFindSpec)

/-- 'laws.FnExactExpCoreShow', WHERE WHAT IT READS IS OF BULK AT MOST 1048576: true; the input reads as it did. -/
def fnExactExpCoreShowUptoRow : OpenClaim := { program := "ytmdhanegafclmaa", sum := "266404f163e52670f7c99ce7ae0d11b77918f20b650c8c57e1f6b83da185e777", func := "loop.example/siskin/laws.FnExactExpCoreShow", spec := "fnExactExpCoreShow", inPlace := ["internal/abi.NoEscape", "internal/bytealg.MakeNoZero"], recurses := true, loops := true, apart := false, narrowed := true }
def FnExactExpCoreShowUptoSaid : Prop := fnExactExpCoreShowUptoRow.holds Try.pinned (OpenSpec.upto fnExactExpCoreShowSpec)

/-- 'laws.FnExactSisOrder', WHERE WHAT IT READS IS OF BULK AT MOST 1048576: true; the input reads as it did. -/
def fnExactSisOrderUptoRow : OpenClaim := { program := "ytmdhanegafclmaa", sum := "266404f163e52670f7c99ce7ae0d11b77918f20b650c8c57e1f6b83da185e777", func := "loop.example/siskin/laws.FnExactSisOrder", spec := "fnExactSisOrder", unfollowed := true, recurses := true, apart := false, narrowed := true }
def FnExactSisOrderUptoSaid : Prop := fnExactSisOrderUptoRow.holds Try.pinned (OpenSpec.upto fnExactSisOrderSpec)

/-- 'laws.FnSisOrder', WHERE WHAT IT READS IS OF BULK AT MOST 1048576: true; the input reads as it did. -/
def fnSisOrderUptoRow : OpenClaim := { program := "ytmdhanegafclmaa", sum := "266404f163e52670f7c99ce7ae0d11b77918f20b650c8c57e1f6b83da185e777", func := "loop.example/siskin/laws.FnSisOrder", spec := "fnSisOrder", unfollowed := true, recurses := true, apart := false, narrowed := true }
def FnSisOrderUptoSaid : Prop := fnSisOrderUptoRow.holds Try.pinned (OpenSpec.upto fnSisOrderSpec)

end Rows
end Go.Proofs.Ytmdhanegafclmaa
