/- FnExactExpRules: the law holds whatever the input.. -/
import Derived.Test.YtmcbhnbemhfifaaDoorRzPartC
set_option linter.unusedVariables false
set_option linter.unusedSimpArgs false
section
namespace Go.Proofs.YtmcbhnbemhfifaaDoor.RX
open Go Go.RowKit
set_option autoImplicit false
open IntKind
def laws_szIntS.f (k : Nat) (x0 : (List Int)) (x1 : Int) : Option (Int) := (if ((i64.wrap (x1 - (x0.length : Int))) < (0 : Int)) then (some (-1 : Int)) else (some (i64.wrap (x1 - (x0.length : Int)))))
mutual
def laws_szExpForm.f : Nat → Tlaws_ExpForm → Int → Option (Int)
 | 0, _, _ => none
 | k + 1, x0, x1 => (if ((i64.wrap (x1 - (x0.vText.size : Int))) < (0 : Int)) then (some (-1 : Int)) else ((laws_szIntS.f k x0.vScopes (i64.wrap (x1 - (x0.vText.size : Int)))).bind fun r1 => (if (r1 < (0 : Int)) then (some (-1 : Int)) else ((laws_szExpFormS.f k x0.vKids r1).bind fun r2 => (if (r2 < (0 : Int)) then (some (-1 : Int)) else (some r2))))))
def laws_szExpFormS.f : Nat → (List Tlaws_ExpForm) → Int → Option (Int)
 | 0, _, _ => none
 | k + 1, x0, x1 => (if ((i64.wrap (x1 - (x0.length : Int))) < (0 : Int)) then (some (-1 : Int)) else (laws_szExpFormS.l5 k x0 (i64.wrap (x1 - (x0.length : Int))) (0 : Int)))
def laws_szExpFormS.l5 : Nat → (List Tlaws_ExpForm) → Int → Int → Option (Int)
 | 0, _, _, _ => none
 | k + 1, x0, x1, x5 => (if (x5 < (x0.length : Int)) then (if (0 : Int) ≤ x5 then (if x5 < (x0.length : Int) then ((laws_szExpForm.f k (eTlaws_ExpForm (rdAt zTlaws_ExpForm x0 x5)) x1).bind fun r1 => (if (r1 < (0 : Int)) then (some (-1 : Int)) else (laws_szExpFormS.l5 k x0 r1 (i64.wrap (x5 + (1 : Int)))))) else none) else none) else (some x1))
end
def laws_toIntS.l3 : Nat → (List Int) → Int → (List Int) → Option ((List Int))
 | 0, _, _, _ => none
 | k + 1, x0, x4, a0 => (if (x4 < (x0.length : Int)) then (if (0 : Int) ≤ x4 then (if x4 < (x0.length : Int) then (if (0 : Int) ≤ x4 then (if x4 < (a0.length : Int) then (laws_toIntS.l3 k x0 (i64.wrap (x4 + (1 : Int))) (a0.set (x4.toNat) (rdAt (0 : Int) x0 x4))) else none) else none) else none) else none) else (some a0))
def laws_toIntS.f (k : Nat) (x0 : (List Int)) : Option ((List Int)) := (if (x0.length : Int) = (x0.length : Int) then (if (0 : Int) ≤ (x0.length : Int) then (if (x0.length : Int) ≤ (17592186044416 : Int) then (laws_toIntS.l3 k x0 (0 : Int) (List.replicate (x0.length : Int).toNat (0 : Int))) else none) else none) else none)
mutual
def laws_toExpForm.f : Nat → Tlaws_ExpForm → Option (Int × ByteArray × Int × (List Int) × (List TExpForm))
 | 0, _ => none
 | k + 1, x0 => ((laws_toIntS.f k x0.vScopes).bind fun r1 => ((laws_toExpFormS.f k x0.vKids).bind fun r2 => (some (x0.vSort, x0.vText, x0.vFrom, r1, r2))))
def laws_toExpFormS.f : Nat → (List Tlaws_ExpForm) → Option ((List TExpForm))
 | 0, _ => none
 | k + 1, x0 => (if (x0.length : Int) = (x0.length : Int) then (if (0 : Int) ≤ (x0.length : Int) then (if (x0.length : Int) ≤ (1759218604441 : Int) then (laws_toExpFormS.l3 k x0 (0 : Int) (List.replicate (x0.length : Int).toNat (TExpForm.mk (0 : Int) ByteArray.empty [] (0 : Int) []))) else none) else none) else none)
def laws_toExpFormS.l3 : Nat → (List Tlaws_ExpForm) → Int → (List TExpForm) → Option ((List TExpForm))
 | 0, _, _, _ => none
 | k + 1, x0, x4, a0 => (if (x4 < (x0.length : Int)) then (if (0 : Int) ≤ x4 then (if x4 < (x0.length : Int) then ((laws_toExpForm.f k (eTlaws_ExpForm (rdAt zTlaws_ExpForm x0 x4))).bind fun r1 => (if (0 : Int) ≤ x4 then (if x4 < (a0.length : Int) then (laws_toExpFormS.l3 k x0 (i64.wrap (x4 + (1 : Int))) (a0.set (x4.toNat) (TExpForm.mk r1.1 r1.2.1 r1.2.2.2.1 r1.2.2.1 r1.2.2.2.2))) else none) else none)) else none) else none) else (some a0))
end
def spec_l1Digits.l2 : Nat → ByteArray → Int → Option (Bool)
 | 0, _, _ => none
 | k + 1, x0, x3 => (if (x3 < (x0.size : Int)) then (if (0 : Int) ≤ x3 then (if x3 < (x0.size : Int) then (if ((bt x0 x3) < (48 : Int)) then (some false) else (if (0 : Int) ≤ x3 then (if x3 < (x0.size : Int) then (if ((57 : Int) < (bt x0 x3)) then (some false) else (spec_l1Digits.l2 k x0 (i64.wrap (x3 + (1 : Int))))) else none) else none)) else none) else none) else (some (decide ((0 : Int) < (x0.size : Int)))))
def spec_l1Digits.f (k : Nat) (x0 : ByteArray) : Option (Bool) := (spec_l1Digits.l2 k x0 (0 : Int))
def spec_l1AtomOk.l6 : Nat → ByteArray → Int → Option (Bool)
 | 0, _, _ => none
 | k + 1, x0, x3 => (if (x3 < (i64.wrap ((x0.size : Int) - (1 : Int)))) then (if (0 : Int) ≤ x3 then (if x3 < (x0.size : Int) then (if ((bt x0 x3) = (34 : Int)) then (some false) else (if (0 : Int) ≤ x3 then (if x3 < (x0.size : Int) then (if ((bt x0 x3) < (32 : Int)) then (some false) else (if (0 : Int) ≤ x3 then (if x3 < (x0.size : Int) then (if ((126 : Int) < (bt x0 x3)) then (some false) else (spec_l1AtomOk.l6 k x0 (i64.wrap (x3 + (1 : Int))))) else none) else none)) else none) else none)) else none) else none) else (some true))
def spec_l1AtomOk.j5 (k : Nat) (x0 : ByteArray) : Option (Bool) := (spec_l1AtomOk.l6 k x0 (1 : Int))
def spec_l1AtomOk.j3 (k : Nat) (x0 : ByteArray) : Option (Bool) := (if ((x0.size : Int) < (2 : Int)) then (some false) else (if (0 : Int) < (x0.size : Int) then (if (¬ (bt x0 (0 : Int)) = (34 : Int)) then (some false) else (if (0 : Int) ≤ (i64.wrap ((x0.size : Int) - (1 : Int))) then (if (i64.wrap ((x0.size : Int) - (1 : Int))) < (x0.size : Int) then (if (¬ (bt x0 (i64.wrap ((x0.size : Int) - (1 : Int)))) = (34 : Int)) then (some false) else (spec_l1AtomOk.j5 k x0)) else none) else none)) else none))
def spec_l1AtomOk.f (k : Nat) (x0 : ByteArray) : Option (Bool) := (if (x0.toList = (ByteArray.mk #[35, 116]).toList) then (some true) else (if (x0.toList = (ByteArray.mk #[35, 102]).toList) then (some true) else ((spec_l1Digits.f k x0).bind fun r1 => (if r1 = true then (some true) else (if ((1 : Int) < (x0.size : Int)) then (if (0 : Int) < (x0.size : Int) then (if ((bt x0 (0 : Int)) = (45 : Int)) then (if (1 : Int) ≤ (x0.size : Int) then (if (x0.size : Int) ≤ (x0.size : Int) then ((spec_l1Digits.f k (x0.extract 1 (x0.size : Int).toNat)).bind fun r2 => (if r2 = true then (some true) else (spec_l1AtomOk.j3 k x0))) else none) else none) else (spec_l1AtomOk.j3 k x0)) else none) else (spec_l1AtomOk.j3 k x0))))))
def spec_l1Blank.f (k : Nat) (x0 : Int) : Option (Bool) := (if (x0 = (32 : Int)) then (some true) else (some (decide (x0 = (10 : Int)))))
def spec_l1Ends.f (k : Nat) (x0 : Int) : Option (Bool) := ((spec_l1Blank.f k x0).bind fun r1 => (if r1 = true then (some true) else (if (x0 = (40 : Int)) then (some true) else (if (x0 = (41 : Int)) then (some true) else (if (x0 = (34 : Int)) then (some true) else (some (decide (x0 = (39 : Int)))))))))
def spec_l1IdOk.l4 : Nat → ByteArray → Int → Option (Bool)
 | 0, _, _ => none
 | k + 1, x0, x3 => (if (x3 < (x0.size : Int)) then (if (0 : Int) ≤ x3 then (if x3 < (x0.size : Int) then ((spec_l1Ends.f k (bt x0 x3)).bind fun r1 => (if r1 = true then (some false) else (if (0 : Int) ≤ x3 then (if x3 < (x0.size : Int) then (if ((bt x0 x3) < (33 : Int)) then (some false) else (if (0 : Int) ≤ x3 then (if x3 < (x0.size : Int) then (if ((126 : Int) < (bt x0 x3)) then (some false) else (if (0 : Int) ≤ x3 then (if x3 < (x0.size : Int) then (if ((bt x0 x3) = (126 : Int)) then (some false) else (spec_l1IdOk.l4 k x0 (i64.wrap (x3 + (1 : Int))))) else none) else none)) else none) else none)) else none) else none))) else none) else none) else (some true))
def spec_l1IdOk.j3 (k : Nat) (x0 : ByteArray) : Option (Bool) := (spec_l1IdOk.l4 k x0 (0 : Int))
def spec_l1IdOk.f (k : Nat) (x0 : ByteArray) : Option (Bool) := (if (x0.toList = (ByteArray.mk #[]).toList) then (some false) else (if (x0.toList = (ByteArray.mk #[46]).toList) then (some false) else ((spec_l1AtomOk.f k x0).bind fun r1 => (if r1 = true then (some false) else (if (0 : Int) < (x0.size : Int) then (if ((bt x0 (0 : Int)) = (35 : Int)) then (some false) else (spec_l1IdOk.j3 k x0)) else none)))))
def spec_l1ScopesOk.l2 : Nat → (List Int) → Int → Option (Bool)
 | 0, _, _ => none
 | k + 1, x0, x3 => (if (x3 < (x0.length : Int)) then (if (0 : Int) ≤ x3 then (if x3 < (x0.length : Int) then (if ((rdAt (0 : Int) x0 x3) < (0 : Int)) then (some false) else (if ((0 : Int) < x3) then (if (0 : Int) ≤ (i64.wrap (x3 - (1 : Int))) then (if (i64.wrap (x3 - (1 : Int))) < (x0.length : Int) then (if (0 : Int) ≤ x3 then (if x3 < (x0.length : Int) then (if ((rdAt (0 : Int) x0 x3) ≤ (rdAt (0 : Int) x0 (i64.wrap (x3 - (1 : Int))))) then (some false) else (spec_l1ScopesOk.l2 k x0 (i64.wrap (x3 + (1 : Int))))) else none) else none) else none) else none) else (spec_l1ScopesOk.l2 k x0 (i64.wrap (x3 + (1 : Int)))))) else none) else none) else (some true))
def spec_l1ScopesOk.f (k : Nat) (x0 : (List Int)) : Option (Bool) := (spec_l1ScopesOk.l2 k x0 (0 : Int))
def spec_l1Ok.j13b (k : Nat) (L_spec_l1Ok_f : TExpForm → Int → Option (Bool)) (L_spec_l1Ok_l14 : Int → Int → Int → (List TExpForm) → Option (Bool)) (x1 : Int) (c0_0 : Int) (c0_4 : (List TExpForm)) : Option (Bool) := (L_spec_l1Ok_l14 x1 (0 : Int) c0_0 c0_4)
def spec_l1Ok.j11b (k : Nat) (L_spec_l1Ok_f : TExpForm → Int → Option (Bool)) (L_spec_l1Ok_l14 : Int → Int → Int → (List TExpForm) → Option (Bool)) (x1 : Int) (x64 : Bool) (c0_0 : Int) (c0_1 : ByteArray) (c0_2 : (List Int)) (c0_3 : Int) (c0_4 : (List TExpForm)) : Option (Bool) := (if x64 = true then (if (¬ c0_1.toList = (ByteArray.mk #[]).toList) then (some false) else (if (¬ c0_3 = (0 : Int)) then (some false) else (if ((0 : Int) < (c0_2.length : Int)) then (some false) else (spec_l1Ok.j13b k L_spec_l1Ok_f L_spec_l1Ok_l14 x1 c0_0 c0_4)))) else (some false))
mutual
def spec_l1Ok.f : Nat → TExpForm → Int → Option (Bool)
 | 0, _, _ => none
 | k + 1, x0, x1 => (if ((60 : Int) < x1) then (some false) else (if (x0.vSort = (1 : Int)) then ((spec_l1IdOk.f k x0.vText).bind fun r1 => (if r1 = true then (if ((x0.vText.size : Int) ≤ (40 : Int)) then (if ((0 : Int) ≤ x0.vFrom) then ((spec_l1ScopesOk.f k x0.vScopes).bind fun r2 => (if r2 = true then (some (decide ((x0.vKids.length : Int) = (0 : Int)))) else (some false))) else (some false)) else (some false)) else (some false))) else (if (x0.vSort = (2 : Int)) then ((spec_l1AtomOk.f k x0.vText).bind fun r3 => (if r3 = true then (if ((x0.vText.size : Int) ≤ (40 : Int)) then (if (x0.vFrom = (0 : Int)) then (some (decide ((i64.wrap ((x0.vScopes.length : Int) + (x0.vKids.length : Int))) = (0 : Int)))) else (some false)) else (some false)) else (some false))) else (if (x0.vSort = (3 : Int)) then (spec_l1Ok.j11b k (spec_l1Ok.f k) (spec_l1Ok.l14 k) x1 true x0.vSort x0.vText x0.vScopes x0.vFrom x0.vKids) else (spec_l1Ok.j11b k (spec_l1Ok.f k) (spec_l1Ok.l14 k) x1 (decide (x0.vSort = (4 : Int))) x0.vSort x0.vText x0.vScopes x0.vFrom x0.vKids)))))
def spec_l1Ok.l14 : Nat → Int → Int → Int → (List TExpForm) → Option (Bool)
 | 0, _, _, _, _ => none
 | k + 1, x1, x5, c0_0, c0_4 => (if (x5 < (c0_4.length : Int)) then (if (0 : Int) ≤ x5 then (if x5 < (c0_4.length : Int) then ((spec_l1Ok.f k (eTExpForm (rdAt zTExpForm c0_4 x5)) (i64.wrap (x1 + (1 : Int)))).bind fun r1 => (if (¬ r1 = true) then (some false) else (spec_l1Ok.l14 k x1 (i64.wrap (x5 + (1 : Int))) c0_0 c0_4))) else none) else none) else (if (c0_0 = (3 : Int)) then (some true) else (if ((1 : Int) < (c0_4.length : Int)) then (if (0 : Int) ≤ (i64.wrap ((c0_4.length : Int) - (1 : Int))) then (if (i64.wrap ((c0_4.length : Int) - (1 : Int))) < (c0_4.length : Int) then (if ((rdAt zTExpForm c0_4 (i64.wrap ((c0_4.length : Int) - (1 : Int)))).vSort = (1 : Int)) then (some true) else (if (0 : Int) ≤ (i64.wrap ((c0_4.length : Int) - (1 : Int))) then (if (i64.wrap ((c0_4.length : Int) - (1 : Int))) < (c0_4.length : Int) then (some (decide ((rdAt zTExpForm c0_4 (i64.wrap ((c0_4.length : Int) - (1 : Int)))).vSort = (2 : Int)))) else none) else none)) else none) else none) else (some false))))
end
def spec_l1Ok.j13 (k : Nat) (x1 : Int) (c0_0 : Int) (c0_4 : (List TExpForm)) : Option (Bool) := spec_l1Ok.j13b k (spec_l1Ok.f k) (spec_l1Ok.l14 k) x1 c0_0 c0_4
def spec_l1Ok.j11 (k : Nat) (x1 : Int) (x64 : Bool) (c0_0 : Int) (c0_1 : ByteArray) (c0_2 : (List Int)) (c0_3 : Int) (c0_4 : (List TExpForm)) : Option (Bool) := spec_l1Ok.j11b k (spec_l1Ok.f k) (spec_l1Ok.l14 k) x1 x64 c0_0 c0_1 c0_2 c0_3 c0_4
mutual
def spec_l1Size.f : Nat → TExpForm → Option (Int)
 | 0, _ => none
 | k + 1, x0 => (spec_l1Size.l3 k (1 : Int) (0 : Int) x0.vKids)
def spec_l1Size.l3 : Nat → Int → Int → (List TExpForm) → Option (Int)
 | 0, _, _, _ => none
 | k + 1, x3, x4, c0_4 => (if (x4 < (c0_4.length : Int)) then (if (0 : Int) ≤ x4 then (if x4 < (c0_4.length : Int) then ((spec_l1Size.f k (eTExpForm (rdAt zTExpForm c0_4 x4))).bind fun r1 => (spec_l1Size.l3 k (i64.wrap (x3 + r1)) (i64.wrap (x4 + (1 : Int))) c0_4)) else none) else none) else (some x3))
end
def spec_ExpFormOk.f (k : Nat) (x0 : TExpForm) : Option (Bool) := ((spec_l1Ok.f k (eTExpForm x0) (0 : Int)).bind fun r1 => (if r1 = true then ((spec_l1Size.f k (eTExpForm x0)).bind fun r2 => (some (decide (r2 ≤ (1500 : Int))))) else (some false)))
def spec_l3Dots.f (k : Nat) (x0 : TExpForm) : Option (Bool) := (if (x0.vSort = (1 : Int)) then (some (decide (x0.vText.toList = (ByteArray.mk #[46, 46, 46]).toList))) else (some false))
def spec_l3Blank.f (k : Nat) (x0 : TExpForm) : Option (Bool) := (if (x0.vSort = (1 : Int)) then (some (decide (x0.vText.toList = (ByteArray.mk #[95]).toList))) else (some false))
def spec_l3IdsOk.l2 : Nat → (List TExpForm) → Int → Option (Bool)
 | 0, _, _ => none
 | k + 1, x0, x3 => (if (x3 < (x0.length : Int)) then (if (0 : Int) ≤ x3 then (if x3 < (x0.length : Int) then ((spec_ExpFormOk.f k (eTExpForm (rdAt zTExpForm x0 x3))).bind fun r1 => (if (¬ r1 = true) then (some false) else (if (0 : Int) ≤ x3 then (if x3 < (x0.length : Int) then (if (¬ (rdAt zTExpForm x0 x3).vSort = (1 : Int)) then (some false) else (if (0 : Int) ≤ x3 then (if x3 < (x0.length : Int) then ((spec_l3Dots.f k (eTExpForm (rdAt zTExpForm x0 x3))).bind fun r2 => (if r2 = true then (some false) else (if (0 : Int) ≤ x3 then (if x3 < (x0.length : Int) then ((spec_l3Blank.f k (eTExpForm (rdAt zTExpForm x0 x3))).bind fun r3 => (if r3 = true then (some false) else (spec_l3IdsOk.l2 k x0 (i64.wrap (x3 + (1 : Int)))))) else none) else none))) else none) else none)) else none) else none))) else none) else none) else (some true))
def spec_l3IdsOk.f (k : Nat) (x0 : (List TExpForm)) : Option (Bool) := (spec_l3IdsOk.l2 k x0 (0 : Int))
mutual
def spec_l1Copies.f : Nat → (List TExpForm) → Option ((List TExpForm))
 | 0, _ => none
 | k + 1, x0 => (spec_l1Copies.l3 k x0 (0 : Int) [])
def spec_l1Copies.l3 : Nat → (List TExpForm) → Int → (List TExpForm) → Option ((List TExpForm))
 | 0, _, _, _ => none
 | k + 1, x0, x4, a0 => (if (x4 < (x0.length : Int)) then (if (0 : Int) ≤ x4 then (if x4 < (x0.length : Int) then ((spec_l1Copy.f k (eTExpForm (rdAt zTExpForm x0 x4))).bind fun r1 => (if a0.length + [(TExpForm.mk r1.1 r1.2.1 r1.2.2.2.1 r1.2.2.1 r1.2.2.2.2)].length ≤ 1759218604441 then (spec_l1Copies.l3 k x0 (i64.wrap (x4 + (1 : Int))) (a0 ++ [(TExpForm.mk r1.1 r1.2.1 r1.2.2.2.1 r1.2.2.1 r1.2.2.2.2)])) else none)) else none) else none) else (some a0))
def spec_l1Copy.f : Nat → TExpForm → Option (Int × ByteArray × Int × (List Int) × (List TExpForm))
 | 0, _ => none
 | k + 1, x0 => (if ([] : (List Int)).length + x0.vScopes.length ≤ 17592186044416 then ((spec_l1Copies.f k x0.vKids).bind fun r1 => (some (x0.vSort, x0.vText, x0.vFrom, ([] ++ x0.vScopes), r1))) else none)
end
def spec_l3Parts.f (k : Nat) (x0 : TExpForm) : Option ((List TExpForm)) := (if (x0.vSort = (4 : Int)) then (if (0 : Int) ≤ (i64.wrap ((x0.vKids.length : Int) - (1 : Int))) then (if (i64.wrap ((x0.vKids.length : Int) - (1 : Int))) ≤ (x0.vKids.length : Int) then (some ((x0.vKids.take (i64.wrap ((x0.vKids.length : Int) - (1 : Int))).toNat).drop 0)) else none) else none) else (some x0.vKids))
def spec_l3Repeat.l4 : Nat → Int → (List TExpForm) → Int → Option (Int)
 | 0, _, _, _ => none
 | k + 1, x3, x4, x5 => (if (x5 < (x4.length : Int)) then (if (0 : Int) ≤ x5 then (if x5 < (x4.length : Int) then ((spec_l3Dots.f k (eTExpForm (rdAt zTExpForm x4 x5))).bind fun r1 => (if r1 = true then (if ((0 : Int) ≤ x3) then (some (-2 : Int)) else (if (x5 = (0 : Int)) then (some (-2 : Int)) else (spec_l3Repeat.l4 k (i64.wrap (x5 - (1 : Int))) x4 (i64.wrap (x5 + (1 : Int)))))) else (spec_l3Repeat.l4 k x3 x4 (i64.wrap (x5 + (1 : Int)))))) else none) else none) else (some x3))
def spec_l3Repeat.f (k : Nat) (x0 : TExpForm) : Option (Int) := ((spec_l3Parts.f k (eTExpForm x0)).bind fun r1 => (spec_l3Repeat.l4 k (-1 : Int) r1 (0 : Int)))
def spec_l3PatternOk.j7b (k : Nat) (L_spec_l3PatternOk_f : TExpForm → Option (Bool)) (L_spec_l3PatternOk_l8 : Int → (List TExpForm) → Option (Bool)) (c0_4 : (List TExpForm)) : Option (Bool) := (L_spec_l3PatternOk_l8 (0 : Int) c0_4)
mutual
def spec_l3PatternOk.f : Nat → TExpForm → Option (Bool)
 | 0, _ => none
 | k + 1, x0 => (if (x0.vSort = (1 : Int)) then ((spec_l3Dots.f k (eTExpForm x0)).bind fun r1 => (some (decide (¬ r1 = true)))) else (if (x0.vSort = (2 : Int)) then (some true) else ((spec_l3Repeat.f k (eTExpForm x0)).bind fun r2 => (if (r2 = (-2 : Int)) then (some false) else (if (x0.vSort = (4 : Int)) then (if (0 : Int) ≤ (i64.wrap ((x0.vKids.length : Int) - (1 : Int))) then (if (i64.wrap ((x0.vKids.length : Int) - (1 : Int))) < (x0.vKids.length : Int) then ((spec_l3Dots.f k (eTExpForm (rdAt zTExpForm x0.vKids (i64.wrap ((x0.vKids.length : Int) - (1 : Int)))))).bind fun r3 => (if r3 = true then (some false) else (spec_l3PatternOk.j7b k (spec_l3PatternOk.f k) (spec_l3PatternOk.l8 k) x0.vKids))) else none) else none) else (spec_l3PatternOk.j7b k (spec_l3PatternOk.f k) (spec_l3PatternOk.l8 k) x0.vKids))))))
def spec_l3PatternOk.l8 : Nat → Int → (List TExpForm) → Option (Bool)
 | 0, _, _ => none
 | k + 1, x3, c0_4 => (if (x3 < (c0_4.length : Int)) then (if (0 : Int) ≤ x3 then (if x3 < (c0_4.length : Int) then ((spec_l3Dots.f k (eTExpForm (rdAt zTExpForm c0_4 x3))).bind fun r1 => (if (¬ r1 = true) then (if (0 : Int) ≤ x3 then (if x3 < (c0_4.length : Int) then ((spec_l3PatternOk.f k (eTExpForm (rdAt zTExpForm c0_4 x3))).bind fun r2 => (if (¬ r2 = true) then (some false) else (spec_l3PatternOk.l8 k (i64.wrap (x3 + (1 : Int))) c0_4))) else none) else none) else (spec_l3PatternOk.l8 k (i64.wrap (x3 + (1 : Int))) c0_4))) else none) else none) else (some true))
end
def spec_l3PatternOk.j7 (k : Nat) (c0_4 : (List TExpForm)) : Option (Bool) := spec_l3PatternOk.j7b k (spec_l3PatternOk.f k) (spec_l3PatternOk.l8 k) c0_4
def spec_l3Ints.l4 : Nat → (List Int) → (List Int) → Int → Option (Bool)
 | 0, _, _, _ => none
 | k + 1, x0, x1, x5 => (if (x5 < (x0.length : Int)) then (if (0 : Int) ≤ x5 then (if x5 < (x0.length : Int) then (if (0 : Int) ≤ x5 then (if x5 < (x1.length : Int) then (if (¬ (rdAt (0 : Int) x0 x5) = (rdAt (0 : Int) x1 x5)) then (some false) else (spec_l3Ints.l4 k x0 x1 (i64.wrap (x5 + (1 : Int))))) else none) else none) else none) else none) else (some true))
def spec_l3Ints.f (k : Nat) (x0 : (List Int)) (x1 : (List Int)) : Option (Bool) := (if (¬ (x0.length : Int) = (x1.length : Int)) then (some false) else (spec_l3Ints.l4 k x0 x1 (0 : Int)))
def spec_l3Same.f (k : Nat) (x0 : TExpForm) (x1 : TExpForm) : Option (Bool) := (if (x0.vSort = (1 : Int)) then (if (x1.vSort = (1 : Int)) then (if (x0.vText.toList = x1.vText.toList) then ((spec_l3Ints.f k x0.vScopes x1.vScopes).bind fun r1 => (some r1)) else (some false)) else (some false)) else (some false))
def spec_l3Among.l2 : Nat → (List TExpForm) → Int → Int → ByteArray → (List Int) → Int → (List TExpForm) → Option (Bool)
 | 0, _, _, _, _, _, _, _ => none
 | k + 1, x0, x5, c0_0, c0_1, c0_2, c0_3, c0_4 => (if (x5 < (x0.length : Int)) then (if (0 : Int) ≤ x5 then (if x5 < (x0.length : Int) then ((spec_l3Same.f k (eTExpForm (rdAt zTExpForm x0 x5)) (TExpForm.mk c0_0 c0_1 c0_2 c0_3 c0_4)).bind fun r1 => (if r1 = true then (some true) else (spec_l3Among.l2 k x0 (i64.wrap (x5 + (1 : Int))) c0_0 c0_1 c0_2 c0_3 c0_4))) else none) else none) else (some false))
def spec_l3Among.f (k : Nat) (x0 : (List TExpForm)) (x1 : TExpForm) : Option (Bool) := (spec_l3Among.l2 k x0 (0 : Int) x1.vSort x1.vText x1.vScopes x1.vFrom x1.vKids)
mutual
def spec_l3Names.f : Nat → TExpForm → (List TExpForm) → Option ((List TExpForm))
 | 0, _, _ => none
 | k + 1, x0, x1 => (if (x0.vSort = (1 : Int)) then ((spec_l3Dots.f k (eTExpForm x0)).bind fun r1 => (if (¬ r1 = true) then ((spec_l3Blank.f k (eTExpForm x0)).bind fun r2 => (if (¬ r2 = true) then ((spec_l3Among.f k x1 (eTExpForm x0)).bind fun r3 => (if (¬ r3 = true) then (if ([] : (List TExpForm)).length + [(eTExpForm x0)].length ≤ 1759218604441 then (some ([] ++ [(eTExpForm x0)])) else none) else (some []))) else (some []))) else (some []))) else (spec_l3Names.l7 k x1 (0 : Int) x0.vKids []))
def spec_l3Names.l7 : Nat → (List TExpForm) → Int → (List TExpForm) → (List TExpForm) → Option ((List TExpForm))
 | 0, _, _, _, _ => none
 | k + 1, x1, x6, c0_4, a1 => (if (x6 < (c0_4.length : Int)) then (if (0 : Int) ≤ x6 then (if x6 < (c0_4.length : Int) then ((spec_l3Names.f k (eTExpForm (rdAt zTExpForm c0_4 x6)) x1).bind fun r1 => (if a1.length + r1.length ≤ 1759218604441 then (spec_l3Names.l7 k x1 (i64.wrap (x6 + (1 : Int))) c0_4 (a1 ++ r1)) else none)) else none) else none) else (some a1))
end
def spec_ExpPatternOk.l5 : Nat → (List TExpForm) → Int → Option (Bool)
 | 0, _, _ => none
 | k + 1, x5, x6 => (if (x6 < (x5.length : Int)) then (if (0 : Int) ≤ x6 then (if x6 ≤ (x5.length : Int) then (if (0 : Int) ≤ x6 then (if x6 < (x5.length : Int) then ((spec_l3Among.f k ((x5.take x6.toNat).drop 0) (eTExpForm (rdAt zTExpForm x5 x6))).bind fun r1 => (if r1 = true then (some false) else (spec_ExpPatternOk.l5 k x5 (i64.wrap (x6 + (1 : Int)))))) else none) else none) else none) else none) else (some true))
def spec_ExpPatternOk.j3 (k : Nat) (x1 : (List TExpForm)) (c0_0 : Int) (c0_1 : ByteArray) (c0_2 : (List Int)) (c0_3 : Int) (c0_4 : (List TExpForm)) : Option (Bool) := ((spec_l3Names.f k (TExpForm.mk c0_0 c0_1 c0_2 c0_3 c0_4) x1).bind fun r1 => (spec_ExpPatternOk.l5 k r1 (0 : Int)))
def spec_ExpPatternOk.f (k : Nat) (x0 : TExpForm) (x1 : (List TExpForm)) : Option (Bool) := ((spec_ExpFormOk.f k (eTExpForm x0)).bind fun r1 => (if (¬ r1 = true) then (some false) else ((spec_l3IdsOk.f k x1).bind fun r2 => (if (¬ r2 = true) then (some false) else ((spec_l3PatternOk.f k (eTExpForm x0)).bind fun r3 => (if (¬ r3 = true) then (some false) else (spec_ExpPatternOk.j3 k x1 x0.vSort x0.vText x0.vScopes x0.vFrom x0.vKids)))))))
def spec_l4Rule.d9 (k : Nat) (c0_4 : (List TExpForm)) (c2_0 : Int) (c2_1 : ByteArray) (c2_3 : Int) (a3 : (List Int)) (a4 : (List TExpForm)) : Option (TExpRule × Bool) := (if (1 : Int) < (c0_4.length : Int) then ((spec_l1Copy.f k (eTExpForm (rdAt zTExpForm c0_4 (1 : Int)))).bind fun r1 => (some ((TExpRule.mk (TExpForm.mk c2_0 c2_1 a3 c2_3 a4) (TExpForm.mk r1.1 r1.2.1 r1.2.2.2.1 r1.2.2.1 r1.2.2.2.2)), true))) else none)
def spec_l4Rule.j6 (k : Nat) (x1 : (List TExpForm)) (c0_4 : (List TExpForm)) (c2_0 : Int) (c2_1 : ByteArray) (c2_3 : Int) (a3 : (List Int)) (a4 : (List TExpForm)) : Option (TExpRule × Bool) := (if (0 : Int) < (a4.length : Int) then ((spec_ExpPatternOk.f k (TExpForm.mk c2_0 c2_1 a3 c2_3 (a4.set 0 (TExpForm.mk (1 : Int) (ByteArray.mk #[95]) [] (0 : Int) []))) x1).bind fun r1 => (if (¬ r1 = true) then (some ((TExpRule.mk (TExpForm.mk (0 : Int) ByteArray.empty [] (0 : Int) []) (TExpForm.mk (0 : Int) ByteArray.empty [] (0 : Int) [])), false)) else (spec_l4Rule.d9 k c0_4 c2_0 c2_1 c2_3 a3 (a4.set 0 (TExpForm.mk (1 : Int) (ByteArray.mk #[95]) [] (0 : Int) []))))) else none)
def spec_l4Rule.j3 (k : Nat) (x1 : (List TExpForm)) (c0_4 : (List TExpForm)) : Option (TExpRule × Bool) := (if (0 : Int) < (c0_4.length : Int) then ((spec_l1Copy.f k (eTExpForm (rdAt zTExpForm c0_4 (0 : Int)))).bind fun r1 => (if (¬ r1.1 = (3 : Int)) then (if (¬ r1.1 = (4 : Int)) then (some ((TExpRule.mk (TExpForm.mk (0 : Int) ByteArray.empty [] (0 : Int) []) (TExpForm.mk (0 : Int) ByteArray.empty [] (0 : Int) [])), false)) else (if ((r1.2.2.2.2.length : Int) = (0 : Int)) then (some ((TExpRule.mk (TExpForm.mk (0 : Int) ByteArray.empty [] (0 : Int) []) (TExpForm.mk (0 : Int) ByteArray.empty [] (0 : Int) [])), false)) else (if (0 : Int) < (r1.2.2.2.2.length : Int) then (if (¬ (r1.2.2.2.2.getD 0 zTExpForm).vSort = (1 : Int)) then (some ((TExpRule.mk (TExpForm.mk (0 : Int) ByteArray.empty [] (0 : Int) []) (TExpForm.mk (0 : Int) ByteArray.empty [] (0 : Int) [])), false)) else (spec_l4Rule.j6 k x1 c0_4 r1.1 r1.2.1 r1.2.2.1 r1.2.2.2.1 r1.2.2.2.2)) else none))) else (if ((r1.2.2.2.2.length : Int) = (0 : Int)) then (some ((TExpRule.mk (TExpForm.mk (0 : Int) ByteArray.empty [] (0 : Int) []) (TExpForm.mk (0 : Int) ByteArray.empty [] (0 : Int) [])), false)) else (if (0 : Int) < (r1.2.2.2.2.length : Int) then (if (¬ (r1.2.2.2.2.getD 0 zTExpForm).vSort = (1 : Int)) then (some ((TExpRule.mk (TExpForm.mk (0 : Int) ByteArray.empty [] (0 : Int) []) (TExpForm.mk (0 : Int) ByteArray.empty [] (0 : Int) [])), false)) else (spec_l4Rule.j6 k x1 c0_4 r1.1 r1.2.1 r1.2.2.1 r1.2.2.2.1 r1.2.2.2.2)) else none)))) else none)
def spec_l4Rule.f (k : Nat) (x0 : TExpForm) (x1 : (List TExpForm)) : Option (TExpRule × Bool) := (if (¬ x0.vSort = (3 : Int)) then (some ((TExpRule.mk (TExpForm.mk (0 : Int) ByteArray.empty [] (0 : Int) []) (TExpForm.mk (0 : Int) ByteArray.empty [] (0 : Int) [])), false)) else (if (¬ (x0.vKids.length : Int) = (2 : Int)) then (some ((TExpRule.mk (TExpForm.mk (0 : Int) ByteArray.empty [] (0 : Int) []) (TExpForm.mk (0 : Int) ByteArray.empty [] (0 : Int) [])), false)) else (spec_l4Rule.j3 k x1 x0.vKids)))
def spec_ExpRules.d7b (k : Nat) (L_spec_ExpRules_l5 : Int → (List TExpForm) → (List TExpForm) → (List TExpRule) → Option (TExpMacro × Bool)) (x5 : Int) (c0_4 : (List TExpForm)) (c2_0 : (List TExpForm)) (a3 : (List TExpRule)) : Option (TExpMacro × Bool) := (if (0 : Int) ≤ x5 then (if x5 < (c0_4.length : Int) then ((spec_l4Rule.f k (eTExpForm (rdAt zTExpForm c0_4 x5)) c2_0).bind fun r1 => (if (¬ r1.2 = true) then (some ((TExpMacro.mk [] []), false)) else (if a3.length + [(TExpRule.mk (eTExpForm r1.1.vPattern) (eTExpForm r1.1.vTemplate))].length ≤ 879609302220 then (L_spec_ExpRules_l5 (i64.wrap (x5 + (1 : Int))) c0_4 c2_0 (a3 ++ [(TExpRule.mk (eTExpForm r1.1.vPattern) (eTExpForm r1.1.vTemplate))])) else none))) else none) else none)
def spec_ExpRules.l5 : Nat → Int → (List TExpForm) → (List TExpForm) → (List TExpRule) → Option (TExpMacro × Bool)
 | 0, _, _, _, _ => none
 | k + 1, x5, c0_4, c2_0, a3 => (if (x5 < (c0_4.length : Int)) then (spec_ExpRules.d7b k (spec_ExpRules.l5 k) x5 c0_4 c2_0 a3) else (some ((TExpMacro.mk c2_0 a3), true)))
def spec_ExpRules.d7 (k : Nat) (x5 : Int) (c0_4 : (List TExpForm)) (c2_0 : (List TExpForm)) (a3 : (List TExpRule)) : Option (TExpMacro × Bool) := spec_ExpRules.d7b k (spec_ExpRules.l5 k) x5 c0_4 c2_0 a3
def spec_ExpRules.j2 (k : Nat) (x54 : Bool) (c0_4 : (List TExpForm)) : Option (TExpMacro × Bool) := (if x54 = true then (some ((TExpMacro.mk [] []), false)) else (if (1 : Int) < (c0_4.length : Int) then ((spec_l1Copies.f k (rdAt zTExpForm c0_4 (1 : Int)).vKids).bind fun r1 => (spec_ExpRules.l5 k (2 : Int) c0_4 r1 [])) else none))
def spec_ExpRules.f (k : Nat) (x0 : TExpForm) : Option (TExpMacro × Bool) := ((spec_ExpFormOk.f k (eTExpForm x0)).bind fun r1 => (if (¬ r1 = true) then (spec_ExpRules.j2 k true x0.vKids) else (if (¬ x0.vSort = (3 : Int)) then (spec_ExpRules.j2 k true x0.vKids) else (if ((x0.vKids.length : Int) < (2 : Int)) then (spec_ExpRules.j2 k true x0.vKids) else (if (0 : Int) < (x0.vKids.length : Int) then (if (¬ (rdAt zTExpForm x0.vKids (0 : Int)).vSort = (1 : Int)) then (spec_ExpRules.j2 k true x0.vKids) else (if (0 : Int) < (x0.vKids.length : Int) then (if (¬ (rdAt zTExpForm x0.vKids (0 : Int)).vText.toList = (ByteArray.mk #[115, 121, 110, 116, 97, 120, 45, 114, 117, 108, 101, 115]).toList) then (spec_ExpRules.j2 k true x0.vKids) else (if (1 : Int) < (x0.vKids.length : Int) then (if (¬ (rdAt zTExpForm x0.vKids (1 : Int)).vSort = (3 : Int)) then (spec_ExpRules.j2 k true x0.vKids) else (if (1 : Int) < (x0.vKids.length : Int) then ((spec_l3IdsOk.f k (rdAt zTExpForm x0.vKids (1 : Int)).vKids).bind fun r2 => (spec_ExpRules.j2 k (decide (¬ r2 = true)) x0.vKids)) else none)) else none)) else none)) else none)))))
def internal_stringslite_HasPrefix.f (k : Nat) (x0 : ByteArray) (x1 : ByteArray) : Option (Bool) := (if ((x1.size : Int) ≤ (x0.size : Int)) then (if (0 : Int) ≤ (x1.size : Int) then (if (x1.size : Int) ≤ (x0.size : Int) then (some (decide ((x0.extract 0 (x1.size : Int).toNat).toList = x1.toList))) else none) else none) else (some false))
def internal_stringslite_TrimPrefix.f (k : Nat) (x0 : ByteArray) (x1 : ByteArray) : Option (ByteArray) := ((internal_stringslite_HasPrefix.f k x0 x1).bind fun r1 => (if r1 = true then (if (0 : Int) ≤ (x1.size : Int) then (if (x1.size : Int) ≤ (x0.size : Int) then (if (x0.size : Int) ≤ (x0.size : Int) then (some (x0.extract (x1.size : Int).toNat (x0.size : Int).toNat)) else none) else none) else none) else (some x0)))
def strings_TrimPrefix.f (k : Nat) (x0 : ByteArray) (x1 : ByteArray) : Option (ByteArray) := ((internal_stringslite_TrimPrefix.f k x0 x1).bind fun r1 => (some r1))
def impl_expAtom.l6 : Nat → (List Int) → Int → Int → Option (Bool)
 | 0, _, _, _ => none
 | k + 1, x33, x34, x35 => (if (x35 < x34) then (if (0 : Int) ≤ x35 then (if x35 < (x33.length : Int) then (if ((rdAt (0 : Int) x33 x35) < (32 : Int)) then (some false) else (if ((126 : Int) < (rdAt (0 : Int) x33 x35)) then (some false) else (if ((rdAt (0 : Int) x33 x35) = (34 : Int)) then (some false) else (impl_expAtom.l6 k x33 x34 (i64.wrap (x35 + (1 : Int))))))) else none) else none) else (some true))
def impl_expAtom.j5 (k : Nat) (x0 : ByteArray) (x3 : Int) (x28 : Bool) : Option (Bool) := (if x28 = true then (if (1 : Int) ≤ (i64.wrap (x3 - (1 : Int))) then (if (i64.wrap (x3 - (1 : Int))) ≤ (x0.size : Int) then (impl_expAtom.l6 k (bytesOf (x0.extract 1 (i64.wrap (x3 - (1 : Int))).toNat)) ((bytesOf (x0.extract 1 (i64.wrap (x3 - (1 : Int))).toNat)).length : Int) (0 : Int)) else none) else none) else ((strings_TrimPrefix.f k x0 (ByteArray.mk #[45])).bind fun r1 => (if (¬ r1.toList = (ByteArray.mk #[]).toList) then (((LTrim r1 (ByteArray.mk #[48, 49, 50, 51, 52, 53, 54, 55, 56, 57]))).bind fun r2 => (some (decide (r2.toList = (ByteArray.mk #[]).toList)))) else (some false))))
def impl_expAtom.j3 (k : Nat) (x0 : ByteArray) : Option (Bool) := (if ((2 : Int) ≤ (x0.size : Int)) then (if (0 : Int) < (x0.size : Int) then (if ((bt x0 (0 : Int)) = (34 : Int)) then (if (0 : Int) ≤ (i64.wrap ((x0.size : Int) - (1 : Int))) then (if (i64.wrap ((x0.size : Int) - (1 : Int))) < (x0.size : Int) then (impl_expAtom.j5 k x0 (x0.size : Int) (decide ((bt x0 (i64.wrap ((x0.size : Int) - (1 : Int)))) = (34 : Int)))) else none) else none) else (impl_expAtom.j5 k x0 (x0.size : Int) false)) else none) else (impl_expAtom.j5 k x0 (x0.size : Int) false))
def impl_expAtom.f (k : Nat) (x0 : ByteArray) : Option (Bool) := (if (x0.toList = (ByteArray.mk #[35, 116]).toList) then (some true) else (if (x0.toList = (ByteArray.mk #[35, 102]).toList) then (some true) else (impl_expAtom.j3 k x0)))
def impl_expId.l2 : Nat → ByteArray → (List Int) → Int → Int → Option (Bool)
 | 0, _, _, _, _ => none
 | k + 1, x0, x6, x7, x8 => (if (x8 < x7) then (if (0 : Int) ≤ x8 then (if x8 < (x6.length : Int) then (if ((rdAt (0 : Int) x6 x8) < (33 : Int)) then (some false) else (if ((126 : Int) < (rdAt (0 : Int) x6 x8)) then (some false) else (if ((0 : Int) ≤ (LIndexByte (ByteArray.mk #[40, 41, 34, 39, 126]) (rdAt (0 : Int) x6 x8))) then (some false) else (impl_expId.l2 k x0 x6 x7 (i64.wrap (x8 + (1 : Int))))))) else none) else none) else (if (¬ x0.toList = (ByteArray.mk #[]).toList) then (if (¬ x0.toList = (ByteArray.mk #[46]).toList) then (if (0 : Int) < (x0.size : Int) then (if (¬ (bt x0 (0 : Int)) = (35 : Int)) then ((impl_expAtom.f k x0).bind fun r2 => (some (decide (¬ r2 = true)))) else (some false)) else none) else (some false)) else (some false)))
def impl_expId.f (k : Nat) (x0 : ByteArray) : Option (Bool) := (impl_expId.l2 k x0 (bytesOf x0) ((bytesOf x0).length : Int) (0 : Int))
def impl_expCount.l10 : Nat → Int → (List Int) → Int → Int → (List Int) → Option (Int)
 | 0, _, _, _, _, _ => none
 | k + 1, x5, x40, x41, x42, c0_2 => (if (x42 < x41) then (if (0 : Int) ≤ x42 then (if x42 < (x40.length : Int) then (if ((rdAt (0 : Int) x40 x42) < (0 : Int)) then (some (-1 : Int)) else (if ((0 : Int) < x42) then (if (0 : Int) ≤ (i64.wrap (x42 - (1 : Int))) then (if (i64.wrap (x42 - (1 : Int))) < (c0_2.length : Int) then (if ((rdAt (0 : Int) x40 x42) ≤ (rdAt (0 : Int) c0_2 (i64.wrap (x42 - (1 : Int))))) then (some (-1 : Int)) else (impl_expCount.l10 k x5 x40 x41 (i64.wrap (x42 + (1 : Int))) c0_2)) else none) else none) else (impl_expCount.l10 k x5 x40 x41 (i64.wrap (x42 + (1 : Int))) c0_2))) else none) else none) else (some x5))
def impl_expCount.j9 (k : Nat) (x5 : Int) (c0_2 : (List Int)) : Option (Int) := (impl_expCount.l10 k x5 c0_2 (c0_2.length : Int) (0 : Int) c0_2)
def impl_expCount.j26b (k : Nat) (L_impl_expCount_f : TExpForm → Int → Option (Int)) (L_impl_expCount_l27 : Int → Int → (List TExpForm) → Int → Int → Option (Int)) (x1 : Int) (x5 : Int) (c0_4 : (List TExpForm)) : Option (Int) := (L_impl_expCount_l27 x1 x5 c0_4 (c0_4.length : Int) (0 : Int))
def impl_expCount.j22b (k : Nat) (L_impl_expCount_f : TExpForm → Int → Option (Int)) (L_impl_expCount_l27 : Int → Int → (List TExpForm) → Int → Int → Option (Int)) (x1 : Int) (x5 : Int) (c0_0 : Int) (c0_4 : (List TExpForm)) : Option (Int) := (if (c0_0 = (4 : Int)) then (if ((c0_4.length : Int) < (2 : Int)) then (some (-1 : Int)) else (if (0 : Int) ≤ (i64.wrap ((c0_4.length : Int) - (1 : Int))) then (if (i64.wrap ((c0_4.length : Int) - (1 : Int))) < (c0_4.length : Int) then (if (¬ (rdAt zTExpForm c0_4 (i64.wrap ((c0_4.length : Int) - (1 : Int)))).vSort = (1 : Int)) then (if (0 : Int) ≤ (i64.wrap ((c0_4.length : Int) - (1 : Int))) then (if (i64.wrap ((c0_4.length : Int) - (1 : Int))) < (c0_4.length : Int) then (if (¬ (rdAt zTExpForm c0_4 (i64.wrap ((c0_4.length : Int) - (1 : Int)))).vSort = (2 : Int)) then (some (-1 : Int)) else (impl_expCount.j26b k L_impl_expCount_f L_impl_expCount_l27 x1 x5 c0_4)) else none) else none) else (impl_expCount.j26b k L_impl_expCount_f L_impl_expCount_l27 x1 x5 c0_4)) else none) else none)) else (impl_expCount.j26b k L_impl_expCount_f L_impl_expCount_l27 x1 x5 c0_4))
def impl_expCount.j20b (k : Nat) (L_impl_expCount_f : TExpForm → Int → Option (Int)) (L_impl_expCount_l27 : Int → Int → (List TExpForm) → Int → Int → Option (Int)) (x1 : Int) (x5 : Int) (x93 : Bool) (c0_0 : Int) (c0_1 : ByteArray) (c0_2 : (List Int)) (c0_3 : Int) (c0_4 : (List TExpForm)) : Option (Int) := (if x93 = true then (if (¬ c0_1.toList = (ByteArray.mk #[]).toList) then (some (-1 : Int)) else (if (¬ c0_3 = (0 : Int)) then (some (-1 : Int)) else (if ((0 : Int) < (c0_2.length : Int)) then (some (-1 : Int)) else (impl_expCount.j22b k L_impl_expCount_f L_impl_expCount_l27 x1 x5 c0_0 c0_4)))) else (some (-1 : Int)))
mutual
def impl_expCount.f : Nat → TExpForm → Int → Option (Int)
 | 0, _, _ => none
 | k + 1, x0, x1 => (if ((60 : Int) < x1) then (some (-1 : Int)) else (if (x0.vSort = (1 : Int)) then ((impl_expId.f k x0.vText).bind fun r1 => (if (¬ r1 = true) then (some (-1 : Int)) else (if ((40 : Int) < (x0.vText.size : Int)) then (some (-1 : Int)) else (if (x0.vFrom < (0 : Int)) then (some (-1 : Int)) else (if ((0 : Int) < (x0.vKids.length : Int)) then (some (-1 : Int)) else (impl_expCount.j9 k (1 : Int) x0.vScopes)))))) else (if (x0.vSort = (2 : Int)) then ((impl_expAtom.f k x0.vText).bind fun r2 => (if (¬ r2 = true) then (some (-1 : Int)) else (if ((40 : Int) < (x0.vText.size : Int)) then (some (-1 : Int)) else (if (¬ x0.vFrom = (0 : Int)) then (some (-1 : Int)) else (if ((0 : Int) < (x0.vScopes.length : Int)) then (some (-1 : Int)) else (if ((0 : Int) < (x0.vKids.length : Int)) then (some (-1 : Int)) else (some (1 : Int)))))))) else (if (x0.vSort = (3 : Int)) then (impl_expCount.j20b k (impl_expCount.f k) (impl_expCount.l27 k) x1 (1 : Int) true x0.vSort x0.vText x0.vScopes x0.vFrom x0.vKids) else (impl_expCount.j20b k (impl_expCount.f k) (impl_expCount.l27 k) x1 (1 : Int) (decide (x0.vSort = (4 : Int))) x0.vSort x0.vText x0.vScopes x0.vFrom x0.vKids)))))
def impl_expCount.l27 : Nat → Int → Int → (List TExpForm) → Int → Int → Option (Int)
 | 0, _, _, _, _, _ => none
 | k + 1, x1, x5, x139, x140, x141 => (if (x141 < x140) then (if (0 : Int) ≤ x141 then (if x141 < (x139.length : Int) then ((impl_expCount.f k (eTExpForm (rdAt zTExpForm x139 x141)) (i64.wrap (x1 + (1 : Int)))).bind fun r1 => (if (r1 < (0 : Int)) then (some (-1 : Int)) else (if ((1500 : Int) < (i64.wrap (x5 + r1))) then (some (-1 : Int)) else (impl_expCount.l27 k x1 (i64.wrap (x5 + r1)) x139 x140 (i64.wrap (x141 + (1 : Int))))))) else none) else none) else (some x5))
end
def impl_expCount.j20 (k : Nat) (x1 : Int) (x5 : Int) (x93 : Bool) (c0_0 : Int) (c0_1 : ByteArray) (c0_2 : (List Int)) (c0_3 : Int) (c0_4 : (List TExpForm)) : Option (Int) := impl_expCount.j20b k (impl_expCount.f k) (impl_expCount.l27 k) x1 x5 x93 c0_0 c0_1 c0_2 c0_3 c0_4
def impl_expCount.j22 (k : Nat) (x1 : Int) (x5 : Int) (c0_0 : Int) (c0_4 : (List TExpForm)) : Option (Int) := impl_expCount.j22b k (impl_expCount.f k) (impl_expCount.l27 k) x1 x5 c0_0 c0_4
def impl_expCount.j26 (k : Nat) (x1 : Int) (x5 : Int) (c0_4 : (List TExpForm)) : Option (Int) := impl_expCount.j26b k (impl_expCount.f k) (impl_expCount.l27 k) x1 x5 c0_4
def impl_ExpFormOk.f (k : Nat) (x0 : TExpForm) : Option (Bool) := ((impl_expCount.f k (eTExpForm x0) (0 : Int)).bind fun r1 => (some (decide ((0 : Int) < r1))))
def impl_expIs.f (k : Nat) (x0 : TExpForm) (x1 : ByteArray) : Option (Bool) := (if (x0.vSort = (1 : Int)) then (some (decide (x0.vText.toList = x1.toList))) else (some false))
def impl_expLiterals.l2 : Nat → (List TExpForm) → Int → Int → Option (Bool)
 | 0, _, _, _ => none
 | k + 1, x5, x6, x7 => (if (x7 < x6) then (if (0 : Int) ≤ x7 then (if x7 < (x5.length : Int) then (if (¬ (rdAt zTExpForm x5 x7).vSort = (1 : Int)) then (some false) else ((impl_ExpFormOk.f k (eTExpForm (rdAt zTExpForm x5 x7))).bind fun r1 => (if (¬ r1 = true) then (some false) else (if ((rdAt zTExpForm x5 x7).vText.toList = (ByteArray.mk #[46, 46, 46]).toList) then (some false) else (if ((rdAt zTExpForm x5 x7).vText.toList = (ByteArray.mk #[95]).toList) then (some false) else (impl_expLiterals.l2 k x5 x6 (i64.wrap (x7 + (1 : Int))))))))) else none) else none) else (some true))
def impl_expLiterals.f (k : Nat) (x0 : (List TExpForm)) : Option (Bool) := (impl_expLiterals.l2 k x0 (x0.length : Int) (0 : Int))
mutual
def impl_expCopy.f : Nat → TExpForm → Option (Int × ByteArray × Int × (List Int) × (List TExpForm))
 | 0, _ => none
 | k + 1, x0 => (if ([] : (List Int)).length + x0.vScopes.length ≤ 17592186044416 then (impl_expCopy.l4 k x0.vKids (x0.vKids.length : Int) (0 : Int) x0.vSort x0.vText x0.vFrom [] ([] ++ x0.vScopes)) else none)
def impl_expCopy.l4 : Nat → (List TExpForm) → Int → Int → Int → ByteArray → Int → (List TExpForm) → (List Int) → Option (Int × ByteArray × Int × (List Int) × (List TExpForm))
 | 0, _, _, _, _, _, _, _, _ => none
 | k + 1, x11, x12, x13, c0_0, c0_1, c0_3, a2, a3 => (if (x13 < x12) then (if (0 : Int) ≤ x13 then (if x13 < (x11.length : Int) then ((impl_expCopy.f k (eTExpForm (rdAt zTExpForm x11 x13))).bind fun r1 => (if a2.length + [(TExpForm.mk r1.1 r1.2.1 r1.2.2.2.1 r1.2.2.1 r1.2.2.2.2)].length ≤ 1759218604441 then (impl_expCopy.l4 k x11 x12 (i64.wrap (x13 + (1 : Int))) c0_0 c0_1 c0_3 (a2 ++ [(TExpForm.mk r1.1 r1.2.1 r1.2.2.2.1 r1.2.2.1 r1.2.2.2.2)]) a3) else none)) else none) else none) else (some (c0_0, c0_1, c0_3, a3, a2)))
end
def impl_expInts.l4 : Nat → (List Int) → (List Int) → Int → Int → Option (Bool)
 | 0, _, _, _, _ => none
 | k + 1, x0, x1, x12, x13 => (if (x13 < x12) then (if (0 : Int) ≤ x13 then (if x13 < (x0.length : Int) then (if (0 : Int) ≤ x13 then (if x13 < (x1.length : Int) then (if (¬ (rdAt (0 : Int) x0 x13) = (rdAt (0 : Int) x1 x13)) then (some false) else (impl_expInts.l4 k x0 x1 x12 (i64.wrap (x13 + (1 : Int))))) else none) else none) else none) else none) else (some true))
def impl_expInts.f (k : Nat) (x0 : (List Int)) (x1 : (List Int)) : Option (Bool) := (if (¬ (x0.length : Int) = (x1.length : Int)) then (some false) else (impl_expInts.l4 k x0 x1 (x0.length : Int) (0 : Int)))
def impl_expSame.f (k : Nat) (x0 : TExpForm) (x1 : TExpForm) : Option (Bool) := (if (x0.vText.toList = x1.vText.toList) then ((impl_expInts.f k x0.vScopes x1.vScopes).bind fun r1 => (some r1)) else (some false))
def impl_expIn.l2 : Nat → (List TExpForm) → Int → Int → Int → ByteArray → (List Int) → Int → (List TExpForm) → Option (Bool)
 | 0, _, _, _, _, _, _, _, _ => none
 | k + 1, x7, x8, x9, c0_0, c0_1, c0_2, c0_3, c0_4 => (if (x9 < x8) then (if (0 : Int) ≤ x9 then (if x9 < (x7.length : Int) then ((impl_expSame.f k (eTExpForm (rdAt zTExpForm x7 x9)) (TExpForm.mk c0_0 c0_1 c0_2 c0_3 c0_4)).bind fun r1 => (if r1 = true then (some true) else (impl_expIn.l2 k x7 x8 (i64.wrap (x9 + (1 : Int))) c0_0 c0_1 c0_2 c0_3 c0_4))) else none) else none) else (some false))
def impl_expIn.f (k : Nat) (x0 : (List TExpForm)) (x1 : TExpForm) : Option (Bool) := (impl_expIn.l2 k x0 (x0.length : Int) (0 : Int) x1.vSort x1.vText x1.vScopes x1.vFrom x1.vKids)
def impl_expParts.f (k : Nat) (x0 : TExpForm) : Option ((List TExpForm) × (Option TExpForm)) := (if (x0.vSort = (3 : Int)) then (some (x0.vKids, none)) else (if (x0.vSort = (4 : Int)) then (if (0 : Int) ≤ (i64.wrap ((x0.vKids.length : Int) - (1 : Int))) then (if (i64.wrap ((x0.vKids.length : Int) - (1 : Int))) < (x0.vKids.length : Int) then (if (0 : Int) ≤ (i64.wrap ((x0.vKids.length : Int) - (1 : Int))) then (if (i64.wrap ((x0.vKids.length : Int) - (1 : Int))) ≤ (x0.vKids.length : Int) then (some (((x0.vKids.take (i64.wrap ((x0.vKids.length : Int) - (1 : Int))).toNat).drop 0), (some (rdAt zTExpForm ([(TExpForm.mk (0 : Int) ByteArray.empty [] (0 : Int) [])].set 0 (eTExpForm (rdAt zTExpForm x0.vKids (i64.wrap ((x0.vKids.length : Int) - (1 : Int)))))) (0 : Int))))) else none) else none) else none) else none) else (some ([], (some (rdAt zTExpForm ([(TExpForm.mk (0 : Int) ByteArray.empty [] (0 : Int) [])].set 0 (eTExpForm x0)) (0 : Int)))))))
def impl_expNames_look.d5 (k : Nat) (c0_0 : (List TExpForm)) (c0_2 : Bool) (c1_0 : Int) (c1_1 : ByteArray) (c1_2 : (List Int)) (c1_3 : Int) (c1_4 : (List TExpForm)) (a2 : (List TExpForm)) : Option ((List TExpForm) × Bool × (List TExpForm)) := (if a2.length + [(TExpForm.mk (0 : Int) (ByteArray.mk #[]) [] (0 : Int) [])].length ≤ 1759218604441 then (if (0 : Int) ≤ (a2.length : Int) then (if (a2.length : Int) < ((a2 ++ [(TExpForm.mk (0 : Int) (ByteArray.mk #[]) [] (0 : Int) [])]).length : Int) then (some (c0_0, c0_2, ((a2 ++ [(TExpForm.mk (0 : Int) (ByteArray.mk #[]) [] (0 : Int) [])]).set ((a2.length : Int).toNat) (TExpForm.mk c1_0 c1_1 c1_2 c1_3 c1_4)))) else none) else none) else none)
def impl_expNames_look.j4 (k : Nat) (c0_0 : (List TExpForm)) (c0_2 : Bool) (c1_0 : Int) (c1_1 : ByteArray) (c1_2 : (List Int)) (c1_3 : Int) (c1_4 : (List TExpForm)) (a2 : (List TExpForm)) : Option ((List TExpForm) × Bool × (List TExpForm)) := (if c0_2 = true then (impl_expNames_look.d5 k c0_0 true c1_0 c1_1 c1_2 c1_3 c1_4 a2) else ((impl_expIn.f k a2 (TExpForm.mk c1_0 c1_1 c1_2 c1_3 c1_4)).bind fun r1 => (impl_expNames_look.d5 k c0_0 r1 c1_0 c1_1 c1_2 c1_3 c1_4 a2)))
def impl_expNames_look.j8b (k : Nat) (L_impl_expNames_look_f : TExpForm → (List TExpForm) → Bool → (List TExpForm) → Option ((List TExpForm) × Bool × (List TExpForm))) (L_impl_expNames_look_l11 : (Option TExpForm) → Int → (List TExpForm) → Int → Int → (List TExpForm) → Bool → (List TExpForm) → Option ((List TExpForm) × Bool × (List TExpForm))) (x55 : Bool) (c0_0 : (List TExpForm)) (c0_2 : Bool) (c1_0 : Int) (c1_1 : ByteArray) (c1_2 : (List Int)) (c1_3 : Int) (c1_4 : (List TExpForm)) (a2 : (List TExpForm)) : Option ((List TExpForm) × Bool × (List TExpForm)) := (if x55 = true then ((impl_expParts.f k (TExpForm.mk c1_0 c1_1 c1_2 c1_3 c1_4)).bind fun r1 => (L_impl_expNames_look_l11 r1.2 (0 : Int) r1.1 (r1.1.length : Int) (0 : Int) c0_0 c0_2 a2)) else (some (c0_0, c0_2, a2)))
def impl_expNames_look.j19b (k : Nat) (L_impl_expNames_look_f : TExpForm → (List TExpForm) → Bool → (List TExpForm) → Option ((List TExpForm) × Bool × (List TExpForm))) (L_impl_expNames_look_l11 : (Option TExpForm) → Int → (List TExpForm) → Int → Int → (List TExpForm) → Bool → (List TExpForm) → Option ((List TExpForm) × Bool × (List TExpForm))) (x5 : (Option TExpForm)) (c0_0 : (List TExpForm)) (c0_2 : Bool) (a1 : (List TExpForm)) : Option ((List TExpForm) × Bool × (List TExpForm)) := (if (Option.isSome x5 = true) then (if c0_2 = true then ((x5).bind fun y1 => ((L_impl_expNames_look_f (eTExpForm y1) c0_0 true a1).bind fun r2 => (some (r2.1, r2.2.1, r2.2.2)))) else ((x5).bind fun y3 => ((impl_expIs.f k (eTExpForm y3) (ByteArray.mk #[46, 46, 46])).bind fun r4 => ((x5).bind fun y5 => ((L_impl_expNames_look_f (eTExpForm y5) c0_0 r4 a1).bind fun r6 => (some (r6.1, r6.2.1, r6.2.2))))))) else (some (c0_0, c0_2, a1)))
mutual
def impl_expNames_look.f : Nat → TExpForm → (List TExpForm) → Bool → (List TExpForm) → Option ((List TExpForm) × Bool × (List TExpForm))
 | 0, _, _, _, _ => none
 | k + 1, x1, c0_0, c0_2, a1 => (if (x1.vSort = (1 : Int)) then (if (x1.vText.toList = (ByteArray.mk #[46, 46, 46]).toList) then (some (c0_0, c0_2, a1)) else (if (x1.vText.toList = (ByteArray.mk #[95]).toList) then (some (c0_0, c0_2, a1)) else ((impl_expIn.f k c0_0 (eTExpForm x1)).bind fun r1 => (if r1 = true then (some (c0_0, c0_2, a1)) else (impl_expNames_look.j4 k c0_0 c0_2 x1.vSort x1.vText x1.vScopes x1.vFrom x1.vKids a1))))) else (if (x1.vSort = (3 : Int)) then (impl_expNames_look.j8b k (impl_expNames_look.f k) (impl_expNames_look.l11 k) true c0_0 c0_2 x1.vSort x1.vText x1.vScopes x1.vFrom x1.vKids a1) else (impl_expNames_look.j8b k (impl_expNames_look.f k) (impl_expNames_look.l11 k) (decide (x1.vSort = (4 : Int))) c0_0 c0_2 x1.vSort x1.vText x1.vScopes x1.vFrom x1.vKids a1)))
def impl_expNames_look.l11 : Nat → (Option TExpForm) → Int → (List TExpForm) → Int → Int → (List TExpForm) → Bool → (List TExpForm) → Option ((List TExpForm) × Bool × (List TExpForm))
 | 0, _, _, _, _, _, _, _, _ => none
 | k + 1, x5, x6, x63, x64, x65, c0_0, c0_2, a1 => (if (x65 < x64) then (if (0 : Int) ≤ x65 then (if x65 < (x63.length : Int) then ((impl_expIs.f k (eTExpForm (rdAt zTExpForm x63 x65)) (ByteArray.mk #[46, 46, 46])).bind fun r1 => (if r1 = true then (if c0_2 = true then ((impl_expNames_look.f k (eTExpForm (rdAt zTExpForm x63 x65)) c0_0 true a1).bind fun r2 => (impl_expNames_look.l11 k x5 (i64.wrap (x6 + (1 : Int))) x63 x64 (i64.wrap (x65 + (1 : Int))) r2.1 r2.2.1 r2.2.2)) else ((impl_expNames_look.f k (eTExpForm (rdAt zTExpForm x63 x65)) c0_0 (decide (x65 = (0 : Int))) a1).bind fun r3 => (impl_expNames_look.l11 k x5 (i64.wrap (x6 + (1 : Int))) x63 x64 (i64.wrap (x65 + (1 : Int))) r3.1 r3.2.1 r3.2.2))) else ((impl_expNames_look.f k (eTExpForm (rdAt zTExpForm x63 x65)) c0_0 c0_2 a1).bind fun r4 => (impl_expNames_look.l11 k x5 x6 x63 x64 (i64.wrap (x65 + (1 : Int))) r4.1 r4.2.1 r4.2.2)))) else none) else none) else (if c0_2 = true then (impl_expNames_look.j19b k (impl_expNames_look.f k) (impl_expNames_look.l11 k) x5 c0_0 true a1) else (impl_expNames_look.j19b k (impl_expNames_look.f k) (impl_expNames_look.l11 k) x5 c0_0 (decide ((1 : Int) < x6)) a1)))
end
def impl_expNames_look.j8 (k : Nat) (x55 : Bool) (c0_0 : (List TExpForm)) (c0_2 : Bool) (c1_0 : Int) (c1_1 : ByteArray) (c1_2 : (List Int)) (c1_3 : Int) (c1_4 : (List TExpForm)) (a2 : (List TExpForm)) : Option ((List TExpForm) × Bool × (List TExpForm)) := impl_expNames_look.j8b k (impl_expNames_look.f k) (impl_expNames_look.l11 k) x55 c0_0 c0_2 c1_0 c1_1 c1_2 c1_3 c1_4 a2
def impl_expNames_look.j19 (k : Nat) (x5 : (Option TExpForm)) (c0_0 : (List TExpForm)) (c0_2 : Bool) (a1 : (List TExpForm)) : Option ((List TExpForm) × Bool × (List TExpForm)) := impl_expNames_look.j19b k (impl_expNames_look.f k) (impl_expNames_look.l11 k) x5 c0_0 c0_2 a1
def impl_ExpPatternOk.j3 (k : Nat) (x1 : (List TExpForm)) (c0_0 : Int) (c0_1 : ByteArray) (c0_2 : (List Int)) (c0_3 : Int) (c0_4 : (List TExpForm)) : Option (Bool) := ((impl_expNames_look.f k (TExpForm.mk c0_0 c0_1 c0_2 c0_3 c0_4) x1 false []).bind fun r1 => (some (decide (¬ r1.2.1 = true))))
def impl_ExpPatternOk.f (k : Nat) (x0 : TExpForm) (x1 : (List TExpForm)) : Option (Bool) := ((impl_ExpFormOk.f k (eTExpForm x0)).bind fun r1 => (if (¬ r1 = true) then (some false) else ((impl_expLiterals.f k x1).bind fun r2 => (if (¬ r2 = true) then (some false) else ((impl_expIs.f k (eTExpForm x0) (ByteArray.mk #[46, 46, 46])).bind fun r3 => (if r3 = true then (some false) else (impl_ExpPatternOk.j3 k x1 x0.vSort x0.vText x0.vScopes x0.vFrom x0.vKids)))))))
def impl_ExpRules.d16b (k : Nat) (L_impl_ExpRules_l6 : Int → Int → (List TExpForm) → Int → (List TExpForm) → (List TExpRule) → Option (Bool × (List TExpForm) × (List TExpRule))) (x59 : Int) (x60 : Int) (c3_0 : Int) (c3_1 : ByteArray) (c3_3 : Int) (a4 : (List TExpForm)) (b4 : Int) (a5 : (List TExpForm)) (a6 : (List TExpRule)) (a7 : (List Int)) (a8 : (List TExpForm)) (b8 : Int) (a9 : (List Int)) (a10 : (List TExpForm)) : Option (Bool × (List TExpForm) × (List TExpRule)) := (if (1 : Int) < (a8.length : Int) then (if b8.toNat ≤ 1 then (if a6.length + [(TExpRule.mk (TExpForm.mk c3_0 c3_1 a9 c3_3 a10) (eTExpForm (a8.getD 1 zTExpForm)))].length ≤ 879609302220 then (L_impl_ExpRules_l6 x59 (i64.wrap (x60 + (1 : Int))) a4 ((b4.toNat : Nat) : Int) a5 (a6 ++ [(TExpRule.mk (TExpForm.mk c3_0 c3_1 a9 c3_3 a10) (eTExpForm (a8.getD 1 zTExpForm)))])) else none) else none) else none)
def impl_ExpRules.j13b (k : Nat) (L_impl_ExpRules_l6 : Int → Int → (List TExpForm) → Int → (List TExpForm) → (List TExpRule) → Option (Bool × (List TExpForm) × (List TExpRule))) (x59 : Int) (x60 : Int) (c3_0 : Int) (c3_1 : ByteArray) (c3_3 : Int) (a4 : (List TExpForm)) (b4 : Int) (a5 : (List TExpForm)) (a6 : (List TExpRule)) (a7 : (List Int)) (a8 : (List TExpForm)) (b8 : Int) (a9 : (List Int)) (a10 : (List TExpForm)) : Option (Bool × (List TExpForm) × (List TExpRule)) := (if (0 : Int) < (a10.length : Int) then ((impl_ExpPatternOk.f k (TExpForm.mk c3_0 c3_1 a9 c3_3 (a10.set 0 (TExpForm.mk (1 : Int) (ByteArray.mk #[95]) [] (0 : Int) []))) a5).bind fun r1 => (if (¬ r1 = true) then (some (false, [], [])) else (impl_ExpRules.d16b k L_impl_ExpRules_l6 x59 x60 c3_0 c3_1 c3_3 a4 ((b4.toNat : Nat) : Int) a5 a6 a7 a8 ((b8.toNat : Nat) : Int) a9 (a10.set 0 (TExpForm.mk (1 : Int) (ByteArray.mk #[95]) [] (0 : Int) []))))) else none)
def impl_ExpRules.j10b (k : Nat) (L_impl_ExpRules_l6 : Int → Int → (List TExpForm) → Int → (List TExpForm) → (List TExpRule) → Option (Bool × (List TExpForm) × (List TExpRule))) (x59 : Int) (x60 : Int) (a3 : (List TExpForm)) (b3 : Int) (a4 : (List TExpForm)) (a5 : (List TExpRule)) (a6 : (List Int)) (a7 : (List TExpForm)) : Option (Bool × (List TExpForm) × (List TExpRule)) := (if (0 : Int) < (a7.length : Int) then (if 0 ≤ 0 then (if (¬ (a7.getD 0 zTExpForm).vSort = (3 : Int)) then (if (¬ (a7.getD 0 zTExpForm).vSort = (4 : Int)) then (some (false, [], [])) else (if (((a7.getD 0 zTExpForm).vKids.length : Int) = (0 : Int)) then (some (false, [], [])) else (if (0 : Int) < ((a7.getD 0 zTExpForm).vKids.length : Int) then (if (¬ ((a7.getD 0 zTExpForm).vKids.getD 0 zTExpForm).vSort = (1 : Int)) then (some (false, [], [])) else (impl_ExpRules.j13b k L_impl_ExpRules_l6 x59 x60 (a7.getD 0 zTExpForm).vSort (a7.getD 0 zTExpForm).vText (a7.getD 0 zTExpForm).vFrom a3 ((b3.toNat : Nat) : Int) a4 a5 a6 a7 (((0 + 1) : Nat) : Int) (a7.getD 0 zTExpForm).vScopes (a7.getD 0 zTExpForm).vKids)) else none))) else (if (((a7.getD 0 zTExpForm).vKids.length : Int) = (0 : Int)) then (some (false, [], [])) else (if (0 : Int) < ((a7.getD 0 zTExpForm).vKids.length : Int) then (if (¬ ((a7.getD 0 zTExpForm).vKids.getD 0 zTExpForm).vSort = (1 : Int)) then (some (false, [], [])) else (impl_ExpRules.j13b k L_impl_ExpRules_l6 x59 x60 (a7.getD 0 zTExpForm).vSort (a7.getD 0 zTExpForm).vText (a7.getD 0 zTExpForm).vFrom a3 ((b3.toNat : Nat) : Int) a4 a5 a6 a7 (((0 + 1) : Nat) : Int) (a7.getD 0 zTExpForm).vScopes (a7.getD 0 zTExpForm).vKids)) else none))) else none) else none)
def impl_ExpRules.l6 : Nat → Int → Int → (List TExpForm) → Int → (List TExpForm) → (List TExpRule) → Option (Bool × (List TExpForm) × (List TExpRule))
 | 0, _, _, _, _, _, _ => none
 | k + 1, x59, x60, a2, b2, a3, a4 => (if (x60 < x59) then (if (0 : Int) ≤ x60 then (if x60 < ((a2.length - 2 : Nat) : Int) then (if b2.toNat ≤ (2 + x60.toNat) then (if (¬ (a2.getD (2 + x60.toNat) zTExpForm).vSort = (3 : Int)) then (some (false, [], [])) else (if (¬ ((a2.getD (2 + x60.toNat) zTExpForm).vKids.length : Int) = (2 : Int)) then (some (false, [], [])) else (impl_ExpRules.j10b k (impl_ExpRules.l6 k) x59 x60 a2 ((((2 + x60.toNat) + 1) : Nat) : Int) a3 a4 (a2.getD (2 + x60.toNat) zTExpForm).vScopes (a2.getD (2 + x60.toNat) zTExpForm).vKids))) else none) else none) else none) else (some (true, a3, a4)))
def impl_ExpRules.j10 (k : Nat) (x59 : Int) (x60 : Int) (a3 : (List TExpForm)) (b3 : Int) (a4 : (List TExpForm)) (a5 : (List TExpRule)) (a6 : (List Int)) (a7 : (List TExpForm)) : Option (Bool × (List TExpForm) × (List TExpRule)) := impl_ExpRules.j10b k (impl_ExpRules.l6 k) x59 x60 a3 b3 a4 a5 a6 a7
def impl_ExpRules.j13 (k : Nat) (x59 : Int) (x60 : Int) (c3_0 : Int) (c3_1 : ByteArray) (c3_3 : Int) (a4 : (List TExpForm)) (b4 : Int) (a5 : (List TExpForm)) (a6 : (List TExpRule)) (a7 : (List Int)) (a8 : (List TExpForm)) (b8 : Int) (a9 : (List Int)) (a10 : (List TExpForm)) : Option (Bool × (List TExpForm) × (List TExpRule)) := impl_ExpRules.j13b k (impl_ExpRules.l6 k) x59 x60 c3_0 c3_1 c3_3 a4 b4 a5 a6 a7 a8 b8 a9 a10
def impl_ExpRules.d16 (k : Nat) (x59 : Int) (x60 : Int) (c3_0 : Int) (c3_1 : ByteArray) (c3_3 : Int) (a4 : (List TExpForm)) (b4 : Int) (a5 : (List TExpForm)) (a6 : (List TExpRule)) (a7 : (List Int)) (a8 : (List TExpForm)) (b8 : Int) (a9 : (List Int)) (a10 : (List TExpForm)) : Option (Bool × (List TExpForm) × (List TExpRule)) := impl_ExpRules.d16b k (impl_ExpRules.l6 k) x59 x60 c3_0 c3_1 c3_3 a4 b4 a5 a6 a7 a8 b8 a9 a10
def impl_ExpRules.j2 (k : Nat) (x46 : Bool) (c0_0 : Int) (c0_1 : ByteArray) (c0_2 : (List Int)) (c0_3 : Int) (c0_4 : (List TExpForm)) : Option (Bool × (List TExpForm) × (List TExpRule)) := (if x46 = true then (some (false, [], [])) else ((impl_expCopy.f k (TExpForm.mk c0_0 c0_1 c0_2 c0_3 c0_4)).bind fun r1 => (if (1 : Int) < (r1.2.2.2.2.length : Int) then (if ((1 : Nat) : Int) < (2 : Int) then (if (2 : Int) ≤ (r1.2.2.2.2.length : Int) then (impl_ExpRules.l6 k ((r1.2.2.2.2.length - 2 : Nat) : Int) (0 : Int) r1.2.2.2.2 ((2 : Nat) : Int) (r1.2.2.2.2.getD 1 zTExpForm).vKids []) else none) else none) else none)))
def impl_ExpRules.f (k : Nat) (x0 : TExpForm) : Option (Bool × (List TExpForm) × (List TExpRule)) := ((impl_ExpFormOk.f k (eTExpForm x0)).bind fun r1 => (if (¬ r1 = true) then (impl_ExpRules.j2 k true x0.vSort x0.vText x0.vScopes x0.vFrom x0.vKids) else (if (¬ x0.vSort = (3 : Int)) then (impl_ExpRules.j2 k true x0.vSort x0.vText x0.vScopes x0.vFrom x0.vKids) else (if ((x0.vKids.length : Int) < (2 : Int)) then (impl_ExpRules.j2 k true x0.vSort x0.vText x0.vScopes x0.vFrom x0.vKids) else (if (0 : Int) < (x0.vKids.length : Int) then ((impl_expIs.f k (eTExpForm (rdAt zTExpForm x0.vKids (0 : Int))) (ByteArray.mk #[115, 121, 110, 116, 97, 120, 45, 114, 117, 108, 101, 115])).bind fun r2 => (if (¬ r2 = true) then (impl_ExpRules.j2 k true x0.vSort x0.vText x0.vScopes x0.vFrom x0.vKids) else (if (1 : Int) < (x0.vKids.length : Int) then (if (¬ (rdAt zTExpForm x0.vKids (1 : Int)).vSort = (3 : Int)) then (impl_ExpRules.j2 k true x0.vSort x0.vText x0.vScopes x0.vFrom x0.vKids) else (if (1 : Int) < (x0.vKids.length : Int) then ((impl_expLiterals.f k (rdAt zTExpForm x0.vKids (1 : Int)).vKids).bind fun r3 => (impl_ExpRules.j2 k (decide (¬ r3 = true)) x0.vSort x0.vText x0.vScopes x0.vFrom x0.vKids)) else none)) else none))) else none)))))
def laws_eqIntS.l4 : Nat → (List Int) → (List Int) → Int → Option (Bool)
 | 0, _, _, _ => none
 | k + 1, x0, x1, x5 => (if (x5 < (x0.length : Int)) then (if (0 : Int) ≤ x5 then (if x5 < (x0.length : Int) then (if (0 : Int) ≤ x5 then (if x5 < (x1.length : Int) then (if (¬ (rdAt (0 : Int) x0 x5) = (rdAt (0 : Int) x1 x5)) then (some false) else (laws_eqIntS.l4 k x0 x1 (i64.wrap (x5 + (1 : Int))))) else none) else none) else none) else none) else (some true))
def laws_eqIntS.f (k : Nat) (x0 : (List Int)) (x1 : (List Int)) : Option (Bool) := (if (¬ (x0.length : Int) = (x1.length : Int)) then (some false) else (laws_eqIntS.l4 k x0 x1 (0 : Int)))
mutual
def laws_eqExpFormS.f : Nat → (List TExpForm) → (List TExpForm) → Option (Bool)
 | 0, _, _ => none
 | k + 1, x0, x1 => (if (¬ (x0.length : Int) = (x1.length : Int)) then (some false) else (laws_eqExpFormS.l4 k x0 x1 (0 : Int)))
def laws_eqExpFormS.l4 : Nat → (List TExpForm) → (List TExpForm) → Int → Option (Bool)
 | 0, _, _, _ => none
 | k + 1, x0, x1, x5 => (if (x5 < (x0.length : Int)) then (if (0 : Int) ≤ x5 then (if x5 < (x0.length : Int) then (if (0 : Int) ≤ x5 then (if x5 < (x1.length : Int) then ((laws_eqExpForm.f k (eTExpForm (rdAt zTExpForm x0 x5)) (eTExpForm (rdAt zTExpForm x1 x5))).bind fun r1 => (if (¬ r1 = true) then (some false) else (laws_eqExpFormS.l4 k x0 x1 (i64.wrap (x5 + (1 : Int)))))) else none) else none) else none) else none) else (some true))
def laws_eqExpForm.f : Nat → TExpForm → TExpForm → Option (Bool)
 | 0, _, _ => none
 | k + 1, x0, x1 => (if (¬ x0.vSort = x1.vSort) then (some false) else (if (¬ x0.vText.toList = x1.vText.toList) then (some false) else ((laws_eqIntS.f k x0.vScopes x1.vScopes).bind fun r1 => (if (¬ r1 = true) then (some false) else (if (¬ x0.vFrom = x1.vFrom) then (some false) else ((laws_eqExpFormS.f k x0.vKids x1.vKids).bind fun r2 => (if (¬ r2 = true) then (some false) else (some true))))))))
end
def laws_eqExpRule.f (k : Nat) (x0 : TExpRule) (x1 : TExpRule) : Option (Bool) := ((laws_eqExpForm.f k (eTExpForm x0.vPattern) (eTExpForm x1.vPattern)).bind fun r1 => (if (¬ r1 = true) then (some false) else ((laws_eqExpForm.f k (eTExpForm x0.vTemplate) (eTExpForm x1.vTemplate)).bind fun r2 => (if (¬ r2 = true) then (some false) else (some true)))))
def laws_eqExpRuleS.l4 : Nat → (List TExpRule) → (List TExpRule) → Int → Option (Bool)
 | 0, _, _, _ => none
 | k + 1, x0, x1, x5 => (if (x5 < (x0.length : Int)) then (if (0 : Int) ≤ x5 then (if x5 < (x0.length : Int) then (if (0 : Int) ≤ x5 then (if x5 < (x1.length : Int) then ((laws_eqExpRule.f k (TExpRule.mk (eTExpForm (rdAt zTExpRule x0 x5).vPattern) (eTExpForm (rdAt zTExpRule x0 x5).vTemplate)) (TExpRule.mk (eTExpForm (rdAt zTExpRule x1 x5).vPattern) (eTExpForm (rdAt zTExpRule x1 x5).vTemplate))).bind fun r1 => (if (¬ r1 = true) then (some false) else (laws_eqExpRuleS.l4 k x0 x1 (i64.wrap (x5 + (1 : Int)))))) else none) else none) else none) else none) else (some true))
def laws_eqExpRuleS.f (k : Nat) (x0 : (List TExpRule)) (x1 : (List TExpRule)) : Option (Bool) := (if (¬ (x0.length : Int) = (x1.length : Int)) then (some false) else (laws_eqExpRuleS.l4 k x0 x1 (0 : Int)))
def laws_eqExpMacro.f (k : Nat) (x0 : TExpMacro) (x1 : TExpMacro) : Option (Bool) := ((laws_eqExpFormS.f k x0.vLiterals x1.vLiterals).bind fun r1 => (if (¬ r1 = true) then (some false) else ((laws_eqExpRuleS.f k x0.vRules x1.vRules).bind fun r2 => (if (¬ r2 = true) then (some false) else (some true)))))
def laws_markIntS.j6 (k : Nat) (x1 : Int) (a0 : (List Int)) : Option (Int × (List Int)) := (some (x1, a0))
def laws_markIntS.j3b (k : Nat) (L_laws_markIntS_l2 : Int → Int → (List Int) → Option (Int × (List Int))) (x1 : Int) (x5 : Int) (a0 : (List Int)) : Option (Int × (List Int)) := (L_laws_markIntS_l2 x1 (i64.wrap (x5 + (1 : Int))) a0)
def laws_markIntS.j5b (k : Nat) (L_laws_markIntS_l2 : Int → Int → (List Int) → Option (Int × (List Int))) (x1 : Int) (x5 : Int) (a0 : (List Int)) : Option (Int × (List Int)) := (laws_markIntS.j3b k L_laws_markIntS_l2 (i64.wrap (x1 + (1 : Int))) x5 a0)
def laws_markIntS.j4b (k : Nat) (L_laws_markIntS_l2 : Int → Int → (List Int) → Option (Int × (List Int))) (x1 : Int) (x5 : Int) (a0 : (List Int)) : Option (Int × (List Int)) := (if (0 : Int) ≤ x5 then (if x5 < (a0.length : Int) then (laws_markIntS.j5b k L_laws_markIntS_l2 x1 x5 (a0.set (x5.toNat) x1)) else none) else none)
def laws_markIntS.l2 : Nat → Int → Int → (List Int) → Option (Int × (List Int))
 | 0, _, _, _ => none
 | k + 1, x1, x5, a0 => (if (x5 < (a0.length : Int)) then (laws_markIntS.j4b k (laws_markIntS.l2 k) x1 x5 a0) else (laws_markIntS.j6 k x1 a0))
def laws_markIntS.j4 (k : Nat) (x1 : Int) (x5 : Int) (a0 : (List Int)) : Option (Int × (List Int)) := laws_markIntS.j4b k (laws_markIntS.l2 k) x1 x5 a0
def laws_markIntS.j3 (k : Nat) (x1 : Int) (x5 : Int) (a0 : (List Int)) : Option (Int × (List Int)) := laws_markIntS.j3b k (laws_markIntS.l2 k) x1 x5 a0
def laws_markIntS.j5 (k : Nat) (x1 : Int) (x5 : Int) (a0 : (List Int)) : Option (Int × (List Int)) := laws_markIntS.j5b k (laws_markIntS.l2 k) x1 x5 a0
def laws_markIntS.j2 (k : Nat) (x1 : Int) (x5 : Int) (a0 : (List Int)) : Option (Int × (List Int)) := (laws_markIntS.l2 k x1 x5 a0)
def laws_markIntS.j1 (k : Nat) (x1 : Int) (a0 : (List Int)) : Option (Int × (List Int)) := (laws_markIntS.j2 k x1 (0 : Int) a0)
def laws_markIntS.f (k : Nat) (x1 : Int) (a0 : (List Int)) : Option (Int × (List Int)) := (laws_markIntS.j1 k x1 a0)
def laws_markText.l4 : Nat → Int → ByteArray → Option (ByteArray)
 | 0, _, _ => none
 | k + 1, x0, x3 => (if ((0 : Int) < x0) then (if (strOf [(u8.wrap (i64.wrap ((48 : Int) + (x0.tmod (10 : Int)))))]).size + x3.size ≤ 9223372036854775807 then (laws_markText.l4 k (i64.wrap (x0.tdiv (10 : Int))) ((strOf [(u8.wrap (i64.wrap ((48 : Int) + (x0.tmod (10 : Int)))))]) ++ x3)) else none) else (if (ByteArray.mk #[109]).size + x3.size ≤ 9223372036854775807 then (some ((ByteArray.mk #[109]) ++ x3)) else none))
def laws_markText.f (k : Nat) (x0 : Int) : Option (ByteArray) := (if (x0 ≤ (0 : Int)) then (some (ByteArray.mk #[109, 48])) else (laws_markText.l4 k x0 (ByteArray.mk #[])))
def laws_markExpFormS.j12 (k : Nat) (x1 : Int) (a0 : (List TExpForm)) : Option (Int × (List TExpForm)) := (some (x1, a0))
def laws_markExpFormS.j2b (k : Nat) (L_laws_markExpFormS_f : Int → (List TExpForm) → Option (Int × (List TExpForm))) (L_laws_markExpFormS_l2 : Int → Int → (List TExpForm) → Option (Int × (List TExpForm))) (x1 : Int) (x5 : Int) (a0 : (List TExpForm)) : Option (Int × (List TExpForm)) := (L_laws_markExpFormS_l2 x1 x5 a0)
def laws_markExpFormS.j1b (k : Nat) (L_laws_markExpFormS_f : Int → (List TExpForm) → Option (Int × (List TExpForm))) (L_laws_markExpFormS_l2 : Int → Int → (List TExpForm) → Option (Int × (List TExpForm))) (x1 : Int) (a0 : (List TExpForm)) : Option (Int × (List TExpForm)) := (laws_markExpFormS.j2b k L_laws_markExpFormS_f L_laws_markExpFormS_l2 x1 (0 : Int) a0)
def laws_markExpFormS.j3b (k : Nat) (L_laws_markExpFormS_f : Int → (List TExpForm) → Option (Int × (List TExpForm))) (L_laws_markExpFormS_l2 : Int → Int → (List TExpForm) → Option (Int × (List TExpForm))) (x1 : Int) (x5 : Int) (a0 : (List TExpForm)) : Option (Int × (List TExpForm)) := (L_laws_markExpFormS_l2 x1 (i64.wrap (x5 + (1 : Int))) a0)
def laws_markExpFormS.j11b (k : Nat) (L_laws_markExpFormS_f : Int → (List TExpForm) → Option (Int × (List TExpForm))) (L_laws_markExpFormS_l2 : Int → Int → (List TExpForm) → Option (Int × (List TExpForm))) (x1 : Int) (x5 : Int) (a0 : (List TExpForm)) : Option (Int × (List TExpForm)) := (if (0 : Int) ≤ x5 then (if x5 < (a0.length : Int) then ((L_laws_markExpFormS_f x1 (a0.getD (x5.toNat) zTExpForm).vKids).bind fun r1 => (laws_markExpFormS.j3b k L_laws_markExpFormS_f L_laws_markExpFormS_l2 r1.1 x5 (a0.set (x5.toNat) (TExpForm.mk (a0.getD (x5.toNat) zTExpForm).vSort (a0.getD (x5.toNat) zTExpForm).vText (a0.getD (x5.toNat) zTExpForm).vScopes (a0.getD (x5.toNat) zTExpForm).vFrom r1.2)))) else none) else none)
def laws_markExpFormS.j10b (k : Nat) (L_laws_markExpFormS_f : Int → (List TExpForm) → Option (Int × (List TExpForm))) (L_laws_markExpFormS_l2 : Int → Int → (List TExpForm) → Option (Int × (List TExpForm))) (x1 : Int) (x5 : Int) (a0 : (List TExpForm)) : Option (Int × (List TExpForm)) := (laws_markExpFormS.j11b k L_laws_markExpFormS_f L_laws_markExpFormS_l2 (i64.wrap (x1 + (1 : Int))) x5 a0)
def laws_markExpFormS.j9b (k : Nat) (L_laws_markExpFormS_f : Int → (List TExpForm) → Option (Int × (List TExpForm))) (L_laws_markExpFormS_l2 : Int → Int → (List TExpForm) → Option (Int × (List TExpForm))) (x1 : Int) (x5 : Int) (a0 : (List TExpForm)) : Option (Int × (List TExpForm)) := (if (0 : Int) ≤ x5 then (if x5 < (a0.length : Int) then (laws_markExpFormS.j10b k L_laws_markExpFormS_f L_laws_markExpFormS_l2 x1 x5 (a0.set (x5.toNat) (TExpForm.mk (a0.getD (x5.toNat) zTExpForm).vSort (a0.getD (x5.toNat) zTExpForm).vText (a0.getD (x5.toNat) zTExpForm).vScopes x1 (a0.getD (x5.toNat) zTExpForm).vKids))) else none) else none)
def laws_markExpFormS.j8b (k : Nat) (L_laws_markExpFormS_f : Int → (List TExpForm) → Option (Int × (List TExpForm))) (L_laws_markExpFormS_l2 : Int → Int → (List TExpForm) → Option (Int × (List TExpForm))) (x1 : Int) (x5 : Int) (a0 : (List TExpForm)) : Option (Int × (List TExpForm)) := (if (0 : Int) ≤ x5 then (if x5 < (a0.length : Int) then ((laws_markIntS.f k x1 (a0.getD (x5.toNat) zTExpForm).vScopes).bind fun r1 => (laws_markExpFormS.j9b k L_laws_markExpFormS_f L_laws_markExpFormS_l2 r1.1 x5 (a0.set (x5.toNat) (TExpForm.mk (a0.getD (x5.toNat) zTExpForm).vSort (a0.getD (x5.toNat) zTExpForm).vText r1.2 (a0.getD (x5.toNat) zTExpForm).vFrom (a0.getD (x5.toNat) zTExpForm).vKids)))) else none) else none)
def laws_markExpFormS.j7b (k : Nat) (L_laws_markExpFormS_f : Int → (List TExpForm) → Option (Int × (List TExpForm))) (L_laws_markExpFormS_l2 : Int → Int → (List TExpForm) → Option (Int × (List TExpForm))) (x1 : Int) (x5 : Int) (a0 : (List TExpForm)) : Option (Int × (List TExpForm)) := (laws_markExpFormS.j8b k L_laws_markExpFormS_f L_laws_markExpFormS_l2 (i64.wrap (x1 + (1 : Int))) x5 a0)
def laws_markExpFormS.j6b (k : Nat) (L_laws_markExpFormS_f : Int → (List TExpForm) → Option (Int × (List TExpForm))) (L_laws_markExpFormS_l2 : Int → Int → (List TExpForm) → Option (Int × (List TExpForm))) (x1 : Int) (x5 : Int) (a0 : (List TExpForm)) : Option (Int × (List TExpForm)) := ((laws_markText.f k x1).bind fun r1 => (if (0 : Int) ≤ x5 then (if x5 < (a0.length : Int) then (laws_markExpFormS.j7b k L_laws_markExpFormS_f L_laws_markExpFormS_l2 x1 x5 (a0.set (x5.toNat) (TExpForm.mk (a0.getD (x5.toNat) zTExpForm).vSort r1 (a0.getD (x5.toNat) zTExpForm).vScopes (a0.getD (x5.toNat) zTExpForm).vFrom (a0.getD (x5.toNat) zTExpForm).vKids))) else none) else none))
def laws_markExpFormS.j5b (k : Nat) (L_laws_markExpFormS_f : Int → (List TExpForm) → Option (Int × (List TExpForm))) (L_laws_markExpFormS_l2 : Int → Int → (List TExpForm) → Option (Int × (List TExpForm))) (x1 : Int) (x5 : Int) (a0 : (List TExpForm)) : Option (Int × (List TExpForm)) := (laws_markExpFormS.j6b k L_laws_markExpFormS_f L_laws_markExpFormS_l2 (i64.wrap (x1 + (1 : Int))) x5 a0)
def laws_markExpFormS.j4b (k : Nat) (L_laws_markExpFormS_f : Int → (List TExpForm) → Option (Int × (List TExpForm))) (L_laws_markExpFormS_l2 : Int → Int → (List TExpForm) → Option (Int × (List TExpForm))) (x1 : Int) (x5 : Int) (a0 : (List TExpForm)) : Option (Int × (List TExpForm)) := (if (0 : Int) ≤ x5 then (if x5 < (a0.length : Int) then (laws_markExpFormS.j5b k L_laws_markExpFormS_f L_laws_markExpFormS_l2 x1 x5 (a0.set (x5.toNat) (TExpForm.mk x1 (a0.getD (x5.toNat) zTExpForm).vText (a0.getD (x5.toNat) zTExpForm).vScopes (a0.getD (x5.toNat) zTExpForm).vFrom (a0.getD (x5.toNat) zTExpForm).vKids))) else none) else none)
mutual
def laws_markExpFormS.f : Nat → Int → (List TExpForm) → Option (Int × (List TExpForm))
 | 0, _, _ => none
 | k + 1, x1, a0 => (laws_markExpFormS.j1b k (laws_markExpFormS.f k) (laws_markExpFormS.l2 k) x1 a0)
def laws_markExpFormS.l2 : Nat → Int → Int → (List TExpForm) → Option (Int × (List TExpForm))
 | 0, _, _, _ => none
 | k + 1, x1, x5, a0 => (if (x5 < (a0.length : Int)) then (laws_markExpFormS.j4b k (laws_markExpFormS.f k) (laws_markExpFormS.l2 k) x1 x5 a0) else (laws_markExpFormS.j12 k x1 a0))
end
def laws_markExpFormS.j1 (k : Nat) (x1 : Int) (a0 : (List TExpForm)) : Option (Int × (List TExpForm)) := laws_markExpFormS.j1b k (laws_markExpFormS.f k) (laws_markExpFormS.l2 k) x1 a0
def laws_markExpFormS.j2 (k : Nat) (x1 : Int) (x5 : Int) (a0 : (List TExpForm)) : Option (Int × (List TExpForm)) := laws_markExpFormS.j2b k (laws_markExpFormS.f k) (laws_markExpFormS.l2 k) x1 x5 a0
def laws_markExpFormS.j4 (k : Nat) (x1 : Int) (x5 : Int) (a0 : (List TExpForm)) : Option (Int × (List TExpForm)) := laws_markExpFormS.j4b k (laws_markExpFormS.f k) (laws_markExpFormS.l2 k) x1 x5 a0
def laws_markExpFormS.j3 (k : Nat) (x1 : Int) (x5 : Int) (a0 : (List TExpForm)) : Option (Int × (List TExpForm)) := laws_markExpFormS.j3b k (laws_markExpFormS.f k) (laws_markExpFormS.l2 k) x1 x5 a0
def laws_markExpFormS.j5 (k : Nat) (x1 : Int) (x5 : Int) (a0 : (List TExpForm)) : Option (Int × (List TExpForm)) := laws_markExpFormS.j5b k (laws_markExpFormS.f k) (laws_markExpFormS.l2 k) x1 x5 a0
def laws_markExpFormS.j6 (k : Nat) (x1 : Int) (x5 : Int) (a0 : (List TExpForm)) : Option (Int × (List TExpForm)) := laws_markExpFormS.j6b k (laws_markExpFormS.f k) (laws_markExpFormS.l2 k) x1 x5 a0
def laws_markExpFormS.j7 (k : Nat) (x1 : Int) (x5 : Int) (a0 : (List TExpForm)) : Option (Int × (List TExpForm)) := laws_markExpFormS.j7b k (laws_markExpFormS.f k) (laws_markExpFormS.l2 k) x1 x5 a0
def laws_markExpFormS.j8 (k : Nat) (x1 : Int) (x5 : Int) (a0 : (List TExpForm)) : Option (Int × (List TExpForm)) := laws_markExpFormS.j8b k (laws_markExpFormS.f k) (laws_markExpFormS.l2 k) x1 x5 a0
def laws_markExpFormS.j9 (k : Nat) (x1 : Int) (x5 : Int) (a0 : (List TExpForm)) : Option (Int × (List TExpForm)) := laws_markExpFormS.j9b k (laws_markExpFormS.f k) (laws_markExpFormS.l2 k) x1 x5 a0
def laws_markExpFormS.j10 (k : Nat) (x1 : Int) (x5 : Int) (a0 : (List TExpForm)) : Option (Int × (List TExpForm)) := laws_markExpFormS.j10b k (laws_markExpFormS.f k) (laws_markExpFormS.l2 k) x1 x5 a0
def laws_markExpFormS.j11 (k : Nat) (x1 : Int) (x5 : Int) (a0 : (List TExpForm)) : Option (Int × (List TExpForm)) := laws_markExpFormS.j11b k (laws_markExpFormS.f k) (laws_markExpFormS.l2 k) x1 x5 a0
def laws_markExpForm.j3 (k : Nat) (x1 : Int) (a0 : (List Int)) (a1 : (List TExpForm)) : Option (Int × (List Int) × (List TExpForm)) := (some (x1, a0, a1))
def laws_markExpForm.j2 (k : Nat) (x1 : Int) (a0 : (List Int)) (a1 : (List TExpForm)) : Option (Int × (List Int) × (List TExpForm)) := ((laws_markExpFormS.f k x1 a1).bind fun r1 => (laws_markExpForm.j3 k r1.1 a0 r1.2))
def laws_markExpForm.j1 (k : Nat) (x1 : Int) (a0 : (List Int)) (a1 : (List TExpForm)) : Option (Int × (List Int) × (List TExpForm)) := ((laws_markIntS.f k x1 a0).bind fun r1 => (laws_markExpForm.j2 k r1.1 r1.2 a1))
def laws_markExpForm.f (k : Nat) (x0_0 : Int) (x0_1 : ByteArray) (x0_3 : Int) (x1 : Int) (a0 : (List Int)) (a1 : (List TExpForm)) : Option (Int × (List Int) × (List TExpForm)) := (laws_markExpForm.j1 k x1 a0 a1)
def laws_markExpRuleS.j20 (k : Nat) (x1 : Int) (a0 : (List TExpRule)) : Option (Int × (List TExpRule)) := (some (x1, a0))
def laws_markExpRuleS.j3b (k : Nat) (L_laws_markExpRuleS_l2 : Int → Int → (List TExpRule) → Option (Int × (List TExpRule))) (x1 : Int) (x5 : Int) (a0 : (List TExpRule)) : Option (Int × (List TExpRule)) := (L_laws_markExpRuleS_l2 x1 (i64.wrap (x5 + (1 : Int))) a0)
def laws_markExpRuleS.j19b (k : Nat) (L_laws_markExpRuleS_l2 : Int → Int → (List TExpRule) → Option (Int × (List TExpRule))) (x1 : Int) (x5 : Int) (a0 : (List TExpRule)) : Option (Int × (List TExpRule)) := (if (0 : Int) ≤ x5 then (if x5 < (a0.length : Int) then ((laws_markExpFormS.f k x1 (a0.getD (x5.toNat) zTExpRule).vTemplate.vKids).bind fun r1 => (laws_markExpRuleS.j3b k L_laws_markExpRuleS_l2 r1.1 x5 (a0.set (x5.toNat) (TExpRule.mk (eTExpForm (a0.getD (x5.toNat) zTExpRule).vPattern) (TExpForm.mk (a0.getD (x5.toNat) zTExpRule).vTemplate.vSort (a0.getD (x5.toNat) zTExpRule).vTemplate.vText (a0.getD (x5.toNat) zTExpRule).vTemplate.vScopes (a0.getD (x5.toNat) zTExpRule).vTemplate.vFrom r1.2))))) else none) else none)
def laws_markExpRuleS.j18b (k : Nat) (L_laws_markExpRuleS_l2 : Int → Int → (List TExpRule) → Option (Int × (List TExpRule))) (x1 : Int) (x5 : Int) (a0 : (List TExpRule)) : Option (Int × (List TExpRule)) := (laws_markExpRuleS.j19b k L_laws_markExpRuleS_l2 (i64.wrap (x1 + (1 : Int))) x5 a0)
def laws_markExpRuleS.j17b (k : Nat) (L_laws_markExpRuleS_l2 : Int → Int → (List TExpRule) → Option (Int × (List TExpRule))) (x1 : Int) (x5 : Int) (a0 : (List TExpRule)) : Option (Int × (List TExpRule)) := (if (0 : Int) ≤ x5 then (if x5 < (a0.length : Int) then (laws_markExpRuleS.j18b k L_laws_markExpRuleS_l2 x1 x5 (a0.set (x5.toNat) (TExpRule.mk (eTExpForm (a0.getD (x5.toNat) zTExpRule).vPattern) (TExpForm.mk (a0.getD (x5.toNat) zTExpRule).vTemplate.vSort (a0.getD (x5.toNat) zTExpRule).vTemplate.vText (a0.getD (x5.toNat) zTExpRule).vTemplate.vScopes x1 (a0.getD (x5.toNat) zTExpRule).vTemplate.vKids)))) else none) else none)
def laws_markExpRuleS.j16b (k : Nat) (L_laws_markExpRuleS_l2 : Int → Int → (List TExpRule) → Option (Int × (List TExpRule))) (x1 : Int) (x5 : Int) (a0 : (List TExpRule)) : Option (Int × (List TExpRule)) := (if (0 : Int) ≤ x5 then (if x5 < (a0.length : Int) then ((laws_markIntS.f k x1 (a0.getD (x5.toNat) zTExpRule).vTemplate.vScopes).bind fun r1 => (laws_markExpRuleS.j17b k L_laws_markExpRuleS_l2 r1.1 x5 (a0.set (x5.toNat) (TExpRule.mk (eTExpForm (a0.getD (x5.toNat) zTExpRule).vPattern) (TExpForm.mk (a0.getD (x5.toNat) zTExpRule).vTemplate.vSort (a0.getD (x5.toNat) zTExpRule).vTemplate.vText r1.2 (a0.getD (x5.toNat) zTExpRule).vTemplate.vFrom (a0.getD (x5.toNat) zTExpRule).vTemplate.vKids))))) else none) else none)
def laws_markExpRuleS.j15b (k : Nat) (L_laws_markExpRuleS_l2 : Int → Int → (List TExpRule) → Option (Int × (List TExpRule))) (x1 : Int) (x5 : Int) (a0 : (List TExpRule)) : Option (Int × (List TExpRule)) := (laws_markExpRuleS.j16b k L_laws_markExpRuleS_l2 (i64.wrap (x1 + (1 : Int))) x5 a0)
def laws_markExpRuleS.j14b (k : Nat) (L_laws_markExpRuleS_l2 : Int → Int → (List TExpRule) → Option (Int × (List TExpRule))) (x1 : Int) (x5 : Int) (a0 : (List TExpRule)) : Option (Int × (List TExpRule)) := ((laws_markText.f k x1).bind fun r1 => (if (0 : Int) ≤ x5 then (if x5 < (a0.length : Int) then (laws_markExpRuleS.j15b k L_laws_markExpRuleS_l2 x1 x5 (a0.set (x5.toNat) (TExpRule.mk (eTExpForm (a0.getD (x5.toNat) zTExpRule).vPattern) (TExpForm.mk (a0.getD (x5.toNat) zTExpRule).vTemplate.vSort r1 (a0.getD (x5.toNat) zTExpRule).vTemplate.vScopes (a0.getD (x5.toNat) zTExpRule).vTemplate.vFrom (a0.getD (x5.toNat) zTExpRule).vTemplate.vKids)))) else none) else none))
def laws_markExpRuleS.j13b (k : Nat) (L_laws_markExpRuleS_l2 : Int → Int → (List TExpRule) → Option (Int × (List TExpRule))) (x1 : Int) (x5 : Int) (a0 : (List TExpRule)) : Option (Int × (List TExpRule)) := (laws_markExpRuleS.j14b k L_laws_markExpRuleS_l2 (i64.wrap (x1 + (1 : Int))) x5 a0)
def laws_markExpRuleS.j12b (k : Nat) (L_laws_markExpRuleS_l2 : Int → Int → (List TExpRule) → Option (Int × (List TExpRule))) (x1 : Int) (x5 : Int) (a0 : (List TExpRule)) : Option (Int × (List TExpRule)) := (if (0 : Int) ≤ x5 then (if x5 < (a0.length : Int) then (laws_markExpRuleS.j13b k L_laws_markExpRuleS_l2 x1 x5 (a0.set (x5.toNat) (TExpRule.mk (eTExpForm (a0.getD (x5.toNat) zTExpRule).vPattern) (TExpForm.mk x1 (a0.getD (x5.toNat) zTExpRule).vTemplate.vText (a0.getD (x5.toNat) zTExpRule).vTemplate.vScopes (a0.getD (x5.toNat) zTExpRule).vTemplate.vFrom (a0.getD (x5.toNat) zTExpRule).vTemplate.vKids)))) else none) else none)
def laws_markExpRuleS.j11b (k : Nat) (L_laws_markExpRuleS_l2 : Int → Int → (List TExpRule) → Option (Int × (List TExpRule))) (x1 : Int) (x5 : Int) (a0 : (List TExpRule)) : Option (Int × (List TExpRule)) := (if (0 : Int) ≤ x5 then (if x5 < (a0.length : Int) then ((laws_markExpFormS.f k x1 (a0.getD (x5.toNat) zTExpRule).vPattern.vKids).bind fun r1 => (laws_markExpRuleS.j12b k L_laws_markExpRuleS_l2 r1.1 x5 (a0.set (x5.toNat) (TExpRule.mk (TExpForm.mk (a0.getD (x5.toNat) zTExpRule).vPattern.vSort (a0.getD (x5.toNat) zTExpRule).vPattern.vText (a0.getD (x5.toNat) zTExpRule).vPattern.vScopes (a0.getD (x5.toNat) zTExpRule).vPattern.vFrom r1.2) (eTExpForm (a0.getD (x5.toNat) zTExpRule).vTemplate))))) else none) else none)
def laws_markExpRuleS.j10b (k : Nat) (L_laws_markExpRuleS_l2 : Int → Int → (List TExpRule) → Option (Int × (List TExpRule))) (x1 : Int) (x5 : Int) (a0 : (List TExpRule)) : Option (Int × (List TExpRule)) := (laws_markExpRuleS.j11b k L_laws_markExpRuleS_l2 (i64.wrap (x1 + (1 : Int))) x5 a0)
def laws_markExpRuleS.j9b (k : Nat) (L_laws_markExpRuleS_l2 : Int → Int → (List TExpRule) → Option (Int × (List TExpRule))) (x1 : Int) (x5 : Int) (a0 : (List TExpRule)) : Option (Int × (List TExpRule)) := (if (0 : Int) ≤ x5 then (if x5 < (a0.length : Int) then (laws_markExpRuleS.j10b k L_laws_markExpRuleS_l2 x1 x5 (a0.set (x5.toNat) (TExpRule.mk (TExpForm.mk (a0.getD (x5.toNat) zTExpRule).vPattern.vSort (a0.getD (x5.toNat) zTExpRule).vPattern.vText (a0.getD (x5.toNat) zTExpRule).vPattern.vScopes x1 (a0.getD (x5.toNat) zTExpRule).vPattern.vKids) (eTExpForm (a0.getD (x5.toNat) zTExpRule).vTemplate)))) else none) else none)
def laws_markExpRuleS.j8b (k : Nat) (L_laws_markExpRuleS_l2 : Int → Int → (List TExpRule) → Option (Int × (List TExpRule))) (x1 : Int) (x5 : Int) (a0 : (List TExpRule)) : Option (Int × (List TExpRule)) := (if (0 : Int) ≤ x5 then (if x5 < (a0.length : Int) then ((laws_markIntS.f k x1 (a0.getD (x5.toNat) zTExpRule).vPattern.vScopes).bind fun r1 => (laws_markExpRuleS.j9b k L_laws_markExpRuleS_l2 r1.1 x5 (a0.set (x5.toNat) (TExpRule.mk (TExpForm.mk (a0.getD (x5.toNat) zTExpRule).vPattern.vSort (a0.getD (x5.toNat) zTExpRule).vPattern.vText r1.2 (a0.getD (x5.toNat) zTExpRule).vPattern.vFrom (a0.getD (x5.toNat) zTExpRule).vPattern.vKids) (eTExpForm (a0.getD (x5.toNat) zTExpRule).vTemplate))))) else none) else none)
def laws_markExpRuleS.j7b (k : Nat) (L_laws_markExpRuleS_l2 : Int → Int → (List TExpRule) → Option (Int × (List TExpRule))) (x1 : Int) (x5 : Int) (a0 : (List TExpRule)) : Option (Int × (List TExpRule)) := (laws_markExpRuleS.j8b k L_laws_markExpRuleS_l2 (i64.wrap (x1 + (1 : Int))) x5 a0)
def laws_markExpRuleS.j6b (k : Nat) (L_laws_markExpRuleS_l2 : Int → Int → (List TExpRule) → Option (Int × (List TExpRule))) (x1 : Int) (x5 : Int) (a0 : (List TExpRule)) : Option (Int × (List TExpRule)) := ((laws_markText.f k x1).bind fun r1 => (if (0 : Int) ≤ x5 then (if x5 < (a0.length : Int) then (laws_markExpRuleS.j7b k L_laws_markExpRuleS_l2 x1 x5 (a0.set (x5.toNat) (TExpRule.mk (TExpForm.mk (a0.getD (x5.toNat) zTExpRule).vPattern.vSort r1 (a0.getD (x5.toNat) zTExpRule).vPattern.vScopes (a0.getD (x5.toNat) zTExpRule).vPattern.vFrom (a0.getD (x5.toNat) zTExpRule).vPattern.vKids) (eTExpForm (a0.getD (x5.toNat) zTExpRule).vTemplate)))) else none) else none))
def laws_markExpRuleS.j5b (k : Nat) (L_laws_markExpRuleS_l2 : Int → Int → (List TExpRule) → Option (Int × (List TExpRule))) (x1 : Int) (x5 : Int) (a0 : (List TExpRule)) : Option (Int × (List TExpRule)) := (laws_markExpRuleS.j6b k L_laws_markExpRuleS_l2 (i64.wrap (x1 + (1 : Int))) x5 a0)
def laws_markExpRuleS.j4b (k : Nat) (L_laws_markExpRuleS_l2 : Int → Int → (List TExpRule) → Option (Int × (List TExpRule))) (x1 : Int) (x5 : Int) (a0 : (List TExpRule)) : Option (Int × (List TExpRule)) := (if (0 : Int) ≤ x5 then (if x5 < (a0.length : Int) then (laws_markExpRuleS.j5b k L_laws_markExpRuleS_l2 x1 x5 (a0.set (x5.toNat) (TExpRule.mk (TExpForm.mk x1 (a0.getD (x5.toNat) zTExpRule).vPattern.vText (a0.getD (x5.toNat) zTExpRule).vPattern.vScopes (a0.getD (x5.toNat) zTExpRule).vPattern.vFrom (a0.getD (x5.toNat) zTExpRule).vPattern.vKids) (eTExpForm (a0.getD (x5.toNat) zTExpRule).vTemplate)))) else none) else none)
def laws_markExpRuleS.l2 : Nat → Int → Int → (List TExpRule) → Option (Int × (List TExpRule))
 | 0, _, _, _ => none
 | k + 1, x1, x5, a0 => (if (x5 < (a0.length : Int)) then (laws_markExpRuleS.j4b k (laws_markExpRuleS.l2 k) x1 x5 a0) else (laws_markExpRuleS.j20 k x1 a0))
def laws_markExpRuleS.j4 (k : Nat) (x1 : Int) (x5 : Int) (a0 : (List TExpRule)) : Option (Int × (List TExpRule)) := laws_markExpRuleS.j4b k (laws_markExpRuleS.l2 k) x1 x5 a0
def laws_markExpRuleS.j3 (k : Nat) (x1 : Int) (x5 : Int) (a0 : (List TExpRule)) : Option (Int × (List TExpRule)) := laws_markExpRuleS.j3b k (laws_markExpRuleS.l2 k) x1 x5 a0
def laws_markExpRuleS.j5 (k : Nat) (x1 : Int) (x5 : Int) (a0 : (List TExpRule)) : Option (Int × (List TExpRule)) := laws_markExpRuleS.j5b k (laws_markExpRuleS.l2 k) x1 x5 a0
def laws_markExpRuleS.j6 (k : Nat) (x1 : Int) (x5 : Int) (a0 : (List TExpRule)) : Option (Int × (List TExpRule)) := laws_markExpRuleS.j6b k (laws_markExpRuleS.l2 k) x1 x5 a0
def laws_markExpRuleS.j7 (k : Nat) (x1 : Int) (x5 : Int) (a0 : (List TExpRule)) : Option (Int × (List TExpRule)) := laws_markExpRuleS.j7b k (laws_markExpRuleS.l2 k) x1 x5 a0
def laws_markExpRuleS.j8 (k : Nat) (x1 : Int) (x5 : Int) (a0 : (List TExpRule)) : Option (Int × (List TExpRule)) := laws_markExpRuleS.j8b k (laws_markExpRuleS.l2 k) x1 x5 a0
def laws_markExpRuleS.j9 (k : Nat) (x1 : Int) (x5 : Int) (a0 : (List TExpRule)) : Option (Int × (List TExpRule)) := laws_markExpRuleS.j9b k (laws_markExpRuleS.l2 k) x1 x5 a0
def laws_markExpRuleS.j10 (k : Nat) (x1 : Int) (x5 : Int) (a0 : (List TExpRule)) : Option (Int × (List TExpRule)) := laws_markExpRuleS.j10b k (laws_markExpRuleS.l2 k) x1 x5 a0
def laws_markExpRuleS.j11 (k : Nat) (x1 : Int) (x5 : Int) (a0 : (List TExpRule)) : Option (Int × (List TExpRule)) := laws_markExpRuleS.j11b k (laws_markExpRuleS.l2 k) x1 x5 a0
def laws_markExpRuleS.j12 (k : Nat) (x1 : Int) (x5 : Int) (a0 : (List TExpRule)) : Option (Int × (List TExpRule)) := laws_markExpRuleS.j12b k (laws_markExpRuleS.l2 k) x1 x5 a0
def laws_markExpRuleS.j13 (k : Nat) (x1 : Int) (x5 : Int) (a0 : (List TExpRule)) : Option (Int × (List TExpRule)) := laws_markExpRuleS.j13b k (laws_markExpRuleS.l2 k) x1 x5 a0
def laws_markExpRuleS.j14 (k : Nat) (x1 : Int) (x5 : Int) (a0 : (List TExpRule)) : Option (Int × (List TExpRule)) := laws_markExpRuleS.j14b k (laws_markExpRuleS.l2 k) x1 x5 a0
def laws_markExpRuleS.j15 (k : Nat) (x1 : Int) (x5 : Int) (a0 : (List TExpRule)) : Option (Int × (List TExpRule)) := laws_markExpRuleS.j15b k (laws_markExpRuleS.l2 k) x1 x5 a0
def laws_markExpRuleS.j16 (k : Nat) (x1 : Int) (x5 : Int) (a0 : (List TExpRule)) : Option (Int × (List TExpRule)) := laws_markExpRuleS.j16b k (laws_markExpRuleS.l2 k) x1 x5 a0
def laws_markExpRuleS.j17 (k : Nat) (x1 : Int) (x5 : Int) (a0 : (List TExpRule)) : Option (Int × (List TExpRule)) := laws_markExpRuleS.j17b k (laws_markExpRuleS.l2 k) x1 x5 a0
def laws_markExpRuleS.j18 (k : Nat) (x1 : Int) (x5 : Int) (a0 : (List TExpRule)) : Option (Int × (List TExpRule)) := laws_markExpRuleS.j18b k (laws_markExpRuleS.l2 k) x1 x5 a0
def laws_markExpRuleS.j19 (k : Nat) (x1 : Int) (x5 : Int) (a0 : (List TExpRule)) : Option (Int × (List TExpRule)) := laws_markExpRuleS.j19b k (laws_markExpRuleS.l2 k) x1 x5 a0
def laws_markExpRuleS.j2 (k : Nat) (x1 : Int) (x5 : Int) (a0 : (List TExpRule)) : Option (Int × (List TExpRule)) := (laws_markExpRuleS.l2 k x1 x5 a0)
def laws_markExpRuleS.j1 (k : Nat) (x1 : Int) (a0 : (List TExpRule)) : Option (Int × (List TExpRule)) := (laws_markExpRuleS.j2 k x1 (0 : Int) a0)
def laws_markExpRuleS.f (k : Nat) (x1 : Int) (a0 : (List TExpRule)) : Option (Int × (List TExpRule)) := (laws_markExpRuleS.j1 k x1 a0)
def laws_markExpMacro.j3 (k : Nat) (x1 : Int) (a0 : (List TExpForm)) (a1 : (List TExpRule)) : Option (Int × (List TExpForm) × (List TExpRule)) := (some (x1, a0, a1))
def laws_markExpMacro.j2 (k : Nat) (x1 : Int) (a0 : (List TExpForm)) (a1 : (List TExpRule)) : Option (Int × (List TExpForm) × (List TExpRule)) := ((laws_markExpRuleS.f k x1 a1).bind fun r1 => (laws_markExpMacro.j3 k r1.1 a0 r1.2))
def laws_markExpMacro.j1 (k : Nat) (x1 : Int) (a0 : (List TExpForm)) (a1 : (List TExpRule)) : Option (Int × (List TExpForm) × (List TExpRule)) := ((laws_markExpFormS.f k x1 a0).bind fun r1 => (laws_markExpMacro.j2 k r1.1 r1.2 a1))
def laws_markExpMacro.f (k : Nat) (x1 : Int) (a0 : (List TExpForm)) (a1 : (List TExpRule)) : Option (Int × (List TExpForm) × (List TExpRule)) := (laws_markExpMacro.j1 k x1 a0 a1)
def laws_heldIntS.l2 : Nat → (List Int) → Int → Int → Option (Int)
 | 0, _, _, _ => none
 | k + 1, x0, x1, x5 => (if (x5 < (x0.length : Int)) then (if (0 : Int) ≤ x5 then (if x5 < (x0.length : Int) then (if (¬ (rdAt (0 : Int) x0 x5) = x1) then (some (-1 : Int)) else (laws_heldIntS.l2 k x0 (i64.wrap (x1 + (1 : Int))) (i64.wrap (x5 + (1 : Int))))) else none) else none) else (some x1))
def laws_heldIntS.f (k : Nat) (x0 : (List Int)) (x1 : Int) : Option (Int) := (laws_heldIntS.l2 k x0 x1 (0 : Int))
def laws_heldExpFormS.d7b (k : Nat) (L_laws_heldExpFormS_f : (List TExpForm) → Int → Option (Int)) (L_laws_heldExpFormS_l2 : (List TExpForm) → Int → Int → Option (Int)) (x0 : (List TExpForm)) (x1 : Int) (x5 : Int) : Option (Int) := (if (0 : Int) ≤ x5 then (if x5 < (x0.length : Int) then ((laws_markText.f k x1).bind fun r1 => (if (¬ (rdAt zTExpForm x0 x5).vText.toList = r1.toList) then (some (-1 : Int)) else (if (0 : Int) ≤ x5 then (if x5 < (x0.length : Int) then ((laws_heldIntS.f k (rdAt zTExpForm x0 x5).vScopes (i64.wrap (x1 + (1 : Int)))).bind fun r2 => (if (r2 < (0 : Int)) then (some (-1 : Int)) else (if (0 : Int) ≤ x5 then (if x5 < (x0.length : Int) then (if (¬ (rdAt zTExpForm x0 x5).vFrom = r2) then (some (-1 : Int)) else (if (0 : Int) ≤ x5 then (if x5 < (x0.length : Int) then ((L_laws_heldExpFormS_f (rdAt zTExpForm x0 x5).vKids (i64.wrap (r2 + (1 : Int)))).bind fun r3 => (if (r3 < (0 : Int)) then (some (-1 : Int)) else (L_laws_heldExpFormS_l2 x0 r3 (i64.wrap (x5 + (1 : Int)))))) else none) else none)) else none) else none))) else none) else none))) else none) else none)
mutual
def laws_heldExpFormS.f : Nat → (List TExpForm) → Int → Option (Int)
 | 0, _, _ => none
 | k + 1, x0, x1 => (laws_heldExpFormS.l2 k x0 x1 (0 : Int))
def laws_heldExpFormS.l2 : Nat → (List TExpForm) → Int → Int → Option (Int)
 | 0, _, _, _ => none
 | k + 1, x0, x1, x5 => (if (x5 < (x0.length : Int)) then (if (0 : Int) ≤ x5 then (if x5 < (x0.length : Int) then (if (¬ (rdAt zTExpForm x0 x5).vSort = x1) then (some (-1 : Int)) else (laws_heldExpFormS.d7b k (laws_heldExpFormS.f k) (laws_heldExpFormS.l2 k) x0 (i64.wrap (x1 + (1 : Int))) x5)) else none) else none) else (some x1))
end
def laws_heldExpFormS.d7 (k : Nat) (x0 : (List TExpForm)) (x1 : Int) (x5 : Int) : Option (Int) := laws_heldExpFormS.d7b k (laws_heldExpFormS.f k) (laws_heldExpFormS.l2 k) x0 x1 x5
def laws_heldExpRuleS.d22b (k : Nat) (L_laws_heldExpRuleS_l2 : (List TExpRule) → Int → Int → Option (Int)) (x0 : (List TExpRule)) (x1 : Int) (x5 : Int) : Option (Int) := (if (0 : Int) ≤ x5 then (if x5 < (x0.length : Int) then ((laws_markText.f k x1).bind fun r1 => (if (¬ (rdAt zTExpRule x0 x5).vTemplate.vText.toList = r1.toList) then (some (-1 : Int)) else (if (0 : Int) ≤ x5 then (if x5 < (x0.length : Int) then ((laws_heldIntS.f k (rdAt zTExpRule x0 x5).vTemplate.vScopes (i64.wrap (x1 + (1 : Int)))).bind fun r2 => (if (r2 < (0 : Int)) then (some (-1 : Int)) else (if (0 : Int) ≤ x5 then (if x5 < (x0.length : Int) then (if (¬ (rdAt zTExpRule x0 x5).vTemplate.vFrom = r2) then (some (-1 : Int)) else (if (0 : Int) ≤ x5 then (if x5 < (x0.length : Int) then ((laws_heldExpFormS.f k (rdAt zTExpRule x0 x5).vTemplate.vKids (i64.wrap (r2 + (1 : Int)))).bind fun r3 => (if (r3 < (0 : Int)) then (some (-1 : Int)) else (L_laws_heldExpRuleS_l2 x0 r3 (i64.wrap (x5 + (1 : Int)))))) else none) else none)) else none) else none))) else none) else none))) else none) else none)
def laws_heldExpRuleS.d7b (k : Nat) (L_laws_heldExpRuleS_l2 : (List TExpRule) → Int → Int → Option (Int)) (x0 : (List TExpRule)) (x1 : Int) (x5 : Int) : Option (Int) := (if (0 : Int) ≤ x5 then (if x5 < (x0.length : Int) then ((laws_markText.f k x1).bind fun r1 => (if (¬ (rdAt zTExpRule x0 x5).vPattern.vText.toList = r1.toList) then (some (-1 : Int)) else (if (0 : Int) ≤ x5 then (if x5 < (x0.length : Int) then ((laws_heldIntS.f k (rdAt zTExpRule x0 x5).vPattern.vScopes (i64.wrap (x1 + (1 : Int)))).bind fun r2 => (if (r2 < (0 : Int)) then (some (-1 : Int)) else (if (0 : Int) ≤ x5 then (if x5 < (x0.length : Int) then (if (¬ (rdAt zTExpRule x0 x5).vPattern.vFrom = r2) then (some (-1 : Int)) else (if (0 : Int) ≤ x5 then (if x5 < (x0.length : Int) then ((laws_heldExpFormS.f k (rdAt zTExpRule x0 x5).vPattern.vKids (i64.wrap (r2 + (1 : Int)))).bind fun r3 => (if (r3 < (0 : Int)) then (some (-1 : Int)) else (if (0 : Int) ≤ x5 then (if x5 < (x0.length : Int) then (if (¬ (rdAt zTExpRule x0 x5).vTemplate.vSort = r3) then (some (-1 : Int)) else (laws_heldExpRuleS.d22b k L_laws_heldExpRuleS_l2 x0 (i64.wrap (r3 + (1 : Int))) x5)) else none) else none))) else none) else none)) else none) else none))) else none) else none))) else none) else none)
def laws_heldExpRuleS.l2 : Nat → (List TExpRule) → Int → Int → Option (Int)
 | 0, _, _, _ => none
 | k + 1, x0, x1, x5 => (if (x5 < (x0.length : Int)) then (if (0 : Int) ≤ x5 then (if x5 < (x0.length : Int) then (if (¬ (rdAt zTExpRule x0 x5).vPattern.vSort = x1) then (some (-1 : Int)) else (laws_heldExpRuleS.d7b k (laws_heldExpRuleS.l2 k) x0 (i64.wrap (x1 + (1 : Int))) x5)) else none) else none) else (some x1))
def laws_heldExpRuleS.d7 (k : Nat) (x0 : (List TExpRule)) (x1 : Int) (x5 : Int) : Option (Int) := laws_heldExpRuleS.d7b k (laws_heldExpRuleS.l2 k) x0 x1 x5
def laws_heldExpRuleS.d22 (k : Nat) (x0 : (List TExpRule)) (x1 : Int) (x5 : Int) : Option (Int) := laws_heldExpRuleS.d22b k (laws_heldExpRuleS.l2 k) x0 x1 x5
def laws_heldExpRuleS.f (k : Nat) (x0 : (List TExpRule)) (x1 : Int) : Option (Int) := (laws_heldExpRuleS.l2 k x0 x1 (0 : Int))
def laws_heldExpMacro.f (k : Nat) (x0 : TExpMacro) (x1 : Int) : Option (Int) := ((laws_heldExpFormS.f k x0.vLiterals x1).bind fun r1 => (if (r1 < (0 : Int)) then (some (-1 : Int)) else ((laws_heldExpRuleS.f k x0.vRules r1).bind fun r2 => (if (r2 < (0 : Int)) then (some (-1 : Int)) else (some r2)))))
def laws_FnExactExpRules.j16 (k : Nat) (x5 : Bool) (c0_0 : Int) (c0_1 : ByteArray) (c0_2 : (List Int)) (c0_3 : Int) (c0_4 : (List Tlaws_ExpForm)) (c1_0 : (List TExpForm)) (c1_1 : (List TExpRule)) (a3 : (List TExpForm)) (a4 : (List TExpRule)) : Option (Bool) := ((laws_markExpMacro.f k (1 : Int) a3 a4).bind fun r1 => ((laws_heldExpMacro.f k (TExpMacro.mk r1.2.1 r1.2.2) (1 : Int)).bind fun r2 => (if (r2 < (0 : Int)) then (some false) else (if (¬ r2 = r1.1) then (some false) else ((laws_toExpForm.f k (Tlaws_ExpForm.mk c0_0 c0_1 c0_2 c0_3 c0_4)).bind fun r3 => ((impl_ExpRules.f k (TExpForm.mk r3.1 r3.2.1 r3.2.2.2.1 r3.2.2.1 r3.2.2.2.2)).bind fun r4 => ((laws_eqExpMacro.f k (TExpMacro.mk r4.2.1 r4.2.2) (TExpMacro.mk c1_0 c1_1)).bind fun r5 => (if (¬ r5 = true) then (some false) else (if (¬ r4.1 = x5) then (some false) else ((laws_heldExpMacro.f k (TExpMacro.mk r1.2.1 r1.2.2) (1 : Int)).bind fun r6 => (if (r6 < (0 : Int)) then (some false) else (if (¬ r6 = r1.1) then (some false) else (some true)))))))))))))
def laws_FnExactExpRules.d10 (k : Nat) (x5 : Bool) (x8 : Bool) (c0_0 : Int) (c0_1 : ByteArray) (c0_2 : (List Int)) (c0_3 : Int) (c0_4 : (List Tlaws_ExpForm)) (c1_0 : (List TExpForm)) (c1_1 : (List TExpRule)) (c2_0 : Int) (c2_1 : ByteArray) (c2_3 : Int) (a4 : (List Int)) (a5 : (List TExpForm)) (a6 : (List TExpForm)) (a7 : (List TExpRule)) : Option (Bool) := ((laws_toExpForm.f k (Tlaws_ExpForm.mk c0_0 c0_1 c0_2 c0_3 c0_4)).bind fun r1 => ((laws_eqExpForm.f k (TExpForm.mk c2_0 c2_1 a4 c2_3 a5) (TExpForm.mk r1.1 r1.2.1 r1.2.2.2.1 r1.2.2.1 r1.2.2.2.2)).bind fun r2 => (if (¬ r2 = true) then (some false) else ((laws_markExpForm.f k c2_0 c2_1 c2_3 (1 : Int) a4 a5).bind fun r3 => (if (r3.1 < (0 : Int)) then (some false) else ((laws_eqExpMacro.f k (TExpMacro.mk a6 a7) (TExpMacro.mk c1_0 c1_1)).bind fun r4 => (if (¬ r4 = true) then (some false) else (if (¬ x8 = x5) then (some false) else (laws_FnExactExpRules.j16 k x5 c0_0 c0_1 c0_2 c0_3 c0_4 c1_0 c1_1 a6 a7)))))))))
def laws_FnExactExpRules.j10 (k : Nat) (x5 : Bool) (x8 : Bool) (c0_0 : Int) (c0_1 : ByteArray) (c0_2 : (List Int)) (c0_3 : Int) (c0_4 : (List Tlaws_ExpForm)) (c1_0 : (List TExpForm)) (c1_1 : (List TExpRule)) (c2_0 : Int) (c2_1 : ByteArray) (c2_3 : Int) (a4 : (List Int)) (a5 : (List TExpForm)) (a6 : (List TExpForm)) (a7 : (List TExpRule)) : Option (Bool) := (laws_FnExactExpRules.d10 k x5 x8 c0_0 c0_1 c0_2 c0_3 c0_4 c1_0 c1_1 c2_0 c2_1 c2_3 a4 a5 a6 a7)
def laws_FnExactExpRules.f (k : Nat) (x0 : Tlaws_ExpForm) : Option (Bool) := ((laws_szExpForm.f k (eTlaws_ExpForm x0) (1048576 : Int)).bind fun r1 => (if (r1 < (0 : Int)) then (some true) else ((laws_toExpForm.f k (eTlaws_ExpForm x0)).bind fun r2 => ((spec_ExpRules.f k (TExpForm.mk r2.1 r2.2.1 r2.2.2.2.1 r2.2.2.1 r2.2.2.2.2)).bind fun r3 => ((laws_toExpForm.f k (eTlaws_ExpForm x0)).bind fun r4 => ((impl_ExpRules.f k (TExpForm.mk r4.1 r4.2.1 r4.2.2.2.1 r4.2.2.1 r4.2.2.2.2)).bind fun r5 => ((laws_eqExpMacro.f k (TExpMacro.mk r5.2.1 r5.2.2) r3.1).bind fun r6 => (if (¬ r6 = true) then (some false) else (if (¬ r5.1 = r3.2) then (some false) else (laws_FnExactExpRules.j10 k r3.2 r5.1 x0.vSort x0.vText x0.vScopes x0.vFrom x0.vKids r3.1.vLiterals r3.1.vRules r4.1 r4.2.1 r4.2.2.1 r4.2.2.2.1 r4.2.2.2.2 r5.2.1 r5.2.2))))))))))
end Go.Proofs.YtmcbhnbemhfifaaDoor.RX
end
section
namespace Go.Proofs.YtmcbhnbemhfifaaDoor.RX
open Go Go.RowKit
set_option autoImplicit false
noncomputable section
def laws_szIntS.ct (k : Nat) : Ct sg := ⟨true, ⟨[(0, .one (.val (.sl 3 tI))), (1, oI)], []⟩, ⟨[(0, oI)], []⟩, [(.sl 3 tI), tI], [tI], fun h => laws_szIntS.f k h.1 h.2⟩
def laws_szIntS.d : FD sg (HL sg.S [tI]) := ⟨fun _ => [],
 [],
 [],
 [], []⟩
theorem laws_szIntS.holds (k : Nat) : (laws_szIntS.ct k).Holds Tryd.prog 32 :=
 fnOk sg.kit Tryd.f32 _ laws_szIntS.d 0 k (fun _ _ => True.intro)
def laws_szExpForm.ct (k : Nat) : Ct sg := ⟨true, ⟨[(0, .st 3), (1, oI)], []⟩, ⟨[(0, oI)], []⟩, [(.st 3), tI], [tI], fun h => laws_szExpForm.f k h.1 h.2⟩
def laws_szExpFormS.ct (k : Nat) : Ct sg := ⟨true, ⟨[(0, .one (.val (.sl 25 (.st 3)))), (1, oI)], []⟩, ⟨[(0, oI)], []⟩, [(.sl 25 (.st 3)), tI], [tI], fun h => laws_szExpFormS.f k h.1 h.2⟩
def laws_szExpForm.d : FD sg (HL sg.S [tI]) := ⟨fun k => [(15, laws_szExpFormS.ct k), (32, laws_szIntS.ct k)],
 [],
 [],
 [], []⟩
def laws_szExpFormS.d : FD sg (HL sg.S [tI]) := ⟨fun k => [(8, laws_szExpForm.ct k)],
 [(5, ⟨⟨[(0, .one (.val (.sl 25 (.st 3)))), (1, oI), (5, oI)], []⟩, [(.sl 25 (.st 3)), tI, tI], fun k h => laws_szExpFormS.l5 k h.1 h.2.1 h.2.2⟩)],
 [],
 [], []⟩
theorem laws_szExpForm.all : ∀ k : Nat, (laws_szExpForm.ct k).Holds Tryd.prog 8 ∧ (laws_szExpFormS.ct k).Holds Tryd.prog 15 :=
 recOk ⟨zeroOk, zeroOk⟩ fun k ih =>
 ⟨fnOk sg.kit Tryd.f8 _ laws_szExpForm.d 0 k (fun j hj => ⟨(ih j hj).2, laws_szIntS.holds j, True.intro⟩), fnOk sg.kit Tryd.f15 _ laws_szExpFormS.d 1 k (fun j hj => ⟨(ih j hj).1, True.intro⟩)⟩
theorem laws_szExpForm.holds (k : Nat) : (laws_szExpForm.ct k).Holds Tryd.prog 8 := (laws_szExpForm.all k).1
theorem laws_szExpFormS.holds (k : Nat) : (laws_szExpFormS.ct k).Holds Tryd.prog 15 := (laws_szExpForm.all k).2
def laws_toIntS.ct (k : Nat) : Ct sg := ⟨true, ⟨[(0, .one (.val (.sl 3 tI)))], []⟩, ⟨[(0, .one (.arr 0))], [.arr 3 tI]⟩, [(.sl 3 tI)], [(.sl 3 tI)], fun h => laws_toIntS.f k h⟩
def laws_toIntS.d : FD sg (HL sg.S [(.sl 3 tI)]) := ⟨fun _ => [],
 [(3, ⟨⟨[(0, .one (.val (.sl 3 tI))), (3, .one (.arr 0)), (4, oI)], [.arr 3 tI]⟩, [(.sl 3 tI), tI, (.sl 3 tI)], fun k h => laws_toIntS.l3 k h.1 h.2.1 h.2.2⟩)],
 [],
 [], []⟩
theorem laws_toIntS.holds (k : Nat) : (laws_toIntS.ct k).Holds Tryd.prog 34 :=
 fnOk sg.kit Tryd.f34 _ laws_toIntS.d 1 k (fun _ _ => True.intro)
def laws_toExpForm.ct (k : Nat) : Ct sg := ⟨true, ⟨[(0, .st 3)], []⟩, ⟨[(0, .agg [.val tI, .val .str, .warr 0, .val tI, .warr 1])], [.ow false false 3 tI, .ow false true 29 (.st 0)]⟩, [(.st 3)], [tI, .str, tI, (.sl 3 tI), (.sl 29 (.st 0))], fun h => laws_toExpForm.f k h⟩
def laws_toExpFormS.ct (k : Nat) : Ct sg := ⟨true, ⟨[(0, .one (.val (.sl 25 (.st 3))))], []⟩, ⟨[(0, .one (.warr 0))], [.ow false true 29 (.st 0)]⟩, [(.sl 25 (.st 3))], [(.sl 29 (.st 0))], fun h => laws_toExpFormS.f k h⟩
def laws_toExpForm.d : FD sg (HL sg.S [tI, .str, tI, (.sl 3 tI), (.sl 29 (.st 0))]) := ⟨fun k => [(17, laws_toExpFormS.ct k), (34, laws_toIntS.ct k)],
 [],
 [],
 [], []⟩
def laws_toExpFormS.d : FD sg (HL sg.S [(.sl 29 (.st 0))]) := ⟨fun k => [(10, laws_toExpForm.ct k)],
 [(3, ⟨⟨[(0, .one (.val (.sl 25 (.st 3)))), (3, .one (.arr 0)), (4, oI)], [.ow false true 29 (.st 0)]⟩, [(.sl 25 (.st 3)), tI, (.sl 29 (.st 0))], fun k h => laws_toExpFormS.l3 k h.1 h.2.1 h.2.2⟩)],
 [],
 [], [7]⟩
theorem laws_toExpForm.all : ∀ k : Nat, (laws_toExpForm.ct k).Holds Tryd.prog 10 ∧ (laws_toExpFormS.ct k).Holds Tryd.prog 17 :=
 recOk ⟨zeroOk, zeroOk⟩ fun k ih =>
 ⟨fnOk sg.kit Tryd.f10 _ laws_toExpForm.d 0 k (fun j hj => ⟨(ih j hj).2, laws_toIntS.holds j, True.intro⟩), fnOk sg.kit Tryd.f17 _ laws_toExpFormS.d 1 k (fun j hj => ⟨(ih j hj).1, True.intro⟩)⟩
theorem laws_toExpForm.holds (k : Nat) : (laws_toExpForm.ct k).Holds Tryd.prog 10 := (laws_toExpForm.all k).1
theorem laws_toExpFormS.holds (k : Nat) : (laws_toExpFormS.ct k).Holds Tryd.prog 17 := (laws_toExpForm.all k).2
def spec_l1Digits.ct (k : Nat) : Ct sg := ⟨true, ⟨[(0, oS)], []⟩, ⟨[(0, oB)], []⟩, [.str], [.bool], fun h => spec_l1Digits.f k h⟩
def spec_l1Digits.d : FD sg (HL sg.S [.bool]) := ⟨fun _ => [],
 [(2, ⟨⟨[(0, oS), (3, oI)], []⟩, [.str, tI], fun k h => spec_l1Digits.l2 k h.1 h.2⟩)],
 [],
 [], []⟩
theorem spec_l1Digits.holds (k : Nat) : (spec_l1Digits.ct k).Holds Tryd.prog 101 :=
 fnOk sg.kit Tryd.f101 _ spec_l1Digits.d 1 k (fun _ _ => True.intro)
def spec_l1AtomOk.ct (k : Nat) : Ct sg := ⟨true, ⟨[(0, oS)], []⟩, ⟨[(0, oB)], []⟩, [.str], [.bool], fun h => spec_l1AtomOk.f k h⟩
def spec_l1AtomOk.d : FD sg (HL sg.S [.bool]) := ⟨fun k => [(101, spec_l1Digits.ct k)],
 [(6, ⟨⟨[(0, oS), (3, oI)], []⟩, [.str, tI], fun k h => spec_l1AtomOk.l6 k h.1 h.2⟩)],
 [(3, ⟨⟨[(0, oS)], []⟩, [.str], fun k h => spec_l1AtomOk.j3 k h⟩),
 (5, ⟨⟨[(0, oS)], []⟩, [.str], fun k h => spec_l1AtomOk.j5 k h⟩)],
 [], []⟩
theorem spec_l1AtomOk.holds (k : Nat) : (spec_l1AtomOk.ct k).Holds Tryd.prog 88 :=
 fnOk sg.kit Tryd.f88 _ spec_l1AtomOk.d 3 k (fun j _ => ⟨spec_l1Digits.holds j, True.intro⟩)
def spec_l1Blank.ct (k : Nat) : Ct sg := ⟨true, ⟨[(0, .one (.val (.int .u8)))], []⟩, ⟨[(0, oB)], []⟩, [(.int .u8)], [.bool], fun h => spec_l1Blank.f k h⟩
def spec_l1Blank.d : FD sg (HL sg.S [.bool]) := ⟨fun _ => [],
 [],
 [],
 [], []⟩
theorem spec_l1Blank.holds (k : Nat) : (spec_l1Blank.ct k).Holds Tryd.prog 115 :=
 fnOk sg.kit Tryd.f115 _ spec_l1Blank.d 0 k (fun _ _ => True.intro)
def spec_l1Ends.ct (k : Nat) : Ct sg := ⟨true, ⟨[(0, .one (.val (.int .u8)))], []⟩, ⟨[(0, oB)], []⟩, [(.int .u8)], [.bool], fun h => spec_l1Ends.f k h⟩
def spec_l1Ends.d : FD sg (HL sg.S [.bool]) := ⟨fun k => [(115, spec_l1Blank.ct k)],
 [],
 [],
 [], []⟩
theorem spec_l1Ends.holds (k : Nat) : (spec_l1Ends.ct k).Holds Tryd.prog 100 :=
 fnOk sg.kit Tryd.f100 _ spec_l1Ends.d 0 k (fun j _ => ⟨spec_l1Blank.holds j, True.intro⟩)
def spec_l1IdOk.ct (k : Nat) : Ct sg := ⟨true, ⟨[(0, oS)], []⟩, ⟨[(0, oB)], []⟩, [.str], [.bool], fun h => spec_l1IdOk.f k h⟩
def spec_l1IdOk.d : FD sg (HL sg.S [.bool]) := ⟨fun k => [(88, spec_l1AtomOk.ct k), (100, spec_l1Ends.ct k)],
 [(4, ⟨⟨[(0, oS), (3, oI)], []⟩, [.str, tI], fun k h => spec_l1IdOk.l4 k h.1 h.2⟩)],
 [(3, ⟨⟨[(0, oS)], []⟩, [.str], fun k h => spec_l1IdOk.j3 k h⟩)],
 [], []⟩
theorem spec_l1IdOk.holds (k : Nat) : (spec_l1IdOk.ct k).Holds Tryd.prog 86 :=
 fnOk sg.kit Tryd.f86 _ spec_l1IdOk.d 2 k (fun j _ => ⟨spec_l1AtomOk.holds j, spec_l1Ends.holds j, True.intro⟩)
def spec_l1ScopesOk.ct (k : Nat) : Ct sg := ⟨true, ⟨[(0, .one (.val (.sl 3 tI)))], []⟩, ⟨[(0, oB)], []⟩, [(.sl 3 tI)], [.bool], fun h => spec_l1ScopesOk.f k h⟩
def spec_l1ScopesOk.d : FD sg (HL sg.S [.bool]) := ⟨fun _ => [],
 [(2, ⟨⟨[(0, .one (.val (.sl 3 tI))), (3, oI)], []⟩, [(.sl 3 tI), tI], fun k h => spec_l1ScopesOk.l2 k h.1 h.2⟩)],
 [],
 [(4, [[0, 1, 2, 3, 4, 5, 6, 7, 8, 9, 10, 11, 12, 13, 14, 15, 16, 17, 18, 19, 20]])], []⟩
theorem spec_l1ScopesOk.holds (k : Nat) : (spec_l1ScopesOk.ct k).Holds Tryd.prog 87 :=
 fnOk sg.kit Tryd.f87 _ spec_l1ScopesOk.d 1 k (fun _ _ => True.intro)
def spec_l1Ok.ct (k : Nat) : Ct sg := ⟨true, ⟨[(0, .st 0), (1, oI)], []⟩, ⟨[(0, oB)], []⟩, [(.st 0), tI], [.bool], fun h => spec_l1Ok.f k h.1 h.2⟩
def spec_l1Ok.d : FD sg (HL sg.S [.bool]) := ⟨fun k => [(56, spec_l1Ok.ct k), (86, spec_l1IdOk.ct k), (87, spec_l1ScopesOk.ct k), (88, spec_l1AtomOk.ct k)],
 [(14, ⟨⟨[(1, oI), (2, .one (.ptr 0 0)), (5, oI)], [.cells [] [.val tI, .any, .any, .any, .val (.sl 29 (.st 0))]]⟩, [tI, tI, tI, (.sl 29 (.st 0))], fun k h => spec_l1Ok.l14 k h.1 h.2.1 h.2.2.1 h.2.2.2⟩)],
 [(11, ⟨⟨[(1, oI), (2, .one (.ptr 0 0)), (64, oB)], [.cells [] [.val tI, .val .str, .val (.sl 3 tI), .val tI, .val (.sl 29 (.st 0))]]⟩, [tI, .bool, tI, .str, (.sl 3 tI), tI, (.sl 29 (.st 0))], fun k h => spec_l1Ok.j11 k h.1 h.2.1 h.2.2.1 h.2.2.2.1 h.2.2.2.2.1 h.2.2.2.2.2.1 h.2.2.2.2.2.2⟩),
 (13, ⟨⟨[(1, oI), (2, .one (.ptr 0 0))], [.cells [] [.val tI, .any, .any, .any, .val (.sl 29 (.st 0))]]⟩, [tI, tI, (.sl 29 (.st 0))], fun k h => spec_l1Ok.j13 k h.1 h.2.1 h.2.2⟩)],
 [], []⟩
theorem spec_l1Ok.all : ∀ k : Nat, (spec_l1Ok.ct k).Holds Tryd.prog 56 :=
 recOk zeroOk fun k ih =>
 fnOk sg.kit Tryd.f56 _ spec_l1Ok.d 3 k (fun j hj => ⟨(ih j hj), spec_l1IdOk.holds j, spec_l1ScopesOk.holds j, spec_l1AtomOk.holds j, True.intro⟩)
theorem spec_l1Ok.holds (k : Nat) : (spec_l1Ok.ct k).Holds Tryd.prog 56 := (spec_l1Ok.all k)
def spec_l1Size.ct (k : Nat) : Ct sg := ⟨true, ⟨[(0, .st 0)], []⟩, ⟨[(0, oI)], []⟩, [(.st 0)], [tI], fun h => spec_l1Size.f k h⟩
def spec_l1Size.d : FD sg (HL sg.S [tI]) := ⟨fun k => [(57, spec_l1Size.ct k)],
 [(3, ⟨⟨[(1, .one (.ptr 0 0)), (3, oI), (4, oI)], [.cells [] [.any, .any, .any, .any, .val (.sl 29 (.st 0))]]⟩, [tI, tI, (.sl 29 (.st 0))], fun k h => spec_l1Size.l3 k h.1 h.2.1 h.2.2⟩)],
 [],
 [], []⟩
theorem spec_l1Size.all : ∀ k : Nat, (spec_l1Size.ct k).Holds Tryd.prog 57 :=
 recOk zeroOk fun k ih =>
 fnOk sg.kit Tryd.f57 _ spec_l1Size.d 1 k (fun j hj => ⟨(ih j hj), True.intro⟩)
theorem spec_l1Size.holds (k : Nat) : (spec_l1Size.ct k).Holds Tryd.prog 57 := (spec_l1Size.all k)
def spec_ExpFormOk.ct (k : Nat) : Ct sg := ⟨true, ⟨[(0, .st 0)], []⟩, ⟨[(0, oB)], []⟩, [(.st 0)], [.bool], fun h => spec_ExpFormOk.f k h⟩
def spec_ExpFormOk.d : FD sg (HL sg.S [.bool]) := ⟨fun k => [(56, spec_l1Ok.ct k), (57, spec_l1Size.ct k)],
 [],
 [],
 [], []⟩
theorem spec_ExpFormOk.holds (k : Nat) : (spec_ExpFormOk.ct k).Holds Tryd.prog 25 :=
 fnOk sg.kit Tryd.f25 _ spec_ExpFormOk.d 0 k (fun j _ => ⟨spec_l1Ok.holds j, spec_l1Size.holds j, True.intro⟩)
def spec_l3Dots.ct (k : Nat) : Ct sg := ⟨true, ⟨[(0, .st 0)], []⟩, ⟨[(0, oB)], []⟩, [(.st 0)], [.bool], fun h => spec_l3Dots.f k h⟩
def spec_l3Dots.d : FD sg (HL sg.S [.bool]) := ⟨fun _ => [],
 [],
 [],
 [], []⟩
theorem spec_l3Dots.holds (k : Nat) : (spec_l3Dots.ct k).Holds Tryd.prog 71 :=
 fnOk sg.kit Tryd.f71 _ spec_l3Dots.d 0 k (fun _ _ => True.intro)
def spec_l3Blank.ct (k : Nat) : Ct sg := ⟨true, ⟨[(0, .st 0)], []⟩, ⟨[(0, oB)], []⟩, [(.st 0)], [.bool], fun h => spec_l3Blank.f k h⟩
def spec_l3Blank.d : FD sg (HL sg.S [.bool]) := ⟨fun _ => [],
 [],
 [],
 [], []⟩
theorem spec_l3Blank.holds (k : Nat) : (spec_l3Blank.ct k).Holds Tryd.prog 72 :=
 fnOk sg.kit Tryd.f72 _ spec_l3Blank.d 0 k (fun _ _ => True.intro)
def spec_l3IdsOk.ct (k : Nat) : Ct sg := ⟨true, ⟨[(0, .one (.val (.sl 29 (.st 0))))], []⟩, ⟨[(0, oB)], []⟩, [(.sl 29 (.st 0))], [.bool], fun h => spec_l3IdsOk.f k h⟩
def spec_l3IdsOk.d : FD sg (HL sg.S [.bool]) := ⟨fun k => [(25, spec_ExpFormOk.ct k), (71, spec_l3Dots.ct k), (72, spec_l3Blank.ct k)],
 [(2, ⟨⟨[(0, .one (.val (.sl 29 (.st 0)))), (3, oI)], []⟩, [(.sl 29 (.st 0)), tI], fun k h => spec_l3IdsOk.l2 k h.1 h.2⟩)],
 [],
 [], []⟩
theorem spec_l3IdsOk.holds (k : Nat) : (spec_l3IdsOk.ct k).Holds Tryd.prog 41 :=
 fnOk sg.kit Tryd.f41 _ spec_l3IdsOk.d 1 k (fun j _ => ⟨spec_ExpFormOk.holds j, spec_l3Dots.holds j, spec_l3Blank.holds j, True.intro⟩)
def spec_l1Copies.ct (k : Nat) : Ct sg := ⟨true, ⟨[(0, .one (.val (.sl 29 (.st 0))))], []⟩, ⟨[(0, .one (.warr 0))], [.ow false true 29 (.st 0)]⟩, [(.sl 29 (.st 0))], [(.sl 29 (.st 0))], fun h => spec_l1Copies.f k h⟩
def spec_l1Copy.ct (k : Nat) : Ct sg := ⟨true, ⟨[(0, .st 0)], []⟩, ⟨[(0, .agg [.val tI, .val .str, .warr 0, .val tI, .warr 1])], [.ow false false 3 tI, .ow false true 29 (.st 0)]⟩, [(.st 0)], [tI, .str, tI, (.sl 3 tI), (.sl 29 (.st 0))], fun h => spec_l1Copy.f k h⟩
def spec_l1Copies.d : FD sg (HL sg.S [(.sl 29 (.st 0))]) := ⟨fun k => [(65, spec_l1Copy.ct k)],
 [(3, ⟨⟨[(0, .one (.val (.sl 29 (.st 0)))), (3, .one (.arr 0)), (4, oI)], [.ow false true 29 (.st 0)]⟩, [(.sl 29 (.st 0)), tI, (.sl 29 (.st 0))], fun k h => spec_l1Copies.l3 k h.1 h.2.1 h.2.2⟩)],
 [],
 [], [5, 18, 19]⟩
def spec_l1Copy.d : FD sg (HL sg.S [tI, .str, tI, (.sl 3 tI), (.sl 29 (.st 0))]) := ⟨fun k => [(59, spec_l1Copies.ct k)],
 [],
 [],
 [], []⟩
theorem spec_l1Copies.all : ∀ k : Nat, (spec_l1Copies.ct k).Holds Tryd.prog 59 ∧ (spec_l1Copy.ct k).Holds Tryd.prog 65 :=
 recOk ⟨zeroOk, zeroOk⟩ fun k ih =>
 ⟨fnOk sg.kit Tryd.f59 _ spec_l1Copies.d 1 k (fun j hj => ⟨(ih j hj).2, True.intro⟩), fnOk sg.kit Tryd.f65 _ spec_l1Copy.d 0 k (fun j hj => ⟨(ih j hj).1, True.intro⟩)⟩
theorem spec_l1Copies.holds (k : Nat) : (spec_l1Copies.ct k).Holds Tryd.prog 59 := (spec_l1Copies.all k).1
theorem spec_l1Copy.holds (k : Nat) : (spec_l1Copy.ct k).Holds Tryd.prog 65 := (spec_l1Copies.all k).2
def spec_l3Parts.ct (k : Nat) : Ct sg := ⟨false, ⟨[(0, .st 0)], []⟩, ⟨[(0, .one (.val (.sl 29 (.st 0))))], []⟩, [(.st 0)], [(.sl 29 (.st 0))], fun h => spec_l3Parts.f k h⟩
def spec_l3Parts.d : FD sg (HL sg.S [(.sl 29 (.st 0))]) := ⟨fun _ => [],
 [],
 [],
 [], []⟩
theorem spec_l3Parts.holds (k : Nat) : (spec_l3Parts.ct k).Holds Tryd.prog 91 :=
 fnOk sg.kit Tryd.f91 _ spec_l3Parts.d 0 k (fun _ _ => True.intro)
def spec_l3Repeat.ct (k : Nat) : Ct sg := ⟨true, ⟨[(0, .st 0)], []⟩, ⟨[(0, oI)], []⟩, [(.st 0)], [tI], fun h => spec_l3Repeat.f k h⟩
def spec_l3Repeat.d : FD sg (HL sg.S [tI]) := ⟨fun k => [(71, spec_l3Dots.ct k), (91, spec_l3Parts.ct k)],
 [(4, ⟨⟨[(3, oI), (4, .one (.val (.sl 29 (.st 0)))), (5, oI)], []⟩, [tI, (.sl 29 (.st 0)), tI], fun k h => spec_l3Repeat.l4 k h.1 h.2.1 h.2.2⟩)],
 [],
 [], []⟩
theorem spec_l3Repeat.holds (k : Nat) : (spec_l3Repeat.ct k).Holds Tryd.prog 73 :=
 fnOk sg.kit Tryd.f73 _ spec_l3Repeat.d 1 k (fun j _ => ⟨spec_l3Dots.holds j, spec_l3Parts.holds j, True.intro⟩)
def spec_l3PatternOk.ct (k : Nat) : Ct sg := ⟨true, ⟨[(0, .st 0)], []⟩, ⟨[(0, oB)], []⟩, [(.st 0)], [.bool], fun h => spec_l3PatternOk.f k h⟩
def spec_l3PatternOk.d : FD sg (HL sg.S [.bool]) := ⟨fun k => [(42, spec_l3PatternOk.ct k), (71, spec_l3Dots.ct k), (73, spec_l3Repeat.ct k)],
 [(8, ⟨⟨[(1, .one (.ptr 0 0)), (3, oI)], [.cells [] [.any, .any, .any, .any, .val (.sl 29 (.st 0))]]⟩, [tI, (.sl 29 (.st 0))], fun k h => spec_l3PatternOk.l8 k h.1 h.2⟩)],
 [(7, ⟨⟨[(1, .one (.ptr 0 0))], [.cells [] [.any, .any, .any, .any, .val (.sl 29 (.st 0))]]⟩, [(.sl 29 (.st 0))], fun k h => spec_l3PatternOk.j7 k h⟩)],
 [], []⟩
theorem spec_l3PatternOk.all : ∀ k : Nat, (spec_l3PatternOk.ct k).Holds Tryd.prog 42 :=
 recOk zeroOk fun k ih =>
 fnOk sg.kit Tryd.f42 _ spec_l3PatternOk.d 2 k (fun j hj => ⟨(ih j hj), spec_l3Dots.holds j, spec_l3Repeat.holds j, True.intro⟩)
theorem spec_l3PatternOk.holds (k : Nat) : (spec_l3PatternOk.ct k).Holds Tryd.prog 42 := (spec_l3PatternOk.all k)
def spec_l3Ints.ct (k : Nat) : Ct sg := ⟨true, ⟨[(0, .one (.val (.sl 3 tI))), (1, .one (.val (.sl 3 tI)))], []⟩, ⟨[(0, oB)], []⟩, [(.sl 3 tI), (.sl 3 tI)], [.bool], fun h => spec_l3Ints.f k h.1 h.2⟩
def spec_l3Ints.d : FD sg (HL sg.S [.bool]) := ⟨fun _ => [],
 [(4, ⟨⟨[(0, .one (.val (.sl 3 tI))), (1, .one (.val (.sl 3 tI))), (5, oI)], []⟩, [(.sl 3 tI), (.sl 3 tI), tI], fun k h => spec_l3Ints.l4 k h.1 h.2.1 h.2.2⟩)],
 [],
 [(6, [[0, 1, 2, 3, 4, 5, 6, 7, 8]])], []⟩
theorem spec_l3Ints.holds (k : Nat) : (spec_l3Ints.ct k).Holds Tryd.prog 92 :=
 fnOk sg.kit Tryd.f92 _ spec_l3Ints.d 1 k (fun _ _ => True.intro)
def spec_l3Same.ct (k : Nat) : Ct sg := ⟨true, ⟨[(0, .st 0), (1, .st 0)], []⟩, ⟨[(0, oB)], []⟩, [(.st 0), (.st 0)], [.bool], fun h => spec_l3Same.f k h.1 h.2⟩
def spec_l3Same.d : FD sg (HL sg.S [.bool]) := ⟨fun k => [(92, spec_l3Ints.ct k)],
 [],
 [],
 [], []⟩
theorem spec_l3Same.holds (k : Nat) : (spec_l3Same.ct k).Holds Tryd.prog 74 :=
 fnOk sg.kit Tryd.f74 _ spec_l3Same.d 0 k (fun j _ => ⟨spec_l3Ints.holds j, True.intro⟩)
def spec_l3Among.ct (k : Nat) : Ct sg := ⟨true, ⟨[(0, .one (.val (.sl 29 (.st 0)))), (1, .st 0)], []⟩, ⟨[(0, oB)], []⟩, [(.sl 29 (.st 0)), (.st 0)], [.bool], fun h => spec_l3Among.f k h.1 h.2⟩
def spec_l3Among.d : FD sg (HL sg.S [.bool]) := ⟨fun k => [(74, spec_l3Same.ct k)],
 [(2, ⟨⟨[(0, .one (.val (.sl 29 (.st 0)))), (3, .one (.ptr 0 0)), (5, oI)], [.cells [] [.val tI, .val .str, .val (.sl 3 tI), .val tI, .val (.sl 29 (.st 0))]]⟩, [(.sl 29 (.st 0)), tI, tI, .str, (.sl 3 tI), tI, (.sl 29 (.st 0))], fun k h => spec_l3Among.l2 k h.1 h.2.1 h.2.2.1 h.2.2.2.1 h.2.2.2.2.1 h.2.2.2.2.2.1 h.2.2.2.2.2.2⟩)],
 [],
 [(4, [[0, 1, 2, 3, 4, 5]])], []⟩
theorem spec_l3Among.holds (k : Nat) : (spec_l3Among.ct k).Holds Tryd.prog 44 :=
 fnOk sg.kit Tryd.f44 _ spec_l3Among.d 1 k (fun j _ => ⟨spec_l3Same.holds j, True.intro⟩)
def spec_l3Names.ct (k : Nat) : Ct sg := ⟨false, ⟨[(0, .st 0), (1, .one (.val (.sl 29 (.st 0))))], []⟩, ⟨[(0, .one (.arr 0))], [.arr 29 (.st 0)]⟩, [(.st 0), (.sl 29 (.st 0))], [(.sl 29 (.st 0))], fun h => spec_l3Names.f k h.1 h.2⟩
def spec_l3Names.d : FD sg (HL sg.S [(.sl 29 (.st 0))]) := ⟨fun k => [(43, spec_l3Names.ct k), (44, spec_l3Among.ct k), (71, spec_l3Dots.ct k), (72, spec_l3Blank.ct k)],
 [(7, ⟨⟨[(1, .one (.val (.sl 29 (.st 0)))), (2, .one (.ptr 0 0)), (5, .one (.arr 1)), (6, oI)], [.cells [] [.any, .any, .any, .any, .val (.sl 29 (.st 0))], .arr 29 (.st 0)]⟩, [(.sl 29 (.st 0)), tI, (.sl 29 (.st 0)), (.sl 29 (.st 0))], fun k h => spec_l3Names.l7 k h.1 h.2.1 h.2.2.1 h.2.2.2⟩)],
 [],
 [], []⟩
theorem spec_l3Names.all : ∀ k : Nat, (spec_l3Names.ct k).Holds Tryd.prog 43 :=
 recOk zeroOk fun k ih =>
 fnOk sg.kit Tryd.f43 _ spec_l3Names.d 1 k (fun j hj => ⟨(ih j hj), spec_l3Among.holds j, spec_l3Dots.holds j, spec_l3Blank.holds j, True.intro⟩)
theorem spec_l3Names.holds (k : Nat) : (spec_l3Names.ct k).Holds Tryd.prog 43 := (spec_l3Names.all k)
def spec_ExpPatternOk.ct (k : Nat) : Ct sg := ⟨true, ⟨[(0, .st 0), (1, .one (.val (.sl 29 (.st 0))))], []⟩, ⟨[(0, oB)], []⟩, [(.st 0), (.sl 29 (.st 0))], [.bool], fun h => spec_ExpPatternOk.f k h.1 h.2⟩
def spec_ExpPatternOk.d : FD sg (HL sg.S [.bool]) := ⟨fun k => [(25, spec_ExpFormOk.ct k), (41, spec_l3IdsOk.ct k), (42, spec_l3PatternOk.ct k), (43, spec_l3Names.ct k), (44, spec_l3Among.ct k)],
 [(5, ⟨⟨[(5, .one (.val (.sl 29 (.st 0)))), (6, oI)], []⟩, [(.sl 29 (.st 0)), tI], fun k h => spec_ExpPatternOk.l5 k h.1 h.2⟩)],
 [(3, ⟨⟨[(1, .one (.val (.sl 29 (.st 0)))), (2, .one (.ptr 0 0))], [.cells [] [.val tI, .val .str, .val (.sl 3 tI), .val tI, .val (.sl 29 (.st 0))]]⟩, [(.sl 29 (.st 0)), tI, .str, (.sl 3 tI), tI, (.sl 29 (.st 0))], fun k h => spec_ExpPatternOk.j3 k h.1 h.2.1 h.2.2.1 h.2.2.2.1 h.2.2.2.2.1 h.2.2.2.2.2⟩)],
 [(7, [[0, 1, 2, 3, 4, 5, 6, 7]])], []⟩
theorem spec_ExpPatternOk.holds (k : Nat) : (spec_ExpPatternOk.ct k).Holds Tryd.prog 16 :=
 fnOk sg.kit Tryd.f16 _ spec_ExpPatternOk.d 2 k (fun j _ => ⟨spec_ExpFormOk.holds j, spec_l3IdsOk.holds j, spec_l3PatternOk.holds j, spec_l3Names.holds j, spec_l3Among.holds j, True.intro⟩)
def spec_l4Rule.ct (k : Nat) : Ct sg := ⟨false, ⟨[(0, .st 0), (1, .one (.val (.sl 29 (.st 0))))], []⟩, ⟨[(0, .st 2), (1, oB)], []⟩, [(.st 0), (.sl 29 (.st 0))], [(.st 2), .bool], fun h => spec_l4Rule.f k h.1 h.2⟩
def spec_l4Rule.d : FD sg (HL sg.S [(.st 2), .bool]) := ⟨fun k => [(16, spec_ExpPatternOk.ct k), (65, spec_l1Copy.ct k)],
 [],
 [(100009, ⟨⟨[(2, .one (.ptr 0 0)), (4, .one (.ptr 1 0)), (6, .one (.ptr 2 0))], [.cells [] [.any, .any, .any, .any, .val (.sl 29 (.st 0))], .cells [] [.any, .any, .any, .any, .any, .any, .any, .any, .any, .any], .cells [] [.val tI, .val .str, .warr 3, .val tI, .warr 4], .arr 3 tI, .ow false true 29 (.st 0)]⟩, [(.sl 29 (.st 0)), tI, .str, tI, (.sl 3 tI), (.sl 29 (.st 0))], fun k h => spec_l4Rule.d9 k h.1 h.2.1 h.2.2.1 h.2.2.2.1 h.2.2.2.2.1 h.2.2.2.2.2⟩),
 (3, ⟨⟨[(1, .one (.val (.sl 29 (.st 0)))), (2, .one (.ptr 0 0)), (4, .one (.ptr 1 0))], [.cells [] [.any, .any, .any, .any, .val (.sl 29 (.st 0))], .cells [] [.any, .any, .any, .any, .any, .any, .any, .any, .any, .any]]⟩, [(.sl 29 (.st 0)), (.sl 29 (.st 0))], fun k h => spec_l4Rule.j3 k h.1 h.2⟩),
 (6, ⟨⟨[(1, .one (.val (.sl 29 (.st 0)))), (2, .one (.ptr 0 0)), (4, .one (.ptr 1 0)), (6, .one (.ptr 2 0))], [.cells [] [.any, .any, .any, .any, .val (.sl 29 (.st 0))], .cells [] [.any, .any, .any, .any, .any, .any, .any, .any, .any, .any], .cells [] [.val tI, .val .str, .warr 3, .val tI, .warr 4], .arr 3 tI, .ow false true 29 (.st 0)]⟩, [(.sl 29 (.st 0)), (.sl 29 (.st 0)), tI, .str, tI, (.sl 3 tI), (.sl 29 (.st 0))], fun k h => spec_l4Rule.j6 k h.1 h.2.1 h.2.2.1 h.2.2.2.1 h.2.2.2.2.1 h.2.2.2.2.2.1 h.2.2.2.2.2.2⟩)],
 [(9, [[1, 2, 3, 4, 0, 5, 6, 7, 8], [1, 2, 3, 4, 5, 0, 6, 7, 8]])], []⟩
theorem spec_l4Rule.holds (k : Nat) : (spec_l4Rule.ct k).Holds Tryd.prog 60 :=
 fnOk sg.kit Tryd.f60 _ spec_l4Rule.d 4 k (fun j _ => ⟨spec_ExpPatternOk.holds j, spec_l1Copy.holds j, True.intro⟩)
def spec_ExpRules.ct (k : Nat) : Ct sg := ⟨false, ⟨[(0, .st 0)], []⟩, ⟨[(0, .st 1), (1, oB)], []⟩, [(.st 0)], [(.st 1), .bool], fun h => spec_ExpRules.f k h⟩
def spec_ExpRules.d : FD sg (HL sg.S [(.st 1), .bool]) := ⟨fun k => [(25, spec_ExpFormOk.ct k), (41, spec_l3IdsOk.ct k), (59, spec_l1Copies.ct k), (60, spec_l4Rule.ct k)],
 [(5, ⟨⟨[(1, .one (.ptr 0 0)), (2, .one (.ptr 1 0)), (4, .one (.ptr 2 0)), (5, oI)], [.cells [] [.any, .any, .any, .any, .val (.sl 29 (.st 0))], .cells [] [.any, .any], .cells [] [.val (.sl 29 (.st 0)), .arr 3], .arr 74 (.st 2)]⟩, [tI, (.sl 29 (.st 0)), (.sl 29 (.st 0)), (.sl 74 (.st 2))], fun k h => spec_ExpRules.l5 k h.1 h.2.1 h.2.2.1 h.2.2.2⟩)],
 [(100007, ⟨⟨[(1, .one (.ptr 0 0)), (2, .one (.ptr 1 0)), (4, .one (.ptr 2 0)), (5, oI)], [.cells [] [.any, .any, .any, .any, .val (.sl 29 (.st 0))], .cells [] [.any, .any], .cells [] [.val (.sl 29 (.st 0)), .arr 3], .arr 74 (.st 2)]⟩, [tI, (.sl 29 (.st 0)), (.sl 29 (.st 0)), (.sl 74 (.st 2))], fun k h => spec_ExpRules.d7 k h.1 h.2.1 h.2.2.1 h.2.2.2⟩),
 (2, ⟨⟨[(1, .one (.ptr 0 0)), (2, .one (.ptr 1 0)), (54, oB)], [.cells [] [.any, .any, .any, .any, .val (.sl 29 (.st 0))], .cells [] [.any, .any]]⟩, [.bool, (.sl 29 (.st 0))], fun k h => spec_ExpRules.j2 k h.1 h.2⟩)],
 [(7, [[0, 2, 5, 1, 3, 4, 6, 7, 8, 9, 10, 11, 12, 13], [0, 2, 5, 1, 3, 4, 6, 11, 7, 8, 9, 10, 12, 13], [0, 2, 5, 1, 3, 4, 11, 6, 7, 8, 9, 10, 12, 13], [0, 2, 5, 1, 3, 6, 4, 7, 8, 9, 10, 11, 12, 13], [0, 2, 5, 1, 3, 6, 4, 11, 7, 8, 9, 10, 12, 13], [0, 2, 5, 1, 3, 6, 11, 4, 7, 8, 9, 10, 12, 13], [0, 2, 5, 1, 3, 11, 4, 6, 7, 8, 9, 10, 12, 13], [0, 2, 5, 6, 1, 3, 4, 7, 8, 9, 10, 11, 12, 13], [0, 2, 5, 6, 1, 3, 4, 11, 7, 8, 9, 10, 12, 13], [0, 2, 5, 6, 1, 3, 11, 4, 7, 8, 9, 10, 12, 13], [0, 2, 5, 6, 11, 1, 3, 4, 7, 8, 9, 10, 12, 13], [0, 2, 5, 11, 1, 3, 4, 6, 7, 8, 9, 10, 12, 13]])], []⟩
theorem spec_ExpRules.holds (k : Nat) : (spec_ExpRules.ct k).Holds Tryd.prog 27 :=
 fnOk sg.kit Tryd.f27 _ spec_ExpRules.d 14 k (fun j _ => ⟨spec_ExpFormOk.holds j, spec_l3IdsOk.holds j, spec_l1Copies.holds j, spec_l4Rule.holds j, True.intro⟩)
def internal_stringslite_HasPrefix.ct (k : Nat) : Ct sg := ⟨true, ⟨[(0, oS), (1, oS)], []⟩, ⟨[(0, oB)], []⟩, [.str, .str], [.bool], fun h => internal_stringslite_HasPrefix.f k h.1 h.2⟩
def internal_stringslite_HasPrefix.d : FD sg (HL sg.S [.bool]) := ⟨fun _ => [],
 [],
 [],
 [], []⟩
theorem internal_stringslite_HasPrefix.holds (k : Nat) : (internal_stringslite_HasPrefix.ct k).Holds Tryd.prog 119 :=
 fnOk sg.kit Tryd.f119 _ internal_stringslite_HasPrefix.d 0 k (fun _ _ => True.intro)
def internal_stringslite_TrimPrefix.ct (k : Nat) : Ct sg := ⟨true, ⟨[(0, oS), (1, oS)], []⟩, ⟨[(0, oS)], []⟩, [.str, .str], [.str], fun h => internal_stringslite_TrimPrefix.f k h.1 h.2⟩
def internal_stringslite_TrimPrefix.d : FD sg (HL sg.S [.str]) := ⟨fun k => [(119, internal_stringslite_HasPrefix.ct k)],
 [],
 [],
 [], []⟩
theorem internal_stringslite_TrimPrefix.holds (k : Nat) : (internal_stringslite_TrimPrefix.ct k).Holds Tryd.prog 107 :=
 fnOk sg.kit Tryd.f107 _ internal_stringslite_TrimPrefix.d 0 k (fun j _ => ⟨internal_stringslite_HasPrefix.holds j, True.intro⟩)
def strings_TrimPrefix.ct (k : Nat) : Ct sg := ⟨true, ⟨[(0, oS), (1, oS)], []⟩, ⟨[(0, oS)], []⟩, [.str, .str], [.str], fun h => strings_TrimPrefix.f k h.1 h.2⟩
def strings_TrimPrefix.d : FD sg (HL sg.S [.str]) := ⟨fun k => [(107, internal_stringslite_TrimPrefix.ct k)],
 [],
 [],
 [], []⟩
theorem strings_TrimPrefix.holds (k : Nat) : (strings_TrimPrefix.ct k).Holds Tryd.prog 98 :=
 fnOk sg.kit Tryd.f98 _ strings_TrimPrefix.d 0 k (fun j _ => ⟨internal_stringslite_TrimPrefix.holds j, True.intro⟩)
def impl_expAtom.ct (k : Nat) : Ct sg := ⟨true, ⟨[(0, oS)], []⟩, ⟨[(0, oB)], []⟩, [.str], [.bool], fun h => impl_expAtom.f k h⟩
def impl_expAtom.d : FD sg (HL sg.S [.bool]) := ⟨fun k => [(98, strings_TrimPrefix.ct k), (99, LTrim.ct)],
 [(6, ⟨⟨[(33, .one (.val (.sl 5 (.int .u8)))), (34, oI), (35, oI)], []⟩, [(.sl 5 (.int .u8)), tI, tI], fun k h => impl_expAtom.l6 k h.1 h.2.1 h.2.2⟩)],
 [(3, ⟨⟨[(0, oS)], []⟩, [.str], fun k h => impl_expAtom.j3 k h⟩),
 (5, ⟨⟨[(0, oS), (3, oI), (28, oB)], []⟩, [.str, tI, .bool], fun k h => impl_expAtom.j5 k h.1 h.2.1 h.2.2⟩)],
 [], []⟩
theorem impl_expAtom.holds (k : Nat) : (impl_expAtom.ct k).Holds Tryd.prog 85 :=
 fnOk sg.kit Tryd.f85 _ impl_expAtom.d 3 k (fun j _ => ⟨strings_TrimPrefix.holds j, LTrim.holds, True.intro⟩)
def impl_expId.ct (k : Nat) : Ct sg := ⟨true, ⟨[(0, oS)], []⟩, ⟨[(0, oB)], []⟩, [.str], [.bool], fun h => impl_expId.f k h⟩
def impl_expId.d : FD sg (HL sg.S [.bool]) := ⟨fun k => [(85, impl_expAtom.ct k), (97, LIndexByte.ct)],
 [(2, ⟨⟨[(0, oS), (6, .one (.val (.sl 5 (.int .u8)))), (7, oI), (8, oI)], []⟩, [.str, (.sl 5 (.int .u8)), tI, tI], fun k h => impl_expId.l2 k h.1 h.2.1 h.2.2.1 h.2.2.2⟩)],
 [],
 [], []⟩
theorem impl_expId.holds (k : Nat) : (impl_expId.ct k).Holds Tryd.prog 84 :=
 fnOk sg.kit Tryd.f84 _ impl_expId.d 1 k (fun j _ => ⟨impl_expAtom.holds j, LIndexByte.holds, True.intro⟩)
def impl_expCount.ct (k : Nat) : Ct sg := ⟨true, ⟨[(0, .st 0), (1, oI)], []⟩, ⟨[(0, oI)], []⟩, [(.st 0), tI], [tI], fun h => impl_expCount.f k h.1 h.2⟩
def impl_expCount.d : FD sg (HL sg.S [tI]) := ⟨fun k => [(55, impl_expCount.ct k), (84, impl_expId.ct k), (85, impl_expAtom.ct k)],
 [(10, ⟨⟨[(2, .one (.ptr 0 0)), (5, oI), (40, .one (.val (.sl 3 tI))), (41, oI), (42, oI)], [.cells [] [.any, .any, .val (.sl 3 tI), .any, .any]]⟩, [tI, (.sl 3 tI), tI, tI, (.sl 3 tI)], fun k h => impl_expCount.l10 k h.1 h.2.1 h.2.2.1 h.2.2.2.1 h.2.2.2.2⟩),
 (27, ⟨⟨[(1, oI), (5, oI), (139, .one (.val (.sl 29 (.st 0)))), (140, oI), (141, oI)], []⟩, [tI, tI, (.sl 29 (.st 0)), tI, tI], fun k h => impl_expCount.l27 k h.1 h.2.1 h.2.2.1 h.2.2.2.1 h.2.2.2.2⟩)],
 [(9, ⟨⟨[(2, .one (.ptr 0 0)), (5, oI)], [.cells [] [.any, .any, .val (.sl 3 tI), .any, .any]]⟩, [tI, (.sl 3 tI)], fun k h => impl_expCount.j9 k h.1 h.2⟩),
 (20, ⟨⟨[(1, oI), (2, .one (.ptr 0 0)), (5, oI), (93, oB)], [.cells [] [.val tI, .val .str, .val (.sl 3 tI), .val tI, .val (.sl 29 (.st 0))]]⟩, [tI, tI, .bool, tI, .str, (.sl 3 tI), tI, (.sl 29 (.st 0))], fun k h => impl_expCount.j20 k h.1 h.2.1 h.2.2.1 h.2.2.2.1 h.2.2.2.2.1 h.2.2.2.2.2.1 h.2.2.2.2.2.2.1 h.2.2.2.2.2.2.2⟩),
 (22, ⟨⟨[(1, oI), (2, .one (.ptr 0 0)), (5, oI)], [.cells [] [.val tI, .any, .any, .any, .val (.sl 29 (.st 0))]]⟩, [tI, tI, tI, (.sl 29 (.st 0))], fun k h => impl_expCount.j22 k h.1 h.2.1 h.2.2.1 h.2.2.2⟩),
 (26, ⟨⟨[(1, oI), (2, .one (.ptr 0 0)), (5, oI)], [.cells [] [.any, .any, .any, .any, .val (.sl 29 (.st 0))]]⟩, [tI, tI, (.sl 29 (.st 0))], fun k h => impl_expCount.j26 k h.1 h.2.1 h.2.2⟩)],
 [], []⟩
theorem impl_expCount.all : ∀ k : Nat, (impl_expCount.ct k).Holds Tryd.prog 55 :=
 recOk zeroOk fun k ih =>
 fnOk sg.kit Tryd.f55 _ impl_expCount.d 6 k (fun j hj => ⟨(ih j hj), impl_expId.holds j, impl_expAtom.holds j, True.intro⟩)
theorem impl_expCount.holds (k : Nat) : (impl_expCount.ct k).Holds Tryd.prog 55 := (impl_expCount.all k)
def impl_ExpFormOk.ct (k : Nat) : Ct sg := ⟨true, ⟨[(0, .st 0)], []⟩, ⟨[(0, oB)], []⟩, [(.st 0)], [.bool], fun h => impl_ExpFormOk.f k h⟩
def impl_ExpFormOk.d : FD sg (HL sg.S [.bool]) := ⟨fun k => [(55, impl_expCount.ct k)],
 [],
 [],
 [], []⟩
theorem impl_ExpFormOk.holds (k : Nat) : (impl_ExpFormOk.ct k).Holds Tryd.prog 24 :=
 fnOk sg.kit Tryd.f24 _ impl_ExpFormOk.d 0 k (fun j _ => ⟨impl_expCount.holds j, True.intro⟩)
def impl_expIs.ct (k : Nat) : Ct sg := ⟨true, ⟨[(0, .st 0), (1, oS)], []⟩, ⟨[(0, oB)], []⟩, [(.st 0), .str], [.bool], fun h => impl_expIs.f k h.1 h.2⟩
def impl_expIs.d : FD sg (HL sg.S [.bool]) := ⟨fun _ => [],
 [],
 [],
 [], []⟩
theorem impl_expIs.holds (k : Nat) : (impl_expIs.ct k).Holds Tryd.prog 46 :=
 fnOk sg.kit Tryd.f46 _ impl_expIs.d 0 k (fun _ _ => True.intro)
def impl_expLiterals.ct (k : Nat) : Ct sg := ⟨true, ⟨[(0, .one (.val (.sl 29 (.st 0))))], []⟩, ⟨[(0, oB)], []⟩, [(.sl 29 (.st 0))], [.bool], fun h => impl_expLiterals.f k h⟩
def impl_expLiterals.d : FD sg (HL sg.S [.bool]) := ⟨fun k => [(24, impl_ExpFormOk.ct k)],
 [(2, ⟨⟨[(5, .one (.val (.sl 29 (.st 0)))), (6, oI), (7, oI)], []⟩, [(.sl 29 (.st 0)), tI, tI], fun k h => impl_expLiterals.l2 k h.1 h.2.1 h.2.2⟩)],
 [],
 [], []⟩
theorem impl_expLiterals.holds (k : Nat) : (impl_expLiterals.ct k).Holds Tryd.prog 45 :=
 fnOk sg.kit Tryd.f45 _ impl_expLiterals.d 1 k (fun j _ => ⟨impl_ExpFormOk.holds j, True.intro⟩)
def impl_expCopy.ct (k : Nat) : Ct sg := ⟨true, ⟨[(0, .st 0)], []⟩, ⟨[(0, .agg [.val tI, .val .str, .warr 0, .val tI, .warr 1])], [.ow false false 3 tI, .ow false true 29 (.st 0)]⟩, [(.st 0)], [tI, .str, tI, (.sl 3 tI), (.sl 29 (.st 0))], fun h => impl_expCopy.f k h⟩
def impl_expCopy.d : FD sg (HL sg.S [tI, .str, tI, (.sl 3 tI), (.sl 29 (.st 0))]) := ⟨fun k => [(61, impl_expCopy.ct k)],
 [(4, ⟨⟨[(1, .one (.ptr 0 0)), (2, .one (.ptr 1 0)), (3, .one (.arr 2)), (11, .one (.val (.sl 29 (.st 0)))), (12, oI), (13, oI)], [.cells [] [.val tI, .val .str, .arr 3, .val tI, .any], .cells [] [.any, .any, .any, .any, .any], .ow false true 29 (.st 0), .arr 3 tI]⟩, [(.sl 29 (.st 0)), tI, tI, tI, .str, tI, (.sl 29 (.st 0)), (.sl 3 tI)], fun k h => impl_expCopy.l4 k h.1 h.2.1 h.2.2.1 h.2.2.2.1 h.2.2.2.2.1 h.2.2.2.2.2.1 h.2.2.2.2.2.2.1 h.2.2.2.2.2.2.2⟩)],
 [],
 [], [20, 21]⟩
theorem impl_expCopy.all : ∀ k : Nat, (impl_expCopy.ct k).Holds Tryd.prog 61 :=
 recOk zeroOk fun k ih =>
 fnOk sg.kit Tryd.f61 _ impl_expCopy.d 1 k (fun j hj => ⟨(ih j hj), True.intro⟩)
theorem impl_expCopy.holds (k : Nat) : (impl_expCopy.ct k).Holds Tryd.prog 61 := (impl_expCopy.all k)
def impl_expInts.ct (k : Nat) : Ct sg := ⟨true, ⟨[(0, .one (.val (.sl 3 tI))), (1, .one (.val (.sl 3 tI)))], []⟩, ⟨[(0, oB)], []⟩, [(.sl 3 tI), (.sl 3 tI)], [.bool], fun h => impl_expInts.f k h.1 h.2⟩
def impl_expInts.d : FD sg (HL sg.S [.bool]) := ⟨fun _ => [],
 [(4, ⟨⟨[(0, .one (.val (.sl 3 tI))), (1, .one (.val (.sl 3 tI))), (12, oI), (13, oI)], []⟩, [(.sl 3 tI), (.sl 3 tI), tI, tI], fun k h => impl_expInts.l4 k h.1 h.2.1 h.2.2.1 h.2.2.2⟩)],
 [],
 [(6, [[0, 1, 2, 3, 4, 5, 6, 7, 8]])], []⟩
theorem impl_expInts.holds (k : Nat) : (impl_expInts.ct k).Holds Tryd.prog 105 :=
 fnOk sg.kit Tryd.f105 _ impl_expInts.d 1 k (fun _ _ => True.intro)
def impl_expSame.ct (k : Nat) : Ct sg := ⟨true, ⟨[(0, .st 0), (1, .st 0)], []⟩, ⟨[(0, oB)], []⟩, [(.st 0), (.st 0)], [.bool], fun h => impl_expSame.f k h.1 h.2⟩
def impl_expSame.d : FD sg (HL sg.S [.bool]) := ⟨fun k => [(105, impl_expInts.ct k)],
 [],
 [],
 [], []⟩
theorem impl_expSame.holds (k : Nat) : (impl_expSame.ct k).Holds Tryd.prog 93 :=
 fnOk sg.kit Tryd.f93 _ impl_expSame.d 0 k (fun j _ => ⟨impl_expInts.holds j, True.intro⟩)
def impl_expIn.ct (k : Nat) : Ct sg := ⟨true, ⟨[(0, .one (.val (.sl 29 (.st 0)))), (1, .st 0)], []⟩, ⟨[(0, oB)], []⟩, [(.sl 29 (.st 0)), (.st 0)], [.bool], fun h => impl_expIn.f k h.1 h.2⟩
def impl_expIn.d : FD sg (HL sg.S [.bool]) := ⟨fun k => [(93, impl_expSame.ct k)],
 [(2, ⟨⟨[(3, .one (.ptr 0 0)), (7, .one (.val (.sl 29 (.st 0)))), (8, oI), (9, oI)], [.cells [] [.val tI, .val .str, .val (.sl 3 tI), .val tI, .val (.sl 29 (.st 0))]]⟩, [(.sl 29 (.st 0)), tI, tI, tI, .str, (.sl 3 tI), tI, (.sl 29 (.st 0))], fun k h => impl_expIn.l2 k h.1 h.2.1 h.2.2.1 h.2.2.2.1 h.2.2.2.2.1 h.2.2.2.2.2.1 h.2.2.2.2.2.2.1 h.2.2.2.2.2.2.2⟩)],
 [],
 [], []⟩
theorem impl_expIn.holds (k : Nat) : (impl_expIn.ct k).Holds Tryd.prog 75 :=
 fnOk sg.kit Tryd.f75 _ impl_expIn.d 1 k (fun j _ => ⟨impl_expSame.holds j, True.intro⟩)
def impl_expParts.ct (k : Nat) : Ct sg := ⟨false, ⟨[(0, .st 0)], []⟩, ⟨[(0, .one (.val (.sl 29 (.st 0)))), (1, .one (.val (.po (.st 0))))], []⟩, [(.st 0)], [(.sl 29 (.st 0)), (.po (.st 0))], fun h => impl_expParts.f k h⟩
def impl_expParts.d : FD sg (HL sg.S [(.sl 29 (.st 0)), (.po (.st 0))]) := ⟨fun _ => [],
 [],
 [],
 [], [3, 5, 6]⟩
theorem impl_expParts.holds (k : Nat) : (impl_expParts.ct k).Holds Tryd.prog 76 :=
 fnOk sg.kit Tryd.f76 _ impl_expParts.d 0 k (fun _ _ => True.intro)
def impl_expNames_look.ct (k : Nat) : Ct sg := ⟨false, ⟨[(0, .one (.ptr 0 0)), (1, .st 0)], [.cells [] [.val (.sl 29 (.st 0)), .arr 1, .val .bool], .arr 29 (.st 0)]⟩, ⟨[], [.cells [] [.val (.sl 29 (.st 0)), .arr 1, .val .bool], .arr 29 (.st 0)]⟩, [(.st 0), (.sl 29 (.st 0)), .bool, (.sl 29 (.st 0))], [(.sl 29 (.st 0)), .bool, (.sl 29 (.st 0))], fun h => impl_expNames_look.f k h.1 h.2.1 h.2.2.1 h.2.2.2⟩
def impl_expNames_look.d : FD sg (HL sg.S [(.sl 29 (.st 0)), .bool, (.sl 29 (.st 0))]) := ⟨fun k => [(46, impl_expIs.ct k), (47, impl_expNames_look.ct k), (75, impl_expIn.ct k), (76, impl_expParts.ct k)],
 [(11, ⟨⟨[(0, .one (.ptr 0 0)), (5, .one (.val (.po (.st 0)))), (6, oI), (63, .one (.val (.sl 29 (.st 0)))), (64, oI), (65, oI)], [.cells [] [.val (.sl 29 (.st 0)), .arr 1, .val .bool], .arr 29 (.st 0)]⟩, [(.po (.st 0)), tI, (.sl 29 (.st 0)), tI, tI, (.sl 29 (.st 0)), .bool, (.sl 29 (.st 0))], fun k h => impl_expNames_look.l11 k h.1 h.2.1 h.2.2.1 h.2.2.2.1 h.2.2.2.2.1 h.2.2.2.2.2.1 h.2.2.2.2.2.2.1 h.2.2.2.2.2.2.2⟩)],
 [(100005, ⟨⟨[(0, .one (.ptr 0 0)), (3, .one (.ptr 1 0))], [.cells [] [.val (.sl 29 (.st 0)), .arr 2, .val .bool], .cells [] [.val tI, .val .str, .val (.sl 3 tI), .val tI, .val (.sl 29 (.st 0))], .arr 29 (.st 0)]⟩, [(.sl 29 (.st 0)), .bool, tI, .str, (.sl 3 tI), tI, (.sl 29 (.st 0)), (.sl 29 (.st 0))], fun k h => impl_expNames_look.d5 k h.1 h.2.1 h.2.2.1 h.2.2.2.1 h.2.2.2.2.1 h.2.2.2.2.2.1 h.2.2.2.2.2.2.1 h.2.2.2.2.2.2.2⟩),
 (4, ⟨⟨[(0, .one (.ptr 0 0)), (3, .one (.ptr 1 0))], [.cells [] [.val (.sl 29 (.st 0)), .arr 2, .val .bool], .cells [] [.val tI, .val .str, .val (.sl 3 tI), .val tI, .val (.sl 29 (.st 0))], .arr 29 (.st 0)]⟩, [(.sl 29 (.st 0)), .bool, tI, .str, (.sl 3 tI), tI, (.sl 29 (.st 0)), (.sl 29 (.st 0))], fun k h => impl_expNames_look.j4 k h.1 h.2.1 h.2.2.1 h.2.2.2.1 h.2.2.2.2.1 h.2.2.2.2.2.1 h.2.2.2.2.2.2.1 h.2.2.2.2.2.2.2⟩),
 (8, ⟨⟨[(0, .one (.ptr 0 0)), (3, .one (.ptr 1 0)), (55, oB)], [.cells [] [.val (.sl 29 (.st 0)), .arr 2, .val .bool], .cells [] [.val tI, .val .str, .val (.sl 3 tI), .val tI, .val (.sl 29 (.st 0))], .arr 29 (.st 0)]⟩, [.bool, (.sl 29 (.st 0)), .bool, tI, .str, (.sl 3 tI), tI, (.sl 29 (.st 0)), (.sl 29 (.st 0))], fun k h => impl_expNames_look.j8 k h.1 h.2.1 h.2.2.1 h.2.2.2.1 h.2.2.2.2.1 h.2.2.2.2.2.1 h.2.2.2.2.2.2.1 h.2.2.2.2.2.2.2.1 h.2.2.2.2.2.2.2.2⟩),
 (19, ⟨⟨[(0, .one (.ptr 0 0)), (5, .one (.val (.po (.st 0))))], [.cells [] [.val (.sl 29 (.st 0)), .arr 1, .val .bool], .arr 29 (.st 0)]⟩, [(.po (.st 0)), (.sl 29 (.st 0)), .bool, (.sl 29 (.st 0))], fun k h => impl_expNames_look.j19 k h.1 h.2.1 h.2.2.1 h.2.2.2⟩)],
 [(3, [[0, 1, 2, 3, 4, 5, 6, 7, 8, 9, 10, 11, 12, 13, 14, 15]]), (4, [[0, 1, 2, 3, 4, 5, 6, 7, 8, 9, 10, 11, 12, 13, 14, 15]]), (5, [[0, 1, 2, 3, 5, 4, 6, 7, 8, 10, 11, 9, 12], [0, 1, 2, 3, 5, 4, 6, 7, 8, 10, 11, 12, 9], [0, 1, 2, 3, 5, 6, 4, 7, 8, 10, 11, 9, 12], [0, 1, 2, 3, 5, 6, 4, 7, 8, 10, 11, 12, 9], [0, 1, 2, 4, 3, 5, 6, 7, 8, 10, 11, 9, 12], [0, 1, 2, 4, 3, 5, 6, 7, 8, 10, 11, 12, 9], [0, 1, 2, 4, 6, 3, 5, 7, 8, 10, 11, 9, 12], [0, 1, 2, 4, 6, 3, 5, 7, 8, 10, 11, 12, 9], [0, 1, 2, 6, 3, 4, 5, 7, 8, 10, 11, 9, 12], [0, 1, 2, 6, 3, 4, 5, 7, 8, 10, 11, 12, 9]])], []⟩
theorem impl_expNames_look.all : ∀ k : Nat, (impl_expNames_look.ct k).Holds Tryd.prog 47 :=
 recOk zeroOk fun k ih =>
 fnOk sg.kit Tryd.f47 _ impl_expNames_look.d 14 k (fun j hj => ⟨impl_expIs.holds j, (ih j hj), impl_expIn.holds j, impl_expParts.holds j, True.intro⟩)
theorem impl_expNames_look.holds (k : Nat) : (impl_expNames_look.ct k).Holds Tryd.prog 47 := (impl_expNames_look.all k)
def impl_ExpPatternOk.ct (k : Nat) : Ct sg := ⟨true, ⟨[(0, .st 0), (1, .one (.val (.sl 29 (.st 0))))], []⟩, ⟨[(0, oB)], []⟩, [(.st 0), (.sl 29 (.st 0))], [.bool], fun h => impl_ExpPatternOk.f k h.1 h.2⟩
def impl_ExpPatternOk.d : FD sg (HL sg.S [.bool]) := ⟨fun k => [(24, impl_ExpFormOk.ct k), (45, impl_expLiterals.ct k), (46, impl_expIs.ct k), (47, impl_expNames_look.ct k)],
 [],
 [(3, ⟨⟨[(1, .one (.val (.sl 29 (.st 0)))), (2, .one (.ptr 0 0))], [.cells [] [.val tI, .val .str, .val (.sl 3 tI), .val tI, .val (.sl 29 (.st 0))]]⟩, [(.sl 29 (.st 0)), tI, .str, (.sl 3 tI), tI, (.sl 29 (.st 0))], fun k h => impl_ExpPatternOk.j3 k h.1 h.2.1 h.2.2.1 h.2.2.2.1 h.2.2.2.2.1 h.2.2.2.2.2⟩)],
 [], []⟩
theorem impl_ExpPatternOk.holds (k : Nat) : (impl_ExpPatternOk.ct k).Holds Tryd.prog 18 :=
 fnOk sg.kit Tryd.f18 _ impl_ExpPatternOk.d 1 k (fun j _ => ⟨impl_ExpFormOk.holds j, impl_expLiterals.holds j, impl_expIs.holds j, impl_expNames_look.holds j, True.intro⟩)
def impl_ExpRules.ct (k : Nat) : Ct sg := ⟨true, ⟨[(0, .st 0)], []⟩, ⟨[(0, .agg [.warr 0, .warr 1]), (1, oB)], [.ow false true 29 (.st 0), .ow false true 74 (.st 2)]⟩, [(.st 0)], [.bool, (.sl 29 (.st 0)), (.sl 74 (.st 2))], fun h => impl_ExpRules.f k h⟩
def impl_ExpRules.d : FD sg (HL sg.S [.bool, (.sl 29 (.st 0)), (.sl 74 (.st 2))]) := ⟨fun k => [(18, impl_ExpPatternOk.ct k), (24, impl_ExpFormOk.ct k), (45, impl_expLiterals.ct k), (46, impl_expIs.ct k), (61, impl_expCopy.ct k)],
 [(6, ⟨⟨[(2, .one (.ptr 0 0)), (4, .one (.ptr 1 0)), (58, .one (.sub 2 2 5)), (59, oI), (60, oI)], [.cells [] [.any, .any], .cells [] [.warr 3, .arr 4], .tk 29 (.st 0), .ow false true 29 (.st 0), .ow false true 74 (.st 2)]⟩, [tI, tI, (.sl 29 (.st 0)), tI, (.sl 29 (.st 0)), (.sl 74 (.st 2))], fun k h => impl_ExpRules.l6 k h.1 h.2.1 h.2.2.1 h.2.2.2.1 h.2.2.2.2.1 h.2.2.2.2.2⟩)],
 [(100016, ⟨⟨[(2, .one (.ptr 0 0)), (4, .one (.ptr 1 0)), (6, .one (.ptr 2 0)), (7, .one (.ptr 3 0)), (58, .one (.sub 4 2 5)), (59, oI), (60, oI)], [.cells [] [.any, .any], .cells [] [.warr 5, .arr 6], .cells [] [.any, .any, .warr 7, .any, .warr 8], .cells [] [.val tI, .val .str, .warr 9, .val tI, .warr 10], .tk 29 (.st 0), .ow false true 29 (.st 0), .ow false true 74 (.st 2), .arr 3 tI, .tk 29 (.st 0), .arr 3 tI, .ow false true 29 (.st 0)]⟩, [tI, tI, tI, .str, tI, (.sl 29 (.st 0)), tI, (.sl 29 (.st 0)), (.sl 74 (.st 2)), (.sl 3 tI), (.sl 29 (.st 0)), tI, (.sl 3 tI), (.sl 29 (.st 0))], fun k h => impl_ExpRules.d16 k h.1 h.2.1 h.2.2.1 h.2.2.2.1 h.2.2.2.2.1 h.2.2.2.2.2.1 h.2.2.2.2.2.2.1 h.2.2.2.2.2.2.2.1 h.2.2.2.2.2.2.2.2.1 h.2.2.2.2.2.2.2.2.2.1 h.2.2.2.2.2.2.2.2.2.2.1 h.2.2.2.2.2.2.2.2.2.2.2.1 h.2.2.2.2.2.2.2.2.2.2.2.2.1 h.2.2.2.2.2.2.2.2.2.2.2.2.2⟩),
 (2, ⟨⟨[(1, .one (.ptr 0 0)), (2, .one (.ptr 1 0)), (46, oB)], [.cells [] [.val tI, .val .str, .val (.sl 3 tI), .val tI, .val (.sl 29 (.st 0))], .cells [] [.any, .any]]⟩, [.bool, tI, .str, (.sl 3 tI), tI, (.sl 29 (.st 0))], fun k h => impl_ExpRules.j2 k h.1 h.2.1 h.2.2.1 h.2.2.2.1 h.2.2.2.2.1 h.2.2.2.2.2⟩),
 (10, ⟨⟨[(2, .one (.ptr 0 0)), (4, .one (.ptr 1 0)), (6, .one (.ptr 2 0)), (58, .one (.sub 3 2 5)), (59, oI), (60, oI)], [.cells [] [.any, .any], .cells [] [.warr 4, .arr 5], .cells [] [.any, .any, .warr 6, .any, .warr 7], .tk 29 (.st 0), .ow false true 29 (.st 0), .ow false true 74 (.st 2), .arr 3 tI, .ow false true 29 (.st 0)]⟩, [tI, tI, (.sl 29 (.st 0)), tI, (.sl 29 (.st 0)), (.sl 74 (.st 2)), (.sl 3 tI), (.sl 29 (.st 0))], fun k h => impl_ExpRules.j10 k h.1 h.2.1 h.2.2.1 h.2.2.2.1 h.2.2.2.2.1 h.2.2.2.2.2.1 h.2.2.2.2.2.2.1 h.2.2.2.2.2.2.2⟩),
 (13, ⟨⟨[(2, .one (.ptr 0 0)), (4, .one (.ptr 1 0)), (6, .one (.ptr 2 0)), (7, .one (.ptr 3 0)), (58, .one (.sub 4 2 5)), (59, oI), (60, oI)], [.cells [] [.any, .any], .cells [] [.warr 5, .arr 6], .cells [] [.any, .any, .warr 7, .any, .warr 8], .cells [] [.val tI, .val .str, .warr 9, .val tI, .warr 10], .tk 29 (.st 0), .ow false true 29 (.st 0), .ow false true 74 (.st 2), .arr 3 tI, .tk 29 (.st 0), .arr 3 tI, .ow false true 29 (.st 0)]⟩, [tI, tI, tI, .str, tI, (.sl 29 (.st 0)), tI, (.sl 29 (.st 0)), (.sl 74 (.st 2)), (.sl 3 tI), (.sl 29 (.st 0)), tI, (.sl 3 tI), (.sl 29 (.st 0))], fun k h => impl_ExpRules.j13 k h.1 h.2.1 h.2.2.1 h.2.2.2.1 h.2.2.2.2.1 h.2.2.2.2.2.1 h.2.2.2.2.2.2.1 h.2.2.2.2.2.2.2.1 h.2.2.2.2.2.2.2.2.1 h.2.2.2.2.2.2.2.2.2.1 h.2.2.2.2.2.2.2.2.2.2.1 h.2.2.2.2.2.2.2.2.2.2.2.1 h.2.2.2.2.2.2.2.2.2.2.2.2.1 h.2.2.2.2.2.2.2.2.2.2.2.2.2⟩)],
 [(16, [[0, 2, 3, 4, 5, 6, 7, 1, 8, 9, 10, 11], [0, 2, 3, 4, 5, 6, 7, 8, 1, 9, 10, 11]])], [119, 120]⟩
theorem impl_ExpRules.holds (k : Nat) : (impl_ExpRules.ct k).Holds Tryd.prog 28 :=
 fnOk sg.kit Tryd.f28 _ impl_ExpRules.d 6 k (fun j _ => ⟨impl_ExpPatternOk.holds j, impl_ExpFormOk.holds j, impl_expLiterals.holds j, impl_expIs.holds j, impl_expCopy.holds j, True.intro⟩)
def laws_eqIntS.ct (k : Nat) : Ct sg := ⟨true, ⟨[(0, .one (.val (.sl 3 tI))), (1, .one (.val (.sl 3 tI)))], []⟩, ⟨[(0, oB)], []⟩, [(.sl 3 tI), (.sl 3 tI)], [.bool], fun h => laws_eqIntS.f k h.1 h.2⟩
def laws_eqIntS.d : FD sg (HL sg.S [.bool]) := ⟨fun _ => [],
 [(4, ⟨⟨[(0, .one (.val (.sl 3 tI))), (1, .one (.val (.sl 3 tI))), (5, oI)], []⟩, [(.sl 3 tI), (.sl 3 tI), tI], fun k h => laws_eqIntS.l4 k h.1 h.2.1 h.2.2⟩)],
 [],
 [(6, [[0, 1, 2, 3, 4, 5, 6, 7, 8]])], []⟩
theorem laws_eqIntS.holds (k : Nat) : (laws_eqIntS.ct k).Holds Tryd.prog 36 :=
 fnOk sg.kit Tryd.f36 _ laws_eqIntS.d 1 k (fun _ _ => True.intro)
def laws_eqExpFormS.ct (k : Nat) : Ct sg := ⟨true, ⟨[(0, .one (.val (.sl 29 (.st 0)))), (1, .one (.val (.sl 29 (.st 0))))], []⟩, ⟨[(0, oB)], []⟩, [(.sl 29 (.st 0)), (.sl 29 (.st 0))], [.bool], fun h => laws_eqExpFormS.f k h.1 h.2⟩
def laws_eqExpForm.ct (k : Nat) : Ct sg := ⟨true, ⟨[(0, .st 0), (1, .st 0)], []⟩, ⟨[(0, oB)], []⟩, [(.st 0), (.st 0)], [.bool], fun h => laws_eqExpForm.f k h.1 h.2⟩
def laws_eqExpFormS.d : FD sg (HL sg.S [.bool]) := ⟨fun k => [(12, laws_eqExpForm.ct k)],
 [(4, ⟨⟨[(0, .one (.val (.sl 29 (.st 0)))), (1, .one (.val (.sl 29 (.st 0)))), (5, oI)], []⟩, [(.sl 29 (.st 0)), (.sl 29 (.st 0)), tI], fun k h => laws_eqExpFormS.l4 k h.1 h.2.1 h.2.2⟩)],
 [],
 [(6, [[0, 1, 2, 3, 4, 5, 6, 7, 8, 9]])], []⟩
def laws_eqExpForm.d : FD sg (HL sg.S [.bool]) := ⟨fun k => [(19, laws_eqExpFormS.ct k), (36, laws_eqIntS.ct k)],
 [],
 [],
 [], []⟩
theorem laws_eqExpFormS.all : ∀ k : Nat, (laws_eqExpFormS.ct k).Holds Tryd.prog 19 ∧ (laws_eqExpForm.ct k).Holds Tryd.prog 12 :=
 recOk ⟨zeroOk, zeroOk⟩ fun k ih =>
 ⟨fnOk sg.kit Tryd.f19 _ laws_eqExpFormS.d 1 k (fun j hj => ⟨(ih j hj).2, True.intro⟩), fnOk sg.kit Tryd.f12 _ laws_eqExpForm.d 0 k (fun j hj => ⟨(ih j hj).1, laws_eqIntS.holds j, True.intro⟩)⟩
theorem laws_eqExpFormS.holds (k : Nat) : (laws_eqExpFormS.ct k).Holds Tryd.prog 19 := (laws_eqExpFormS.all k).1
theorem laws_eqExpForm.holds (k : Nat) : (laws_eqExpForm.ct k).Holds Tryd.prog 12 := (laws_eqExpFormS.all k).2
def laws_eqExpRule.ct (k : Nat) : Ct sg := ⟨true, ⟨[(0, .st 2), (1, .st 2)], []⟩, ⟨[(0, oB)], []⟩, [(.st 2), (.st 2)], [.bool], fun h => laws_eqExpRule.f k h.1 h.2⟩
def laws_eqExpRule.d : FD sg (HL sg.S [.bool]) := ⟨fun k => [(12, laws_eqExpForm.ct k)],
 [],
 [],
 [], []⟩
theorem laws_eqExpRule.holds (k : Nat) : (laws_eqExpRule.ct k).Holds Tryd.prog 90 :=
 fnOk sg.kit Tryd.f90 _ laws_eqExpRule.d 0 k (fun j _ => ⟨laws_eqExpForm.holds j, True.intro⟩)
def laws_eqExpRuleS.ct (k : Nat) : Ct sg := ⟨true, ⟨[(0, .one (.val (.sl 74 (.st 2)))), (1, .one (.val (.sl 74 (.st 2))))], []⟩, ⟨[(0, oB)], []⟩, [(.sl 74 (.st 2)), (.sl 74 (.st 2))], [.bool], fun h => laws_eqExpRuleS.f k h.1 h.2⟩
def laws_eqExpRuleS.d : FD sg (HL sg.S [.bool]) := ⟨fun k => [(90, laws_eqExpRule.ct k)],
 [(4, ⟨⟨[(0, .one (.val (.sl 74 (.st 2)))), (1, .one (.val (.sl 74 (.st 2)))), (5, oI)], []⟩, [(.sl 74 (.st 2)), (.sl 74 (.st 2)), tI], fun k h => laws_eqExpRuleS.l4 k h.1 h.2.1 h.2.2⟩)],
 [],
 [(6, [[0, 1, 2, 3, 4, 5, 6, 7, 8, 9]])], []⟩
theorem laws_eqExpRuleS.holds (k : Nat) : (laws_eqExpRuleS.ct k).Holds Tryd.prog 62 :=
 fnOk sg.kit Tryd.f62 _ laws_eqExpRuleS.d 1 k (fun j _ => ⟨laws_eqExpRule.holds j, True.intro⟩)
def laws_eqExpMacro.ct (k : Nat) : Ct sg := ⟨true, ⟨[(0, .st 1), (1, .st 1)], []⟩, ⟨[(0, oB)], []⟩, [(.st 1), (.st 1)], [.bool], fun h => laws_eqExpMacro.f k h.1 h.2⟩
def laws_eqExpMacro.d : FD sg (HL sg.S [.bool]) := ⟨fun k => [(19, laws_eqExpFormS.ct k), (62, laws_eqExpRuleS.ct k)],
 [],
 [],
 [], []⟩
theorem laws_eqExpMacro.holds (k : Nat) : (laws_eqExpMacro.ct k).Holds Tryd.prog 29 :=
 fnOk sg.kit Tryd.f29 _ laws_eqExpMacro.d 0 k (fun j _ => ⟨laws_eqExpFormS.holds j, laws_eqExpRuleS.holds j, True.intro⟩)
def laws_markIntS.ct (k : Nat) : Ct sg := ⟨false, ⟨[(0, .one (.warr 0)), (1, oI)], [.ow true false 3 tI]⟩, ⟨[(0, oI)], [.ow true false 3 tI]⟩, [tI, (.sl 3 tI)], [tI, (.sl 3 tI)], fun h => laws_markIntS.f k h.1 h.2⟩
def laws_markIntS.d : FD sg (HL sg.S [tI, (.sl 3 tI)]) := ⟨fun _ => [],
 [(2, ⟨⟨[(0, .one (.warr 0)), (1, oI), (5, oI)], [.ow true false 3 tI]⟩, [tI, tI, (.sl 3 tI)], fun k h => laws_markIntS.l2 k h.1 h.2.1 h.2.2⟩)],
 [(1, ⟨⟨[(0, .one (.warr 0)), (1, oI)], [.ow true false 3 tI]⟩, [tI, (.sl 3 tI)], fun k h => laws_markIntS.j1 k h.1 h.2⟩),
 (2, ⟨⟨[(0, .one (.warr 0)), (1, oI), (5, oI)], [.ow true false 3 tI]⟩, [tI, tI, (.sl 3 tI)], fun k h => laws_markIntS.j2 k h.1 h.2.1 h.2.2⟩),
 (3, ⟨⟨[(0, .one (.warr 0)), (1, oI), (5, oI)], [.ow true false 3 tI]⟩, [tI, tI, (.sl 3 tI)], fun k h => laws_markIntS.j3 k h.1 h.2.1 h.2.2⟩),
 (4, ⟨⟨[(0, .one (.warr 0)), (1, oI), (5, oI)], [.ow true false 3 tI]⟩, [tI, tI, (.sl 3 tI)], fun k h => laws_markIntS.j4 k h.1 h.2.1 h.2.2⟩),
 (5, ⟨⟨[(0, .one (.warr 0)), (1, oI), (5, oI)], [.ow true false 3 tI]⟩, [tI, tI, (.sl 3 tI)], fun k h => laws_markIntS.j5 k h.1 h.2.1 h.2.2⟩),
 (6, ⟨⟨[(1, oI)], [.ow true false 3 tI]⟩, [tI, (.sl 3 tI)], fun k h => laws_markIntS.j6 k h.1 h.2⟩)],
 [], []⟩
theorem laws_markIntS.holds (k : Nat) : (laws_markIntS.ct k).Holds Tryd.prog 37 :=
 fnOk sg.kit Tryd.f37 _ laws_markIntS.d 7 k (fun _ _ => True.intro)
def laws_markText.ct (k : Nat) : Ct sg := ⟨true, ⟨[(0, oI)], []⟩, ⟨[(0, oS)], []⟩, [tI], [.str], fun h => laws_markText.f k h⟩
def laws_markText.d : FD sg (HL sg.S [.str]) := ⟨fun _ => [],
 [(4, ⟨⟨[(0, oI), (3, oS)], []⟩, [tI, .str], fun k h => laws_markText.l4 k h.1 h.2⟩)],
 [],
 [], []⟩
theorem laws_markText.holds (k : Nat) : (laws_markText.ct k).Holds Tryd.prog 70 :=
 fnOk sg.kit Tryd.f70 _ laws_markText.d 1 k (fun _ _ => True.intro)
def laws_markExpFormS.ct (k : Nat) : Ct sg := ⟨false, ⟨[(0, .one (.warr 0)), (1, oI)], [.ow true true 29 (.st 0)]⟩, ⟨[(0, oI)], [.ow true true 29 (.st 0)]⟩, [tI, (.sl 29 (.st 0))], [tI, (.sl 29 (.st 0))], fun h => laws_markExpFormS.f k h.1 h.2⟩
def laws_markExpFormS.d : FD sg (HL sg.S [tI, (.sl 29 (.st 0))]) := ⟨fun k => [(37, laws_markIntS.ct k), (38, laws_markExpFormS.ct k), (70, laws_markText.ct k)],
 [(2, ⟨⟨[(0, .one (.warr 0)), (1, oI), (5, oI)], [.ow true true 29 (.st 0)]⟩, [tI, tI, (.sl 29 (.st 0))], fun k h => laws_markExpFormS.l2 k h.1 h.2.1 h.2.2⟩)],
 [(1, ⟨⟨[(0, .one (.warr 0)), (1, oI)], [.ow true true 29 (.st 0)]⟩, [tI, (.sl 29 (.st 0))], fun k h => laws_markExpFormS.j1 k h.1 h.2⟩),
 (2, ⟨⟨[(0, .one (.warr 0)), (1, oI), (5, oI)], [.ow true true 29 (.st 0)]⟩, [tI, tI, (.sl 29 (.st 0))], fun k h => laws_markExpFormS.j2 k h.1 h.2.1 h.2.2⟩),
 (3, ⟨⟨[(0, .one (.warr 0)), (1, oI), (5, oI)], [.ow true true 29 (.st 0)]⟩, [tI, tI, (.sl 29 (.st 0))], fun k h => laws_markExpFormS.j3 k h.1 h.2.1 h.2.2⟩),
 (4, ⟨⟨[(0, .one (.warr 0)), (1, oI), (5, oI)], [.ow true true 29 (.st 0)]⟩, [tI, tI, (.sl 29 (.st 0))], fun k h => laws_markExpFormS.j4 k h.1 h.2.1 h.2.2⟩),
 (5, ⟨⟨[(0, .one (.warr 0)), (1, oI), (5, oI)], [.ow true true 29 (.st 0)]⟩, [tI, tI, (.sl 29 (.st 0))], fun k h => laws_markExpFormS.j5 k h.1 h.2.1 h.2.2⟩),
 (6, ⟨⟨[(0, .one (.warr 0)), (1, oI), (5, oI)], [.ow true true 29 (.st 0)]⟩, [tI, tI, (.sl 29 (.st 0))], fun k h => laws_markExpFormS.j6 k h.1 h.2.1 h.2.2⟩),
 (7, ⟨⟨[(0, .one (.warr 0)), (1, oI), (5, oI)], [.ow true true 29 (.st 0)]⟩, [tI, tI, (.sl 29 (.st 0))], fun k h => laws_markExpFormS.j7 k h.1 h.2.1 h.2.2⟩),
 (8, ⟨⟨[(0, .one (.warr 0)), (1, oI), (5, oI)], [.ow true true 29 (.st 0)]⟩, [tI, tI, (.sl 29 (.st 0))], fun k h => laws_markExpFormS.j8 k h.1 h.2.1 h.2.2⟩),
 (9, ⟨⟨[(0, .one (.warr 0)), (1, oI), (5, oI)], [.ow true true 29 (.st 0)]⟩, [tI, tI, (.sl 29 (.st 0))], fun k h => laws_markExpFormS.j9 k h.1 h.2.1 h.2.2⟩),
 (10, ⟨⟨[(0, .one (.warr 0)), (1, oI), (5, oI)], [.ow true true 29 (.st 0)]⟩, [tI, tI, (.sl 29 (.st 0))], fun k h => laws_markExpFormS.j10 k h.1 h.2.1 h.2.2⟩),
 (11, ⟨⟨[(0, .one (.warr 0)), (1, oI), (5, oI)], [.ow true true 29 (.st 0)]⟩, [tI, tI, (.sl 29 (.st 0))], fun k h => laws_markExpFormS.j11 k h.1 h.2.1 h.2.2⟩),
 (12, ⟨⟨[(1, oI)], [.ow true true 29 (.st 0)]⟩, [tI, (.sl 29 (.st 0))], fun k h => laws_markExpFormS.j12 k h.1 h.2⟩)],
 [], []⟩
theorem laws_markExpFormS.all : ∀ k : Nat, (laws_markExpFormS.ct k).Holds Tryd.prog 38 :=
 recOk zeroOk fun k ih =>
 fnOk sg.kit Tryd.f38 _ laws_markExpFormS.d 13 k (fun j hj => ⟨laws_markIntS.holds j, (ih j hj), laws_markText.holds j, True.intro⟩)
theorem laws_markExpFormS.holds (k : Nat) : (laws_markExpFormS.ct k).Holds Tryd.prog 38 := (laws_markExpFormS.all k)
def laws_markExpForm.ct (k : Nat) : Ct sg := ⟨false, ⟨[(0, .agg [.val tI, .val .str, .warr 0, .val tI, .warr 1]), (1, oI)], [.ow true false 3 tI, .ow true true 29 (.st 0)]⟩, ⟨[(0, oI)], [.ow true false 3 tI, .ow true true 29 (.st 0)]⟩, [tI, .str, tI, tI, (.sl 3 tI), (.sl 29 (.st 0))], [tI, (.sl 3 tI), (.sl 29 (.st 0))], fun h => laws_markExpForm.f k h.1 h.2.1 h.2.2.1 h.2.2.2.1 h.2.2.2.2.1 h.2.2.2.2.2⟩
def laws_markExpForm.d : FD sg (HL sg.S [tI, (.sl 3 tI), (.sl 29 (.st 0))]) := ⟨fun k => [(37, laws_markIntS.ct k), (38, laws_markExpFormS.ct k)],
 [],
 [(1, ⟨⟨[(1, oI), (2, .one (.ptr 2 0))], [.ow true false 3 tI, .ow true true 29 (.st 0), .cells [] [.any, .any, .warr 0, .any, .warr 1]]⟩, [tI, (.sl 3 tI), (.sl 29 (.st 0))], fun k h => laws_markExpForm.j1 k h.1 h.2.1 h.2.2⟩),
 (2, ⟨⟨[(1, oI), (2, .one (.ptr 2 0))], [.ow true false 3 tI, .ow true true 29 (.st 0), .cells [] [.any, .any, .warr 0, .any, .warr 1]]⟩, [tI, (.sl 3 tI), (.sl 29 (.st 0))], fun k h => laws_markExpForm.j2 k h.1 h.2.1 h.2.2⟩),
 (3, ⟨⟨[(1, oI)], [.ow true false 3 tI, .ow true true 29 (.st 0)]⟩, [tI, (.sl 3 tI), (.sl 29 (.st 0))], fun k h => laws_markExpForm.j3 k h.1 h.2.1 h.2.2⟩)],
 [], []⟩
theorem laws_markExpForm.holds (k : Nat) : (laws_markExpForm.ct k).Holds Tryd.prog 13 :=
 fnOk sg.kit Tryd.f13 _ laws_markExpForm.d 3 k (fun j _ => ⟨laws_markIntS.holds j, laws_markExpFormS.holds j, True.intro⟩)
def laws_markExpRuleS.ct (k : Nat) : Ct sg := ⟨false, ⟨[(0, .one (.warr 0)), (1, oI)], [.ow true true 74 (.st 2)]⟩, ⟨[(0, oI)], [.ow true true 74 (.st 2)]⟩, [tI, (.sl 74 (.st 2))], [tI, (.sl 74 (.st 2))], fun h => laws_markExpRuleS.f k h.1 h.2⟩
def laws_markExpRuleS.d : FD sg (HL sg.S [tI, (.sl 74 (.st 2))]) := ⟨fun k => [(37, laws_markIntS.ct k), (38, laws_markExpFormS.ct k), (70, laws_markText.ct k)],
 [(2, ⟨⟨[(0, .one (.warr 0)), (1, oI), (5, oI)], [.ow true true 74 (.st 2)]⟩, [tI, tI, (.sl 74 (.st 2))], fun k h => laws_markExpRuleS.l2 k h.1 h.2.1 h.2.2⟩)],
 [(1, ⟨⟨[(0, .one (.warr 0)), (1, oI)], [.ow true true 74 (.st 2)]⟩, [tI, (.sl 74 (.st 2))], fun k h => laws_markExpRuleS.j1 k h.1 h.2⟩),
 (2, ⟨⟨[(0, .one (.warr 0)), (1, oI), (5, oI)], [.ow true true 74 (.st 2)]⟩, [tI, tI, (.sl 74 (.st 2))], fun k h => laws_markExpRuleS.j2 k h.1 h.2.1 h.2.2⟩),
 (3, ⟨⟨[(0, .one (.warr 0)), (1, oI), (5, oI)], [.ow true true 74 (.st 2)]⟩, [tI, tI, (.sl 74 (.st 2))], fun k h => laws_markExpRuleS.j3 k h.1 h.2.1 h.2.2⟩),
 (4, ⟨⟨[(0, .one (.warr 0)), (1, oI), (5, oI)], [.ow true true 74 (.st 2)]⟩, [tI, tI, (.sl 74 (.st 2))], fun k h => laws_markExpRuleS.j4 k h.1 h.2.1 h.2.2⟩),
 (5, ⟨⟨[(0, .one (.warr 0)), (1, oI), (5, oI)], [.ow true true 74 (.st 2)]⟩, [tI, tI, (.sl 74 (.st 2))], fun k h => laws_markExpRuleS.j5 k h.1 h.2.1 h.2.2⟩),
 (6, ⟨⟨[(0, .one (.warr 0)), (1, oI), (5, oI)], [.ow true true 74 (.st 2)]⟩, [tI, tI, (.sl 74 (.st 2))], fun k h => laws_markExpRuleS.j6 k h.1 h.2.1 h.2.2⟩),
 (7, ⟨⟨[(0, .one (.warr 0)), (1, oI), (5, oI)], [.ow true true 74 (.st 2)]⟩, [tI, tI, (.sl 74 (.st 2))], fun k h => laws_markExpRuleS.j7 k h.1 h.2.1 h.2.2⟩),
 (8, ⟨⟨[(0, .one (.warr 0)), (1, oI), (5, oI)], [.ow true true 74 (.st 2)]⟩, [tI, tI, (.sl 74 (.st 2))], fun k h => laws_markExpRuleS.j8 k h.1 h.2.1 h.2.2⟩),
 (9, ⟨⟨[(0, .one (.warr 0)), (1, oI), (5, oI)], [.ow true true 74 (.st 2)]⟩, [tI, tI, (.sl 74 (.st 2))], fun k h => laws_markExpRuleS.j9 k h.1 h.2.1 h.2.2⟩),
 (10, ⟨⟨[(0, .one (.warr 0)), (1, oI), (5, oI)], [.ow true true 74 (.st 2)]⟩, [tI, tI, (.sl 74 (.st 2))], fun k h => laws_markExpRuleS.j10 k h.1 h.2.1 h.2.2⟩),
 (11, ⟨⟨[(0, .one (.warr 0)), (1, oI), (5, oI)], [.ow true true 74 (.st 2)]⟩, [tI, tI, (.sl 74 (.st 2))], fun k h => laws_markExpRuleS.j11 k h.1 h.2.1 h.2.2⟩),
 (12, ⟨⟨[(0, .one (.warr 0)), (1, oI), (5, oI)], [.ow true true 74 (.st 2)]⟩, [tI, tI, (.sl 74 (.st 2))], fun k h => laws_markExpRuleS.j12 k h.1 h.2.1 h.2.2⟩),
 (13, ⟨⟨[(0, .one (.warr 0)), (1, oI), (5, oI)], [.ow true true 74 (.st 2)]⟩, [tI, tI, (.sl 74 (.st 2))], fun k h => laws_markExpRuleS.j13 k h.1 h.2.1 h.2.2⟩),
 (14, ⟨⟨[(0, .one (.warr 0)), (1, oI), (5, oI)], [.ow true true 74 (.st 2)]⟩, [tI, tI, (.sl 74 (.st 2))], fun k h => laws_markExpRuleS.j14 k h.1 h.2.1 h.2.2⟩),
 (15, ⟨⟨[(0, .one (.warr 0)), (1, oI), (5, oI)], [.ow true true 74 (.st 2)]⟩, [tI, tI, (.sl 74 (.st 2))], fun k h => laws_markExpRuleS.j15 k h.1 h.2.1 h.2.2⟩),
 (16, ⟨⟨[(0, .one (.warr 0)), (1, oI), (5, oI)], [.ow true true 74 (.st 2)]⟩, [tI, tI, (.sl 74 (.st 2))], fun k h => laws_markExpRuleS.j16 k h.1 h.2.1 h.2.2⟩),
 (17, ⟨⟨[(0, .one (.warr 0)), (1, oI), (5, oI)], [.ow true true 74 (.st 2)]⟩, [tI, tI, (.sl 74 (.st 2))], fun k h => laws_markExpRuleS.j17 k h.1 h.2.1 h.2.2⟩),
 (18, ⟨⟨[(0, .one (.warr 0)), (1, oI), (5, oI)], [.ow true true 74 (.st 2)]⟩, [tI, tI, (.sl 74 (.st 2))], fun k h => laws_markExpRuleS.j18 k h.1 h.2.1 h.2.2⟩),
 (19, ⟨⟨[(0, .one (.warr 0)), (1, oI), (5, oI)], [.ow true true 74 (.st 2)]⟩, [tI, tI, (.sl 74 (.st 2))], fun k h => laws_markExpRuleS.j19 k h.1 h.2.1 h.2.2⟩),
 (20, ⟨⟨[(1, oI)], [.ow true true 74 (.st 2)]⟩, [tI, (.sl 74 (.st 2))], fun k h => laws_markExpRuleS.j20 k h.1 h.2⟩)],
 [], []⟩
theorem laws_markExpRuleS.holds (k : Nat) : (laws_markExpRuleS.ct k).Holds Tryd.prog 63 :=
 fnOk sg.kit Tryd.f63 _ laws_markExpRuleS.d 21 k (fun j _ => ⟨laws_markIntS.holds j, laws_markExpFormS.holds j, laws_markText.holds j, True.intro⟩)
def laws_markExpMacro.ct (k : Nat) : Ct sg := ⟨false, ⟨[(0, .agg [.warr 0, .warr 1]), (1, oI)], [.ow true true 29 (.st 0), .ow true true 74 (.st 2)]⟩, ⟨[(0, oI)], [.ow true true 29 (.st 0), .ow true true 74 (.st 2)]⟩, [tI, (.sl 29 (.st 0)), (.sl 74 (.st 2))], [tI, (.sl 29 (.st 0)), (.sl 74 (.st 2))], fun h => laws_markExpMacro.f k h.1 h.2.1 h.2.2⟩
def laws_markExpMacro.d : FD sg (HL sg.S [tI, (.sl 29 (.st 0)), (.sl 74 (.st 2))]) := ⟨fun k => [(38, laws_markExpFormS.ct k), (63, laws_markExpRuleS.ct k)],
 [],
 [(1, ⟨⟨[(1, oI), (2, .one (.ptr 2 0))], [.ow true true 29 (.st 0), .ow true true 74 (.st 2), .cells [] [.warr 0, .warr 1]]⟩, [tI, (.sl 29 (.st 0)), (.sl 74 (.st 2))], fun k h => laws_markExpMacro.j1 k h.1 h.2.1 h.2.2⟩),
 (2, ⟨⟨[(1, oI), (2, .one (.ptr 2 0))], [.ow true true 29 (.st 0), .ow true true 74 (.st 2), .cells [] [.warr 0, .warr 1]]⟩, [tI, (.sl 29 (.st 0)), (.sl 74 (.st 2))], fun k h => laws_markExpMacro.j2 k h.1 h.2.1 h.2.2⟩),
 (3, ⟨⟨[(1, oI)], [.ow true true 29 (.st 0), .ow true true 74 (.st 2)]⟩, [tI, (.sl 29 (.st 0)), (.sl 74 (.st 2))], fun k h => laws_markExpMacro.j3 k h.1 h.2.1 h.2.2⟩)],
 [], []⟩
theorem laws_markExpMacro.holds (k : Nat) : (laws_markExpMacro.ct k).Holds Tryd.prog 30 :=
 fnOk sg.kit Tryd.f30 _ laws_markExpMacro.d 3 k (fun j _ => ⟨laws_markExpFormS.holds j, laws_markExpRuleS.holds j, True.intro⟩)
def laws_heldIntS.ct (k : Nat) : Ct sg := ⟨true, ⟨[(0, .one (.val (.sl 3 tI))), (1, oI)], []⟩, ⟨[(0, oI)], []⟩, [(.sl 3 tI), tI], [tI], fun h => laws_heldIntS.f k h.1 h.2⟩
def laws_heldIntS.d : FD sg (HL sg.S [tI]) := ⟨fun _ => [],
 [(2, ⟨⟨[(0, .one (.val (.sl 3 tI))), (1, oI), (5, oI)], []⟩, [(.sl 3 tI), tI, tI], fun k h => laws_heldIntS.l2 k h.1 h.2.1 h.2.2⟩)],
 [],
 [], []⟩
theorem laws_heldIntS.holds (k : Nat) : (laws_heldIntS.ct k).Holds Tryd.prog 39 :=
 fnOk sg.kit Tryd.f39 _ laws_heldIntS.d 1 k (fun _ _ => True.intro)
def laws_heldExpFormS.ct (k : Nat) : Ct sg := ⟨true, ⟨[(0, .one (.val (.sl 29 (.st 0)))), (1, oI)], []⟩, ⟨[(0, oI)], []⟩, [(.sl 29 (.st 0)), tI], [tI], fun h => laws_heldExpFormS.f k h.1 h.2⟩
def laws_heldExpFormS.d : FD sg (HL sg.S [tI]) := ⟨fun k => [(39, laws_heldIntS.ct k), (40, laws_heldExpFormS.ct k), (70, laws_markText.ct k)],
 [(2, ⟨⟨[(0, .one (.val (.sl 29 (.st 0)))), (1, oI), (5, oI)], []⟩, [(.sl 29 (.st 0)), tI, tI], fun k h => laws_heldExpFormS.l2 k h.1 h.2.1 h.2.2⟩)],
 [(100007, ⟨⟨[(0, .one (.val (.sl 29 (.st 0)))), (1, oI), (5, oI)], []⟩, [(.sl 29 (.st 0)), tI, tI], fun k h => laws_heldExpFormS.d7 k h.1 h.2.1 h.2.2⟩)],
 [(7, [[0, 1, 2, 3, 5, 4, 6, 7], [0, 1, 2, 3, 5, 6, 4, 7]])], []⟩
theorem laws_heldExpFormS.all : ∀ k : Nat, (laws_heldExpFormS.ct k).Holds Tryd.prog 40 :=
 recOk zeroOk fun k ih =>
 fnOk sg.kit Tryd.f40 _ laws_heldExpFormS.d 3 k (fun j hj => ⟨laws_heldIntS.holds j, (ih j hj), laws_markText.holds j, True.intro⟩)
theorem laws_heldExpFormS.holds (k : Nat) : (laws_heldExpFormS.ct k).Holds Tryd.prog 40 := (laws_heldExpFormS.all k)
def laws_heldExpRuleS.ct (k : Nat) : Ct sg := ⟨true, ⟨[(0, .one (.val (.sl 74 (.st 2)))), (1, oI)], []⟩, ⟨[(0, oI)], []⟩, [(.sl 74 (.st 2)), tI], [tI], fun h => laws_heldExpRuleS.f k h.1 h.2⟩
def laws_heldExpRuleS.d : FD sg (HL sg.S [tI]) := ⟨fun k => [(39, laws_heldIntS.ct k), (40, laws_heldExpFormS.ct k), (70, laws_markText.ct k)],
 [(2, ⟨⟨[(0, .one (.val (.sl 74 (.st 2)))), (1, oI), (5, oI)], []⟩, [(.sl 74 (.st 2)), tI, tI], fun k h => laws_heldExpRuleS.l2 k h.1 h.2.1 h.2.2⟩)],
 [(100007, ⟨⟨[(0, .one (.val (.sl 74 (.st 2)))), (1, oI), (5, oI)], []⟩, [(.sl 74 (.st 2)), tI, tI], fun k h => laws_heldExpRuleS.d7 k h.1 h.2.1 h.2.2⟩),
 (100022, ⟨⟨[(0, .one (.val (.sl 74 (.st 2)))), (1, oI), (5, oI)], []⟩, [(.sl 74 (.st 2)), tI, tI], fun k h => laws_heldExpRuleS.d22 k h.1 h.2.1 h.2.2⟩)],
 [(7, [[0, 1, 2, 3, 4, 6, 5, 7, 8], [0, 1, 2, 3, 4, 6, 7, 5, 8]]), (22, [[0, 1, 2, 3, 4, 6, 5, 7, 8], [0, 1, 2, 3, 4, 6, 7, 5, 8]])], []⟩
theorem laws_heldExpRuleS.holds (k : Nat) : (laws_heldExpRuleS.ct k).Holds Tryd.prog 64 :=
 fnOk sg.kit Tryd.f64 _ laws_heldExpRuleS.d 5 k (fun j _ => ⟨laws_heldIntS.holds j, laws_heldExpFormS.holds j, laws_markText.holds j, True.intro⟩)
def laws_heldExpMacro.ct (k : Nat) : Ct sg := ⟨true, ⟨[(0, .st 1), (1, oI)], []⟩, ⟨[(0, oI)], []⟩, [(.st 1), tI], [tI], fun h => laws_heldExpMacro.f k h.1 h.2⟩
def laws_heldExpMacro.d : FD sg (HL sg.S [tI]) := ⟨fun k => [(40, laws_heldExpFormS.ct k), (64, laws_heldExpRuleS.ct k)],
 [],
 [],
 [], []⟩
theorem laws_heldExpMacro.holds (k : Nat) : (laws_heldExpMacro.ct k).Holds Tryd.prog 31 :=
 fnOk sg.kit Tryd.f31 _ laws_heldExpMacro.d 0 k (fun j _ => ⟨laws_heldExpFormS.holds j, laws_heldExpRuleS.holds j, True.intro⟩)
def laws_FnExactExpRules.ct (k : Nat) : Ct sg := ⟨true, ⟨[(0, .st 3)], []⟩, ⟨[(0, oB)], []⟩, [(.st 3)], [.bool], fun h => laws_FnExactExpRules.f k h⟩
def laws_FnExactExpRules.d : FD sg (HL sg.S [.bool]) := ⟨fun k => [(8, laws_szExpForm.ct k), (10, laws_toExpForm.ct k), (12, laws_eqExpForm.ct k), (13, laws_markExpForm.ct k), (27, spec_ExpRules.ct k), (28, impl_ExpRules.ct k), (29, laws_eqExpMacro.ct k), (30, laws_markExpMacro.ct k), (31, laws_heldExpMacro.ct k)],
 [],
 [(100010, ⟨⟨[(1, .one (.ptr 0 0)), (4, .one (.ptr 1 0)), (5, oB), (6, .one (.ptr 2 0)), (7, .one (.ptr 3 0)), (8, oB)], [.cells [] [.val tI, .val .str, .val (.sl 3 tI), .val tI, .val (.sl 25 (.st 3))], .cells [] [.val (.sl 29 (.st 0)), .val (.sl 74 (.st 2))], .cells [] [.val tI, .val .str, .warr 4, .val tI, .warr 5], .cells [] [.warr 6, .warr 7], .arr 3 tI, .ow false true 29 (.st 0), .ow false true 29 (.st 0), .ow false true 74 (.st 2)]⟩, [.bool, .bool, tI, .str, (.sl 3 tI), tI, (.sl 25 (.st 3)), (.sl 29 (.st 0)), (.sl 74 (.st 2)), tI, .str, tI, (.sl 3 tI), (.sl 29 (.st 0)), (.sl 29 (.st 0)), (.sl 74 (.st 2))], fun k h => laws_FnExactExpRules.d10 k h.1 h.2.1 h.2.2.1 h.2.2.2.1 h.2.2.2.2.1 h.2.2.2.2.2.1 h.2.2.2.2.2.2.1 h.2.2.2.2.2.2.2.1 h.2.2.2.2.2.2.2.2.1 h.2.2.2.2.2.2.2.2.2.1 h.2.2.2.2.2.2.2.2.2.2.1 h.2.2.2.2.2.2.2.2.2.2.2.1 h.2.2.2.2.2.2.2.2.2.2.2.2.1 h.2.2.2.2.2.2.2.2.2.2.2.2.2.1 h.2.2.2.2.2.2.2.2.2.2.2.2.2.2.1 h.2.2.2.2.2.2.2.2.2.2.2.2.2.2.2⟩),
 (10, ⟨⟨[(1, .one (.ptr 0 0)), (4, .one (.ptr 1 0)), (5, oB), (6, .one (.ptr 2 0)), (7, .one (.ptr 3 0)), (8, oB)], [.cells [] [.val tI, .val .str, .val (.sl 3 tI), .val tI, .val (.sl 25 (.st 3))], .cells [] [.val (.sl 29 (.st 0)), .val (.sl 74 (.st 2))], .cells [] [.val tI, .val .str, .warr 4, .val tI, .warr 5], .cells [] [.warr 6, .warr 7], .arr 3 tI, .ow false true 29 (.st 0), .ow false true 29 (.st 0), .ow false true 74 (.st 2)]⟩, [.bool, .bool, tI, .str, (.sl 3 tI), tI, (.sl 25 (.st 3)), (.sl 29 (.st 0)), (.sl 74 (.st 2)), tI, .str, tI, (.sl 3 tI), (.sl 29 (.st 0)), (.sl 29 (.st 0)), (.sl 74 (.st 2))], fun k h => laws_FnExactExpRules.j10 k h.1 h.2.1 h.2.2.1 h.2.2.2.1 h.2.2.2.2.1 h.2.2.2.2.2.1 h.2.2.2.2.2.2.1 h.2.2.2.2.2.2.2.1 h.2.2.2.2.2.2.2.2.1 h.2.2.2.2.2.2.2.2.2.1 h.2.2.2.2.2.2.2.2.2.2.1 h.2.2.2.2.2.2.2.2.2.2.2.1 h.2.2.2.2.2.2.2.2.2.2.2.2.1 h.2.2.2.2.2.2.2.2.2.2.2.2.2.1 h.2.2.2.2.2.2.2.2.2.2.2.2.2.2.1 h.2.2.2.2.2.2.2.2.2.2.2.2.2.2.2⟩),
 (16, ⟨⟨[(1, .one (.ptr 0 0)), (4, .one (.ptr 1 0)), (5, oB), (7, .one (.ptr 2 0))], [.cells [] [.val tI, .val .str, .val (.sl 3 tI), .val tI, .val (.sl 25 (.st 3))], .cells [] [.val (.sl 29 (.st 0)), .val (.sl 74 (.st 2))], .cells [] [.warr 3, .warr 4], .ow false true 29 (.st 0), .ow false true 74 (.st 2)]⟩, [.bool, tI, .str, (.sl 3 tI), tI, (.sl 25 (.st 3)), (.sl 29 (.st 0)), (.sl 74 (.st 2)), (.sl 29 (.st 0)), (.sl 74 (.st 2))], fun k h => laws_FnExactExpRules.j16 k h.1 h.2.1 h.2.2.1 h.2.2.2.1 h.2.2.2.2.1 h.2.2.2.2.2.1 h.2.2.2.2.2.2.1 h.2.2.2.2.2.2.2.1 h.2.2.2.2.2.2.2.2.1 h.2.2.2.2.2.2.2.2.2⟩)],
 [(10, [[1, 0, 2, 3, 4], [1, 2, 0, 3, 4]])], []⟩
theorem laws_FnExactExpRules.holds (k : Nat) : (laws_FnExactExpRules.ct k).Holds Tryd.prog 7 :=
 fnOk sg.kit Tryd.f7 _ laws_FnExactExpRules.d 4 k (fun j _ => ⟨laws_szExpForm.holds j, laws_toExpForm.holds j, laws_eqExpForm.holds j, laws_markExpForm.holds j, spec_ExpRules.holds j, impl_ExpRules.holds j, laws_eqExpMacro.holds j, laws_markExpMacro.holds j, laws_heldExpMacro.holds j, True.intro⟩)
end
end Go.Proofs.YtmcbhnbemhfifaaDoor.RX
end
section
namespace Go.Proofs.YtmcbhnbemhfifaaDoor.RX
open Go K
set_option autoImplicit false
set_option linter.unusedVariables false
set_option linter.unusedSimpArgs false
theorem indForm {P : TExpForm → Prop} (h : ∀ x : TExpForm, (∀ y ∈ x.vKids, P y) → P x) : ∀ x, P x := by
 have key : ∀ n (x : TExpForm), SizeOf.sizeOf x < n → P x := by
  intro n
  induction n with
  | zero => intro x hx; omega
  | succ n ih =>
   intro x hx
   refine h x (fun y hy => ih y ?_)
   have h1 := List.sizeOf_lt_of_mem hy
   cases x
   simp at h1 hx ⊢
   omega
 exact fun x => key _ x (Nat.lt_succ_self _)
mutual
def wid : TExpForm → Int
 | ⟨_, t, sc, _, ks⟩ => 1 + (t.size : Int) + (sc.length : Int) + wids ks
def wids : List TExpForm → Int
 | [] => 0
 | x :: l => wid x + wids l
end
theorem wid_mk (x : TExpForm) : wid x = 1 + (x.vText.size : Int) + (x.vScopes.length : Int) + wids x.vKids := by cases x; simp only [wid]
theorem wid_c (a : Int) (t : ByteArray) (sc : List Int) (d : Int) (ks : List TExpForm) : wid ⟨a, t, sc, d, ks⟩ = 1 + (t.size : Int) + (sc.length : Int) + wids ks := by simp only [wid]
theorem wids_len (l : List TExpForm) : 0 ≤ wids l ∧ (l.length : Int) ≤ wids l := by
 have key : ∀ x : TExpForm, 1 ≤ wid x := by
  refine indForm fun x ih => ?_
  rw [wid_mk]
  have : ∀ l : List TExpForm, (∀ y ∈ l, 1 ≤ wid y) → 0 ≤ wids l := by
   intro l
   induction l with
   | nil => intro _; simp [wids]
   | cons y l ihl =>
    intro h
    have := h y (by simp)
    have := ihl fun z hz => h z (List.mem_cons_of_mem _ hz)
    simp only [wids]; omega
  have := this _ ih
  omega
 induction l with
 | nil => simp [wids]
 | cons x l ih =>
  have := key x
  simp only [wids, List.length_cons]; omega
theorem wid_pos (x : TExpForm) : 1 ≤ wid x := by rw [wid_mk]; have := (wids_len x.vKids).1; omega
theorem wids_mem {l : List TExpForm} {x : TExpForm} (h : x ∈ l) : wid x ≤ wids l := by
 induction l with
 | nil => cases h
 | cons y l ih =>
  have h1 := wid_pos y
  have h2 := (wids_len l).1
  simp only [wids]
  rcases List.mem_cons.1 h with rfl | h
  ·omega
  ·have := ih h; omega
theorem wids_append (l m : List TExpForm) : wids (l ++ m) = wids l + wids m := by
 induction l with
 | nil => simp [wids]
 | cons x l ih => simp only [List.cons_append, wids, ih]; omega
theorem wids_one (x : TExpForm) : wids [x] = wid x := by simp [wids]
theorem wids_take_le (l : List TExpForm) (n : Nat) : wids (l.take n) ≤ wids l := by
 have h := wids_append (l.take n) (l.drop n)
 rw [List.take_append_drop] at h
 have := (wids_len (l.drop n)).1
 omega
theorem wid_parts (x : TExpForm) : (x.vText.size : Int) < wid x ∧ (x.vScopes.length : Int) < wid x ∧ (x.vKids.length : Int) < wid x ∧ wids x.vKids < wid x ∧ 0 ≤ wids x.vKids := by
 have := wid_mk x
 have := wids_len x.vKids
 omega
end Go.Proofs.YtmcbhnbemhfifaaDoor.RX
end
section
namespace Go.Proofs.YtmcbhnbemhfifaaDoor.RX
open Go K
set_option autoImplicit false
set_option linter.unusedVariables false
set_option linter.unusedSimpArgs false
theorem indLForm {P : Tlaws_ExpForm → Prop} (h : ∀ x : Tlaws_ExpForm, (∀ y ∈ x.vKids, P y) → P x) : ∀ x, P x := by
 have key : ∀ n (x : Tlaws_ExpForm), SizeOf.sizeOf x < n → P x := by
  intro n
  induction n with
  | zero => intro x hx; omega
  | succ n ih =>
   intro x hx
   refine h x (fun y hy => ih y ?_)
   have h1 := List.sizeOf_lt_of_mem hy
   cases x
   simp at h1 hx ⊢
   omega
 exact fun x => key _ x (Nat.lt_succ_self _)
mutual
def lokF : Tlaws_ExpForm → Prop
 | ⟨_, t, sc, _, ks⟩ => t.size ≤ 9223372036854775807 ∧ sc.length ≤ 9223372036854775807 ∧ ks.length ≤ 9223372036854775807 ∧ lokFs ks
def lokFs : List Tlaws_ExpForm → Prop
 | [] => True
 | x :: l => lokF x ∧ lokFs l
end
theorem lokF_mk (x : Tlaws_ExpForm) : lokF x ↔ x.vText.size ≤ 9223372036854775807 ∧ x.vScopes.length ≤ 9223372036854775807 ∧ x.vKids.length ≤ 9223372036854775807 ∧ lokFs x.vKids := by cases x; simp only [lokF]
theorem lokFs_mem {l : List Tlaws_ExpForm} (h : lokFs l) : ∀ x ∈ l, lokF x := by
 induction l with
 | nil => intro x hx; cases hx
 | cons y l ih =>
  intro x hx
  rcases List.mem_cons.1 hx with rfl | hx
  ·exact h.1
  ·exact ih h.2 x hx
theorem lokFs_all {l : List Tlaws_ExpForm} (h : ∀ x ∈ l, lokF x) : lokFs l := by
 induction l with
 | nil => trivial
 | cons y l ih => exact ⟨h y (by simp), ih fun x hx => h x (List.mem_cons_of_mem _ hx)⟩
mutual
def lwid : Tlaws_ExpForm → Int
 | ⟨_, t, sc, _, ks⟩ => (t.size : Int) + (sc.length : Int) + ((ks.length : Int) + lwids ks)
def lwids : List Tlaws_ExpForm → Int
 | [] => 0
 | x :: l => lwid x + lwids l
end
theorem lwid_mk (x : Tlaws_ExpForm) : lwid x = (x.vText.size : Int) + (x.vScopes.length : Int) + ((x.vKids.length : Int) + lwids x.vKids) := by cases x; simp only [lwid]
mutual
def cv : Tlaws_ExpForm → TExpForm
 | ⟨a, t, sc, d, ks⟩ => ⟨a, t, sc, d, cvs ks⟩
def cvs : List Tlaws_ExpForm → List TExpForm
 | [] => []
 | x :: l => cv x :: cvs l
end
theorem cv_mk (x : Tlaws_ExpForm) : cv x = ⟨x.vSort, x.vText, x.vScopes, x.vFrom, cvs x.vKids⟩ := by cases x; simp only [cv]
theorem wid_cv : ∀ x, wid (cv x) = 1 + lwid x := by
 refine indLForm fun x ih => ?_
 have key : ∀ l : List Tlaws_ExpForm, (∀ y ∈ l, wid (cv y) = 1 + lwid y) → wids (cvs l) = (l.length : Int) + lwids l := by
  intro l
  induction l with
  | nil => intro _; rfl
  | cons y l ihl =>
   intro h
   have h1 := h y (by simp)
   have h2 := ihl fun z hz => h z (List.mem_cons_of_mem _ hz)
   simp only [cvs, wids, lwids, List.length_cons]; omega
 rw [cv_mk, wid_c, key _ ih, lwid_mk]
 omega
theorem lwid_pos (x : Tlaws_ExpForm) : 0 ≤ lwid x := by have := wid_cv x; have := wid_pos (cv x); omega
theorem lwids_pos (l : List Tlaws_ExpForm) : 0 ≤ lwids l := by
 induction l with
 | nil => simp [lwids]
 | cons x l ih => have := lwid_pos x; simp only [lwids]; omega
theorem lwids_mem {l : List Tlaws_ExpForm} {x : Tlaws_ExpForm} (h : x ∈ l) : lwid x ≤ lwids l := by
 induction l with
 | nil => cases h
 | cons y l ih =>
  have h1 := lwid_pos y
  have h2 := lwids_pos l
  simp only [lwids]
  rcases List.mem_cons.1 h with rfl | h
  ·omega
  ·have := ih h; omega
def leftI (n left : Int) : Int := if n ≤ left then left - n else -1
theorem leftI_in {n left : Int} (h : n ≤ left) : leftI n left = left - n := if_pos h
theorem leftI_out {n left : Int} (h : ¬ n ≤ left) : leftI n left = -1 := if_neg h
theorem szInts (l : List Int) (n : Int) (h0 : 0 ≤ n) (h1 : n ≤ 1048576) (hl : l.length ≤ 9223372036854775807) : Ev (fun k => laws_szIntS.f k l n) (leftI (l.length : Int) n) := by
 simp (disch := omega) only [laws_szIntS.f, w64]
 by_cases h : (l.length : Int) ≤ n
 ·simp (disch := omega) only [if_neg, leftI_in h]; exact Ev.now _
 ·simp (disch := omega) only [if_pos, leftI_out h]; exact Ev.now _
theorem szForms_of (l : List Tlaws_ExpForm) (n : Int) (h0 : 0 ≤ n) (h1 : n ≤ 1048576) (hl : l.length ≤ 9223372036854775807) (hP : ∀ y ∈ l, ∀ n : Int, 0 ≤ n → n ≤ 1048576 → Ev (fun k => laws_szExpForm.f k y n) (leftI (lwid y) n)) :
  Ev (fun k => laws_szExpFormS.f k l n) (leftI ((l.length : Int) + lwids l) n) := by
 have hp := lwids_pos l
 refine Ev.shift ?_
 simp (disch := omega) only [laws_szExpFormS.f, w64]
 by_cases h : (l.length : Int) ≤ n
 ·simp (disch := omega) only [if_neg]
  have key := goList l (P := fun i suf => ∀ m : Int, 0 ≤ m → m ≤ 1048576 → Ev (fun k => laws_szExpFormS.l5 k l m i) (leftI (lwids suf) m)) ?_ ?_ (n - (l.length : Int)) (by omega) (by omega)
  ·refine Ev.eq key ?_
   by_cases h2 : lwids l ≤ n - (l.length : Int)
   ·rw [leftI_in h2, leftI_in (by omega)]; omega
   ·rw [leftI_out h2, leftI_out (by omega)]
  ·intro m m0 m1
   refine Ev.shift ?_
   simp (disch := omega) only [laws_szExpFormS.l5, if_neg, lwids, leftI_in m0, Int.sub_zero]
   exact Ev.now _
  ·intro i y r i0 i1 hx hm hlen _ _ ih m m0 m1
   have hy := lwid_pos y
   have hr := lwids_pos r
   refine Ev.shift ?_
   simp (disch := omega) only [laws_szExpFormS.l5, if_pos, hx, eTlaws_ExpForm_eq, w64, lwids]
   refine Ev.bind (hP y hm m m0 m1) ?_
   by_cases h3 : lwid y ≤ m
   ·rw [leftI_in h3]
    simp (disch := omega) only [if_neg]
    refine Ev.eq (ih (m - lwid y) (by omega) (by omega)) ?_
    by_cases h4 : lwids r ≤ m - lwid y
    ·rw [leftI_in h4, leftI_in (by omega)]; omega
    ·rw [leftI_out h4, leftI_out (by omega)]
   ·rw [leftI_out h3, leftI_out (show ¬ lwid y + lwids r ≤ m by omega)]
    simp (disch := decide) only [if_pos]; exact Ev.now _
 ·simp (disch := omega) only [if_pos, leftI_out (show ¬ (l.length : Int) + lwids l ≤ n by omega)]; exact Ev.now _
theorem szForm : ∀ (x : Tlaws_ExpForm), lokF x → ∀ (n : Int), 0 ≤ n → n ≤ 1048576 → Ev (fun k => laws_szExpForm.f k x n) (leftI (lwid x) n) := by
 refine indLForm fun x ih hx n h0 h1 => ?_
 obtain ⟨k1, k2, k3, k4⟩ := (lokF_mk x).1 hx
 have hp := lwids_pos x.vKids
 rw [lwid_mk]
 refine Ev.shift ?_
 simp (disch := omega) only [laws_szExpForm.f, w64]
 by_cases h : (x.vText.size : Int) ≤ n
 ·simp (disch := omega) only [if_neg]
  refine Ev.bind (szInts _ _ (by omega) (by omega) k2) ?_
  by_cases h2 : (x.vScopes.length : Int) ≤ n - (x.vText.size : Int)
  ·rw [leftI_in h2]
   simp (disch := omega) only [if_neg]
   refine Ev.bind (szForms_of _ _ (by omega) (by omega) k3 (fun y hy => ih y hy (lokFs_mem k4 y hy))) ?_
   by_cases h3 : (x.vKids.length : Int) + lwids x.vKids ≤ n - (x.vText.size : Int) - (x.vScopes.length : Int)
   ·rw [leftI_in h3, leftI_in (by omega)]
    simp (disch := omega) only [if_neg]
    exact Ev.eq (Ev.now _) (by omega)
   ·rw [leftI_out h3, leftI_out (by omega)]
    simp (disch := decide) only [if_pos]; exact Ev.now _
  ·rw [leftI_out h2, leftI_out (by omega)]
   simp (disch := decide) only [if_pos]; exact Ev.now _
 ·simp (disch := omega) only [if_pos, leftI_out (show ¬ (x.vText.size : Int) + (x.vScopes.length : Int) + ((x.vKids.length : Int) + lwids x.vKids) ≤ n by omega)]; exact Ev.now _
theorem goFill {α β : Type} (l : List α) (z : β) (f : α → β) {R : Type} {res : List β → R} {G : Nat → Int → List β → Option R}
  (h0 : ∀ a : List β, a.length = l.length → Ev (fun k => G k (l.length : Int) a) (res a))
  (hs : ∀ (i : Int) (x : α) (d : List β) (m : Nat), 0 ≤ i → i < (l.length : Int) → (d.length : Int) = i → (∀ z, rdAt z l i = x) → x ∈ l → (d.length + (m + 1) = l.length) → (∀ r, Ev (fun k => G k (i + 1) ((d ++ [f x]) ++ List.replicate m z)) r → Ev (fun k => G k i (d ++ z :: List.replicate m z)) r)) :
  Ev (fun k => G k 0 (List.replicate l.length z)) (res (l.map f)) := by
 refine goList l (P := fun i suf => ∀ d : List β, (d.length : Int) = i → Ev (fun k => G k i (d ++ List.replicate suf.length z)) (res (d ++ suf.map f))) ?_ ?_ [] rfl
 ·intro d hd
  simp only [List.length_nil, List.replicate_zero, List.append_nil, List.map_nil]
  exact h0 d (by omega)
 ·intro i x r i0 i1 hx hm hl _ _ ih d hd
  rw [List.length_cons, List.replicate_succ]
  refine hs i x d r.length i0 i1 hd hx hm (by omega) _ ?_
  have := ih (d ++ [f x]) (by simp; omega)
  simpa using this
theorem toInts (l : List Int) (hl : (l.length : Int) ≤ 1000000000) : Ev (fun k => laws_toIntS.f k l) l := by
 simp (disch := omega) only [laws_toIntS.f, if_pos, Int.toNat_natCast]
 refine Ev.eq (goFill l (0 : Int) id (res := id) (G := fun k i a => laws_toIntS.l3 k l i a) ?_ ?_) (by simp)
 ·intro a ha
  refine Ev.shift ?_
  simp (disch := omega) only [laws_toIntS.l3, if_neg]
  exact Ev.now _
 ·intro i x d m i0 i1 hd hx hm hl r h
  refine Ev.shift ?_
  simp (disch := first | omega | (simp; omega)) only [laws_toIntS.l3, if_pos, hx, w64, mid_set hd]
  exact h
theorem eqInts_same (l : List Int) (hl : (l.length : Int) ≤ 1000000000) : Ev (fun k => laws_eqIntS.f k l l) true := by
 simp (disch := omega) only [laws_eqIntS.f, if_neg]
 refine goList l (P := fun i suf => Ev (fun k => laws_eqIntS.l4 k l l i) true) ?_ ?_
 ·refine Ev.shift ?_
  simp (disch := omega) only [laws_eqIntS.l4, if_neg]; exact Ev.now _
 ·intro i x r h0 h1 hx hm _ _ _ ih
  refine Ev.shift ?_
  simp (disch := omega) only [laws_eqIntS.l4, if_pos, not_true_eq_false, if_false, w64]; exact ih
theorem eqForms_of (l : List TExpForm) (hl : (l.length : Int) ≤ 1000000000) (hP : ∀ y ∈ l, Ev (fun k => laws_eqExpForm.f k y y) true) : Ev (fun k => laws_eqExpFormS.f k l l) true := by
 refine Ev.shift ?_
 simp (disch := omega) only [laws_eqExpFormS.f, if_neg]
 refine goList l (P := fun i suf => Ev (fun k => laws_eqExpFormS.l4 k l l i) true) ?_ ?_
 ·refine Ev.shift ?_
  simp (disch := omega) only [laws_eqExpFormS.l4, if_neg]; exact Ev.now _
 ·intro i y r h0 h1 hx hm _ _ _ ihr
  refine Ev.shift ?_
  simp (disch := omega) only [laws_eqExpFormS.l4, if_pos, hx, eTExpForm_eq, w64]
  refine Ev.bind (hP y hm) ?_
  simp only [not_true_eq_false, if_false]; exact ihr
theorem eqForm_same : ∀ x : TExpForm, wid x ≤ 1000000000 → Ev (fun k => laws_eqExpForm.f k x x) true := by
 refine indForm fun x ih hw => ?_
 have hp := wid_parts x
 refine Ev.shift ?_
 simp only [laws_eqExpForm.f, not_true_eq_false, if_false]
 refine Ev.bind (eqInts_same _ (by omega)) ?_
 simp only [not_true_eq_false, if_false]
 refine Ev.bind (eqForms_of x.vKids (by omega) fun y hy => ih y hy (by have := wids_mem hy; omega)) ?_
 simp only [not_true_eq_false, if_false]; exact Ev.now _
theorem eqForms_same (l : List TExpForm) (hw : wids l ≤ 1000000000) : Ev (fun k => laws_eqExpFormS.f k l l) true := by
 have := wids_len l
 exact eqForms_of l (by omega) fun y hy => eqForm_same y (by have := wids_mem hy; omega)
end Go.Proofs.YtmcbhnbemhfifaaDoor.RX
end
section
namespace Go.Proofs.YtmcbhnbemhfifaaDoor.RX
open Go K
set_option autoImplicit false
set_option linter.unusedVariables false
set_option linter.unusedSimpArgs false
def ow (x : TExpForm) : Int × ByteArray × Int × List Int × List TExpForm := (x.vSort, x.vText, x.vFrom, x.vScopes, x.vKids)
theorem ow_mk (x : TExpForm) : TExpForm.mk (ow x).1 (ow x).2.1 (ow x).2.2.2.1 (ow x).2.2.1 (ow x).2.2.2.2 = x := by cases x; rfl
theorem toForms_of (l : List Tlaws_ExpForm) (hl : (l.length : Int) ≤ 1000000000) (hP : ∀ y ∈ l, Ev (fun k => laws_toExpForm.f k y) (ow (cv y))) : Ev (fun k => laws_toExpFormS.f k l) (cvs l) := by
 refine Ev.shift ?_
 simp (disch := omega) only [laws_toExpFormS.f, if_pos, Int.toNat_natCast]
 refine Ev.eq (goFill l (⟨0, ByteArray.empty, [], 0, []⟩ : TExpForm) cv (res := id) (G := fun k i a => laws_toExpFormS.l3 k l i a) ?_ ?_) ?_
 ·intro a ha
  refine Ev.shift ?_
  simp (disch := omega) only [laws_toExpFormS.l3, if_neg]
  exact Ev.now _
 ·intro i x d m i0 i1 hd hx hm hl r h
  refine Ev.shift ?_
  simp (disch := first | omega | (simp; omega)) only [laws_toExpFormS.l3, if_pos, hx, w64, eTlaws_ExpForm_eq]
  refine Ev.bind (hP x hm) ?_
  simp (disch := first | omega | (simp; omega)) only [if_pos, mid_set hd, ow_mk]
  exact h
 ·have : ∀ l : List Tlaws_ExpForm, l.map cv = cvs l := by
   intro l
   induction l with
   | nil => rfl
   | cons x l ih => simp only [List.map_cons, cvs, ih]
  exact this l
theorem toForm : ∀ x : Tlaws_ExpForm, lwid x ≤ 1000000000 → Ev (fun k => laws_toExpForm.f k x) (ow (cv x)) := by
 refine indLForm fun x ih hw => ?_
 rw [lwid_mk] at hw
 have hp := lwids_pos x.vKids
 refine Ev.shift ?_
 simp only [laws_toExpForm.f]
 refine Ev.bind (toInts _ (by omega)) (Ev.bind (toForms_of _ (by omega) fun y hy => ih y hy (by have := lwids_mem hy; omega)) ?_)
 rw [cv_mk]; exact Ev.now _
end Go.Proofs.YtmcbhnbemhfifaaDoor.RX
end
section
namespace Go.Proofs.YtmcbhnbemhfifaaDoor.RX
open Go K
set_option autoImplicit false
set_option linter.unusedVariables false
set_option linter.unusedSimpArgs false
theorem copy_all : ∀ x : TExpForm, wid x ≤ 1000000000 → Ev (fun k => spec_l1Copy.f k x) (x.vSort, x.vText, x.vFrom, x.vScopes, x.vKids) := by
 refine indForm fun x ih hw => ?_
 have hp := wid_parts x
 refine Ev.shift ?_
 simp (disch := omega) only [spec_l1Copy.f, if_pos, List.length_nil, Nat.zero_add, List.nil_append]
 refine Ev.bind (r := x.vKids) (Ev.shift ?_) (Ev.now _)
 simp only [spec_l1Copies.f]
 refine Ev.eq (goList x.vKids (P := fun i suf => ∀ out : List TExpForm, (out.length : Int) = i → Ev (fun k => spec_l1Copies.l3 k x.vKids i out) (out ++ suf)) ?_ ?_ [] rfl) (by simp)
 ·intro out ho
  refine Ev.shift ?_
  simp (disch := omega) only [spec_l1Copies.l3, if_neg, List.append_nil]
  exact Ev.now _
 ·intro i y r h0 h1 hx hm hl _ _ ihr out ho
  have hy := wids_mem hm
  refine Ev.shift ?_
  simp (disch := omega) only [spec_l1Copies.l3, if_pos, hx, eTExpForm_eq, w64, List.length_singleton]
  refine Ev.bind (ih y hm (by omega)) ?_
  simp (disch := omega) only [if_pos, mTExpForm]
  exact Ev.eq (ihr (out ++ [y]) (by simp; omega)) (by simp)
theorem copies_all (l : List TExpForm) (hw : wids l ≤ 1000000000) : Ev (fun k => spec_l1Copies.f k l) l := by
 refine Ev.shift ?_
 simp only [spec_l1Copies.f]
 have hlen := wids_len l
 refine Ev.eq (goList l (P := fun i suf => ∀ out : List TExpForm, (out.length : Int) = i → Ev (fun k => spec_l1Copies.l3 k l i out) (out ++ suf)) ?_ ?_ [] rfl) (by simp)
 ·intro out ho
  refine Ev.shift ?_
  simp (disch := omega) only [spec_l1Copies.l3, if_neg, List.append_nil]
  exact Ev.now _
 ·intro i y r h0 h1 hx hm hl _ _ ihr out ho
  have hy := wids_mem hm
  refine Ev.shift ?_
  simp (disch := omega) only [spec_l1Copies.l3, if_pos, hx, eTExpForm_eq, w64, List.length_singleton]
  refine Ev.bind (copy_all y (by omega)) ?_
  simp (disch := omega) only [if_pos, mTExpForm]
  exact Ev.eq (ihr (out ++ [y]) (by simp; omega)) (by simp)
end Go.Proofs.YtmcbhnbemhfifaaDoor.RX
end
section
namespace Go.Proofs.YtmcbhnbemhfifaaDoor.RX
open Go K
set_option autoImplicit false
set_option linter.unusedVariables false
set_option linter.unusedSimpArgs false
def isDig (c : Int) : Bool := decide (48 ≤ c) && decide (c ≤ 57)
def inStr (c : Int) : Bool := decide (32 ≤ c) && decide (c ≤ 126) && !decide (c = 34)
def digs (l : List Int) : Bool := !l.isEmpty && l.all isDig
def quoted (l : List Int) : Bool := decide (2 ≤ l.length) && decide (rdAt 0 l 0 = 34) && decide (rdAt 0 l ((l.length : Int) - 1) = 34) && ((l.take (l.length - 1)).drop 1).all inStr
def atomL (l : List Int) : Bool := decide (l = [35, 116]) || (decide (l = [35, 102]) || (digs l || ((decide (1 < l.length) && decide (rdAt 0 l 0 = 45) && digs (l.drop 1)) || quoted l)))
def atomB (s : ByteArray) : Bool := atomL (bytesOf s)
def inId (c : Int) : Bool := decide (33 ≤ c) && decide (c < 126) && !decide (c = 40) && !decide (c = 41) && !decide (c = 34) && !decide (c = 39)
def idB (s : ByteArray) : Bool := (bytesOf s).all inId && !(bytesOf s).isEmpty && !decide (bytesOf s = [46]) && !decide (rdAt 0 (bytesOf s) 0 = 35) && !atomB s
theorem lit_eq {s : ByteArray} (a : Array UInt8) (l : List Int) (h : bytesOf (ByteArray.mk a) = l) : (s.toList = (ByteArray.mk a).toList) ↔ bytesOf s = l := by
 rw [toList_inj, ← bytesOf_inj, h]
theorem decide_not_ne {p : Prop} [Decidable p] (h : p) : ¬ ¬ p := fun k => k h
theorem bsize (s : ByteArray) : (s.size : Int) = ((bytesOf s).length : Int) := by rw [bytesOf_length]
theorem digits_ok (s : ByteArray) (hs : s.size ≤ 1000000000) : Ev (fun k => spec_l1Digits.f k s) (digs (bytesOf s)) := by
 have hb := bsize s
 simp only [spec_l1Digits.f]
 have key : Ev (fun k => spec_l1Digits.l2 k s 0) ((bytesOf s).all isDig && decide (0 < (s.size : Int))) := by
  refine goList (bytesOf s) (P := fun i suf => Ev (fun k => spec_l1Digits.l2 k s i) (suf.all isDig && decide (0 < (s.size : Int)))) ?_ ?_
  ·refine Ev.shift ?_
   simp (disch := omega) only [spec_l1Digits.l2, if_neg, List.all_nil, Bool.true_and]
   exact Ev.now _
  ·intro i c r h0 h1 hx hm _ _ _ ih
   have h2 := byte_ok s c hm
   refine Ev.shift ?_
   simp (disch := omega) only [spec_l1Digits.l2, if_pos, bt_rd, hx, List.all_cons, w64]
   by_cases a1 : c < 48
   ·simp (disch := omega) only [if_pos, isDig, decide_eq_false, Bool.false_and]; exact Ev.now _
   by_cases a2 : 57 < c
   ·simp (disch := omega) only [if_pos, if_neg, isDig, decide_eq_false, Bool.and_false, Bool.false_and]; exact Ev.now _
   simp (disch := omega) only [if_neg, isDig, decide_eq_true (show 48 ≤ c by omega), decide_eq_true (show c ≤ 57 by omega), Bool.and_self, Bool.true_and]
   exact ih
 refine Ev.eq key ?_
 unfold digs
 rw [hb, Bool.and_comm]
 cases bytesOf s <;> simp
theorem quoted_ok (s : ByteArray) (hs : s.size ≤ 1000000000) : Ev (fun k => spec_l1AtomOk.j3 k s) (quoted (bytesOf s)) := by
 have hb := bsize s
 unfold quoted
 by_cases h2 : (s.size : Int) < 2
 ·simp (disch := omega) only [spec_l1AtomOk.j3, if_pos]
  rw [decide_eq_false (by omega)]; simp only [Bool.false_and]; exact Ev.now _
 simp (disch := omega) only [spec_l1AtomOk.j3, if_pos, if_neg, bt_rd, w64]
 rw [decide_eq_true (show 2 ≤ (bytesOf s).length by omega), Bool.true_and]
 by_cases h3 : rdAt 0 (bytesOf s) 0 = 34
 ·simp only [if_neg (decide_not_ne h3), decide_eq_true h3, Bool.true_and, ← hb]
  by_cases h4 : rdAt 0 (bytesOf s) ((s.size : Int) - 1) = 34
  ·simp only [decide_eq_true h4, Bool.true_and, if_neg (decide_not_ne h4), spec_l1AtomOk.j5]
   have hl : (bytesOf s).length - 1 = (s.size : Int).toNat - 1 := by omega
   have key := goFrom ((bytesOf s).take ((bytesOf s).length - 1)) (P := fun i suf => Ev (fun k => spec_l1AtomOk.l6 k s i) (suf.all inStr)) ?_ ?_ 1 (by rw [List.length_take]; omega)
   ·exact key
   ·refine Ev.shift ?_
    rw [List.length_take]
    simp (disch := omega) only [spec_l1AtomOk.l6, if_neg, w64, List.all_nil]
    exact Ev.now _
   ·intro i c r h0 h1 hx hm _ _ _ ih
    rw [List.length_take] at h1
    have hc : rdAt 0 (bytesOf s) i = c := by
     rw [← hx 0]
     unfold rdAt
     rw [List.getD_eq_getElem?_getD, List.getD_eq_getElem?_getD, List.getElem?_take, if_pos (by omega)]
    refine Ev.shift ?_
    simp (disch := omega) only [spec_l1AtomOk.l6, if_pos, bt_rd, hc, List.all_cons, w64]
    by_cases a0 : c = 34
    ·simp (disch := omega) only [if_pos, inStr, decide_eq_true, Bool.not_true, Bool.and_false, Bool.false_and]; exact Ev.now _
    by_cases a1 : c < 32
    ·simp (disch := omega) only [if_pos, if_neg, inStr, decide_eq_false, Bool.false_and]; exact Ev.now _
    by_cases a2 : 126 < c
    ·simp (disch := omega) only [if_pos, if_neg, inStr, decide_eq_false, Bool.and_false, Bool.false_and]; exact Ev.now _
    simp (disch := omega) only [if_neg, inStr, decide_eq_true, decide_eq_false, Bool.not_false, Bool.and_self, Bool.true_and]
    exact ih
  ·simp only [decide_eq_false h4, Bool.false_and, if_pos h4]; exact Ev.now _
 ·simp only [if_pos h3, decide_eq_false h3, Bool.false_and]; exact Ev.now _
theorem atom_spec (s : ByteArray) (hs : s.size ≤ 1000000000) : Ev (fun k => spec_l1AtomOk.f k s) (atomB s) := by
 have hb := bsize s
 simp only [spec_l1AtomOk.f, lit_eq #[35, 116] [35, 116] rfl, lit_eq #[35, 102] [35, 102] rfl, atomB, atomL]
 by_cases a1 : bytesOf s = [35, 116]
 ·simp only [if_pos a1, decide_eq_true a1, Bool.true_or]; exact Ev.now _
 simp only [if_neg a1, decide_eq_false a1, Bool.false_or]
 by_cases a2 : bytesOf s = [35, 102]
 ·simp only [if_pos a2, decide_eq_true a2, Bool.true_or]; exact Ev.now _
 simp only [if_neg a2, decide_eq_false a2, Bool.false_or]
 refine Ev.bind (digits_ok s hs) ?_
 by_cases a3 : digs (bytesOf s) = true
 ·rw [a3]; simp only [if_true, Bool.true_or]; exact Ev.now _
 simp only [if_neg a3, Bool.eq_false_iff.2 a3, Bool.false_or]
 by_cases a4 : 1 < (s.size : Int)
 ·simp (disch := omega) only [if_pos, decide_eq_true (show 1 < (bytesOf s).length by omega), Bool.true_and, bt_rd]
  by_cases a5 : rdAt 0 (bytesOf s) 0 = 45
  ·rw [decide_eq_true a5]
   simp only [if_pos a5, Bool.true_and]
   refine Ev.bind (digits_ok _ (by rw [ByteArray.size_extract]; omega)) ?_
   have e : bytesOf (s.extract 1 (s.size : Int).toNat) = (bytesOf s).drop 1 := by
    rw [bytesOf_extract, List.take_of_length_le (by omega)]
   rw [e]
   by_cases a6 : digs ((bytesOf s).drop 1) = true
   ·rw [a6]; simp only [if_true, Bool.true_or]; exact Ev.now _
   ·simp only [if_neg a6, Bool.eq_false_iff.2 a6, Bool.false_or]
    exact quoted_ok s hs
  ·rw [decide_eq_false a5]
   simp only [if_neg a5, Bool.false_and, Bool.false_or]
   exact quoted_ok s hs
 ·simp (disch := omega) only [if_neg, decide_eq_false (show ¬ 1 < (bytesOf s).length by omega), Bool.false_and, Bool.false_or]
  exact quoted_ok s hs
theorem dropWhile_nil {α : Type} (p : α → Bool) : ∀ l : List α, l.dropWhile p = [] ↔ l.all p = true := by
 intro l
 induction l with
 | nil => simp
 | cons x l ih =>
  by_cases h : p x = true
  ·simp [List.dropWhile_cons, h, ih]
  ·simp [List.dropWhile_cons, h]
theorem trim_nil (l cs : List UInt8) : Go.Lib.trimS l cs = [] ↔ l.all (cs.contains ·) = true := by
 unfold Go.Lib.trimS Go.Lib.trimLeftS Go.Lib.trimRightS
 rw [dropWhile_nil]
 constructor
 ·intro h
  have h0 : (l.reverse.dropWhile (cs.contains ·)) = [] := by
   cases hd : l.reverse.dropWhile (cs.contains ·) with
   | nil => rfl
   | cons y m =>
    have hy : cs.contains y = false := by
     have := List.head?_dropWhile_not (cs.contains ·) l.reverse
     rw [hd] at this
     simpa using this
    rw [hd] at h
    simp at h
    have h1 := h.2
    rw [List.contains_eq_mem] at hy
    simp at hy
    exact absurd h1 hy
  rw [dropWhile_nil] at h0
  simpa using h0
 ·intro h
  have h0 : (l.reverse.dropWhile (cs.contains ·)) = [] := by
   rw [dropWhile_nil]
   simpa using h
  rw [h0]
  rfl
theorem dig_iff : ∀ b : UInt8, ([48, 49, 50, 51, 52, 53, 54, 55, 56, 57] : List UInt8).contains b = isDig (b.toNat : Int) := by
 intro b
 have : ∀ n : Fin 256, ([48, 49, 50, 51, 52, 53, 54, 55, 56, 57] : List UInt8).contains (UInt8.ofNat n.val) = isDig (n.val : Int) := by decide +kernel
 have := this ⟨b.toNat, b.toNat_lt⟩
 simpa using this
theorem trim_ok (d : ByteArray) (hd : d.size ≤ 1000000000) : ∃ r, LTrim d (ByteArray.mk #[48, 49, 50, 51, 52, 53, 54, 55, 56, 57]) = some r ∧ decide (r.toList = (ByteArray.mk #[]).toList) = (bytesOf d).all isDig := by
 refine ⟨⟨(Go.Lib.trimS d.data.toList [48, 49, 50, 51, 52, 53, 54, 55, 56, 57]).toArray⟩, ?_, ?_⟩
 ·unfold LTrim
  rw [if_pos (by decide), if_pos (by omega), if_pos (by decide)]
 ·have e : (bytesOf d).all isDig = d.data.toList.all (([48, 49, 50, 51, 52, 53, 54, 55, 56, 57] : List UInt8).contains ·) := by
   unfold bytesOf
   rw [List.all_map]
   congr 1
   funext b
   exact (dig_iff b).symm
  rw [e, Bool.eq_iff_iff, ← trim_nil, decide_eq_true_eq, toList_data]
  simp [toList_data]
theorem prefix_ok (s : ByteArray) : Ev (fun k => strings_TrimPrefix.f k s (ByteArray.mk #[45])) (if 1 ≤ (s.size : Int) ∧ rdAt 0 (bytesOf s) 0 = 45 then s.extract 1 s.size else s) := by
 have hb := bsize s
 have e1 : (ByteArray.mk #[45]).size = 1 := rfl
 simp only [strings_TrimPrefix.f, internal_stringslite_TrimPrefix.f, internal_stringslite_HasPrefix.f, e1]
 by_cases h : 1 ≤ (s.size : Int)
 ·have e : ((s.extract 0 ((1 : Nat) : Int).toNat).toList = (ByteArray.mk #[45]).toList) ↔ rdAt 0 (bytesOf s) 0 = 45 := by
   rw [lit_eq #[45] [45] rfl, bytesOf_extract]
   generalize bytesOf s = l at hb ⊢
   cases l with
   | nil => simp only [List.length_nil] at hb; omega
   | cons c l => simp [rdAt]
  simp (disch := omega) only [if_pos, e, Option.bind_some, decide_eq_true_eq, h, true_and]
  by_cases h5 : rdAt 0 (bytesOf s) 0 = 45
  ·simp only [h5, if_true, Option.bind_some]; exact Ev.now _
  ·simp only [h5, if_false, Option.bind_some]; exact Ev.now _
 ·simp (disch := omega) only [if_neg, Option.bind_some, Bool.false_eq_true, if_false]
  exact Ev.now _
theorem atom_impl (s : ByteArray) (hs : s.size ≤ 1000000000) : Ev (fun k => impl_expAtom.f k s) (atomB s) := by
 have hb := bsize s
 simp only [impl_expAtom.f, lit_eq #[35, 116] [35, 116] rfl, lit_eq #[35, 102] [35, 102] rfl, atomB, atomL]
 by_cases a1 : bytesOf s = [35, 116]
 ·simp only [if_pos a1, decide_eq_true a1, Bool.true_or]; exact Ev.now _
 simp only [if_neg a1, decide_eq_false a1, Bool.false_or]
 by_cases a2 : bytesOf s = [35, 102]
 ·simp only [if_pos a2, decide_eq_true a2, Bool.true_or]; exact Ev.now _
 simp only [if_neg a2, decide_eq_false a2, Bool.false_or]
 have other : quoted (bytesOf s) = false → Ev (fun k => impl_expAtom.j5 k s (s.size : Int) false) (digs (bytesOf s) || (decide (1 < (bytesOf s).length) && decide (rdAt 0 (bytesOf s) 0 = 45) && digs ((bytesOf s).drop 1) || quoted (bytesOf s))) := by
  intro hq
  rw [hq, Bool.or_false]
  simp only [impl_expAtom.j5, Bool.false_eq_true, if_false]
  refine Ev.bind (prefix_ok s) ?_
  have fin : ∀ d : ByteArray, d.size ≤ 1000000000 → Ev (fun k : Nat => if ¬ d.toList = (ByteArray.mk #[]).toList then ((LTrim d (ByteArray.mk #[48, 49, 50, 51, 52, 53, 54, 55, 56, 57])).bind fun r2 => some (decide (r2.toList = (ByteArray.mk #[]).toList))) else some false) (digs (bytesOf d)) := by
   intro d hd
   obtain ⟨r, e1, e2⟩ := trim_ok d hd
   rw [e1]
   simp only [Option.bind_some, e2]
   simp only [lit_eq #[] [] rfl, digs]
   cases h : bytesOf d with
   | nil => simp; exact Ev.now _
   | cons c l => simp only [List.isEmpty_cons, Bool.not_false, Bool.true_and, reduceCtorEq, not_false_eq_true, if_true]; exact Ev.now _
  have edge : ∀ c ∈ bytesOf s, 0 ≤ c ∧ c ≤ 255 := byte_ok s
  by_cases h : 1 ≤ (s.size : Int) ∧ rdAt 0 (bytesOf s) 0 = 45
  ·rw [if_pos h]
   have hd : digs (bytesOf s) = false := by
    have h1 := h.1; have h2 := h.2
    generalize bytesOf s = l at h1 h2 hb ⊢
    cases l with
    | nil => rfl
    | cons c l => simp [rdAt] at h2; subst h2; simp [digs, isDig]
   rw [hd, Bool.false_or, decide_eq_true h.2, Bool.and_true]
   refine Ev.eq (fin _ (by rw [ByteArray.size_extract]; omega)) ?_
   have e : bytesOf (s.extract 1 s.size) = (bytesOf s).drop 1 := by rw [bytesOf_extract, List.take_of_length_le (by omega)]
   rw [e]
   by_cases h1 : 1 < (bytesOf s).length
   ·rw [decide_eq_true h1, Bool.true_and]
   ·rw [decide_eq_false h1, Bool.false_and, List.drop_eq_nil_of_le (by omega)]; rfl
  ·rw [if_neg h]
   refine Ev.eq (fin _ hs) ?_
   have : (decide (1 < (bytesOf s).length) && decide (rdAt 0 (bytesOf s) 0 = 45)) = false := by
    rw [Bool.and_eq_false_iff, decide_eq_false_iff_not, decide_eq_false_iff_not]
    by_cases h1 : 1 < (bytesOf s).length
    ·exact .inr fun e => h ⟨by omega, e⟩
    ·exact .inl h1
   rw [this, Bool.false_and, Bool.or_false]
 by_cases h2 : 2 ≤ (s.size : Int)
 ·simp (disch := omega) only [impl_expAtom.j3, if_pos, bt_rd, w64]
  by_cases h3 : rdAt 0 (bytesOf s) 0 = 34
  ·simp only [if_pos h3]
   by_cases h4 : rdAt 0 (bytesOf s) ((s.size : Int) - 1) = 34
   ·have hd : digs (bytesOf s) = false := by
     generalize bytesOf s = l at h3 hb ⊢
     cases l with
     | nil => rfl
     | cons c l => simp [rdAt] at h3; subst h3; simp [digs, isDig]
    rw [hd, h3, decide_eq_false (show ¬ (34 : Int) = 45 by decide), Bool.and_false, Bool.false_and, Bool.false_or, Bool.false_or, decide_eq_true h4]
    simp (disch := omega) only [impl_expAtom.j5, if_true, w64, if_pos]
    have e : bytesOf (s.extract 1 ((s.size : Int) - 1).toNat) = ((bytesOf s).take ((bytesOf s).length - 1)).drop 1 := by
     rw [bytesOf_extract, show ((s.size : Int) - 1).toNat = (bytesOf s).length - 1 by omega]
    rw [e]
    have hq : quoted (bytesOf s) = (((bytesOf s).take ((bytesOf s).length - 1)).drop 1).all inStr := by
     unfold quoted
     rw [decide_eq_true (show 2 ≤ (bytesOf s).length by omega), decide_eq_true h3, ← hb, decide_eq_true h4]
     simp only [Bool.true_and]
    rw [hq]
    have hlen : (((bytesOf s).take ((bytesOf s).length - 1)).drop 1).length ≤ 1000000000 := by rw [List.length_drop, List.length_take]; omega
    generalize (((bytesOf s).take ((bytesOf s).length - 1)).drop 1) = m at hlen ⊢
    refine goList m (P := fun i suf => Ev (fun k => impl_expAtom.l6 k m (m.length : Int) i) (suf.all inStr)) ?_ ?_
    ·refine Ev.shift ?_
     simp (disch := omega) only [impl_expAtom.l6, if_neg, List.all_nil]
     exact Ev.now _
    ·intro i c r h0 h1 hx hm _ _ _ ih
     refine Ev.shift ?_
     simp (disch := omega) only [impl_expAtom.l6, if_pos, hx, List.all_cons, w64]
     by_cases a1 : c < 32
     ·simp (disch := omega) only [if_pos, if_neg, inStr, decide_eq_false, Bool.false_and]; exact Ev.now _
     by_cases a2 : 126 < c
     ·simp (disch := omega) only [if_pos, if_neg, inStr, decide_eq_false, Bool.and_false, Bool.false_and]; exact Ev.now _
     by_cases a0 : c = 34
     ·simp (disch := omega) only [if_pos, if_neg, inStr, decide_eq_true, Bool.not_true, Bool.and_false, Bool.false_and]; exact Ev.now _
     simp (disch := omega) only [if_neg, inStr, decide_eq_true, decide_eq_false, Bool.not_false, Bool.and_self, Bool.true_and]
     exact ih
   ·simp only [decide_eq_false h4]
    refine other ?_
    unfold quoted
    rw [← hb, decide_eq_false h4, Bool.and_false, Bool.false_and]
  ·simp only [if_neg h3]
   refine other ?_
   unfold quoted
   rw [decide_eq_false h3, Bool.and_false, Bool.false_and, Bool.false_and]
 ·simp (disch := omega) only [impl_expAtom.j3, if_neg]
  refine other ?_
  unfold quoted
  rw [decide_eq_false (show ¬ 2 ≤ (bytesOf s).length by omega)]
  simp only [Bool.false_and]
theorem ends_ok (c : Int) : Ev (fun k => spec_l1Ends.f k c) (decide (c = 32) || decide (c = 10) || decide (c = 40) || decide (c = 41) || decide (c = 34) || decide (c = 39)) := by
 simp only [spec_l1Ends.f, spec_l1Blank.f]
 by_cases a0 : c = 32
 ·simp [a0]; exact Ev.now _
 by_cases a1 : c = 10
 ·simp [a1]; exact Ev.now _
 by_cases a2 : c = 40
 ·simp [a2]; exact Ev.now _
 by_cases a3 : c = 41
 ·simp [a3]; exact Ev.now _
 by_cases a4 : c = 34
 ·simp [a4]; exact Ev.now _
 simp [a0, a1, a2, a3, a4]; exact Ev.now _
theorem id_spec (s : ByteArray) (hs : s.size ≤ 1000000000) : Ev (fun k => spec_l1IdOk.f k s) (idB s) := by
 have hb := bsize s
 simp only [spec_l1IdOk.f, lit_eq #[] [] rfl, lit_eq #[46] [46] rfl, bt_rd]
 by_cases a0 : bytesOf s = []
 ·have : idB s = false := by unfold idB; rw [a0]; rfl
  simp only [if_pos a0, this]; exact Ev.now _
 by_cases a1 : bytesOf s = [46]
 ·have : idB s = false := by unfold idB; rw [decide_eq_true a1]; simp
  simp only [if_neg a0, if_pos a1, this]; exact Ev.now _
 simp only [if_neg a0, if_neg a1]
 refine Ev.bind (atom_spec s hs) ?_
 by_cases a2 : atomB s = true
 ·have : idB s = false := by unfold idB; rw [a2]; simp
  simp only [a2, if_true, this]; exact Ev.now _
 have hp : 0 < (s.size : Int) := by
  have := List.length_pos_iff.2 a0; omega
 simp (disch := omega) only [if_neg a2, if_pos]
 by_cases a3 : rdAt 0 (bytesOf s) 0 = 35
 ·have : idB s = false := by unfold idB; rw [decide_eq_true a3]; simp
  simp only [if_pos a3, this]; exact Ev.now _
 simp only [if_neg a3, spec_l1IdOk.j3]
 have e : idB s = (bytesOf s).all inId := by
  unfold idB
  rw [decide_eq_false a1, decide_eq_false a3, Bool.eq_false_iff.2 a2]
  have : (bytesOf s).isEmpty = false := by simpa using a0
  simp [this]
 rw [e]
 refine goList (bytesOf s) (P := fun i suf => Ev (fun k => spec_l1IdOk.l4 k s i) (suf.all inId)) ?_ ?_
 ·refine Ev.shift ?_
  simp (disch := omega) only [spec_l1IdOk.l4, if_neg, List.all_nil]
  exact Ev.now _
 ·intro i c r h0 h1 hx hm _ _ _ ih
  refine Ev.shift ?_
  simp (disch := omega) only [spec_l1IdOk.l4, if_pos, bt_rd, hx, List.all_cons, w64]
  refine Ev.bind (ends_ok c) ?_
  by_cases h : inId c = true
  ·have h' := h
   simp only [inId, Bool.and_eq_true, Bool.not_eq_true', decide_eq_true_eq, decide_eq_false_iff_not] at h'
   simp (disch := omega) only [decide_eq_false, Bool.or_self, Bool.false_eq_true, if_false, if_neg, h, Bool.true_and]
   exact ih
  ·have h' := h
   simp only [inId, Bool.and_eq_true, Bool.not_eq_true', decide_eq_true_eq, decide_eq_false_iff_not] at h'
   rw [Bool.eq_false_iff.2 h, Bool.false_and]
   by_cases b1 : (decide (c = 32) || decide (c = 10) || decide (c = 40) || decide (c = 41) || decide (c = 34) || decide (c = 39)) = true
   ·simp only [b1, if_true]; exact Ev.now _
   ·simp only [Bool.or_eq_true, decide_eq_true_eq] at b1
    simp (disch := omega) only [decide_eq_false, Bool.or_self, Bool.false_eq_true, if_false]
    by_cases b2 : c < 33
    ·simp only [if_pos b2]; exact Ev.now _
    by_cases b3 : 126 < c
    ·simp only [if_neg b2, if_pos b3]; exact Ev.now _
    ·simp (disch := omega) only [if_neg b2, if_neg b3, if_pos]; exact Ev.now _
theorem index_id (c : Int) (h0 : 0 ≤ c) (h1 : c ≤ 255) : (0 ≤ LIndexByte (ByteArray.mk #[40, 41, 34, 39, 126]) c) ↔ (c = 40 ∨ c = 41 ∨ c = 34 ∨ c = 39 ∨ c = 126) := by
 obtain ⟨n, rfl⟩ := Int.eq_ofNat_of_zero_le h0
 have : ∀ n : Fin 256, (0 ≤ LIndexByte (ByteArray.mk #[40, 41, 34, 39, 126]) (n.val : Int)) ↔ ((n.val : Int) = 40 ∨ (n.val : Int) = 41 ∨ (n.val : Int) = 34 ∨ (n.val : Int) = 39 ∨ (n.val : Int) = 126) := by decide +kernel
 exact this ⟨n, by omega⟩
theorem id_impl (s : ByteArray) (hs : s.size ≤ 1000000000) : Ev (fun k => impl_expId.f k s) (idB s) := by
 have hb := bsize s
 simp only [impl_expId.f, bytesOf_length]
 have key : ∀ r : List Int, r = bytesOf s → Ev (fun k => impl_expId.l2 k s (bytesOf s) (s.size : Int) 0) (r.all inId && !(bytesOf s).isEmpty && !decide (bytesOf s = [46]) && !decide (rdAt 0 (bytesOf s) 0 = 35) && !atomB s) := by
  rintro r rfl
  refine goList (bytesOf s) (P := fun i suf => Ev (fun k => impl_expId.l2 k s (bytesOf s) (s.size : Int) i) (suf.all inId && !(bytesOf s).isEmpty && !decide (bytesOf s = [46]) && !decide (rdAt 0 (bytesOf s) 0 = 35) && !atomB s)) ?_ ?_
  ·refine Ev.shift ?_
   simp (disch := omega) only [impl_expId.l2, if_neg, List.all_nil, Bool.true_and, lit_eq #[] [] rfl, lit_eq #[46] [46] rfl, bt_rd]
   by_cases a0 : bytesOf s = []
   ·simp only [a0, if_neg (decide_not_ne (rfl : ([] : List Int) = [])), List.isEmpty_nil, Bool.not_true, Bool.false_and]; exact Ev.now _
   have a0' : (bytesOf s).isEmpty = false := by simpa using a0
   simp only [if_pos a0, a0', Bool.not_false, Bool.true_and]
   by_cases a1 : bytesOf s = [46]
   ·simp only [if_neg (decide_not_ne a1), decide_eq_true a1, Bool.not_true, Bool.false_and]; exact Ev.now _
   have hp : 0 < (s.size : Int) := by have := List.length_pos_iff.2 a0; omega
   simp only [if_pos a1, decide_eq_false a1, Bool.not_false, Bool.true_and, if_pos hp]
   by_cases a3 : rdAt 0 (bytesOf s) 0 = 35
   ·simp only [if_neg (decide_not_ne a3), decide_eq_true a3, Bool.not_true, Bool.false_and]; exact Ev.now _
   simp only [if_pos a3, decide_eq_false a3, Bool.not_false, Bool.true_and]
   refine Ev.bind (atom_impl s hs) ?_
   cases atomB s
   ·exact Ev.now _
   ·exact Ev.now _
  ·intro i c r h0 h1 hx hm _ _ _ ih
   obtain ⟨c0, c1⟩ := byte_ok s c hm
   refine Ev.shift ?_
   simp (disch := omega) only [impl_expId.l2, if_pos, hx, List.all_cons, w64, index_id c c0 c1]
   by_cases h : inId c = true
   ·have h' := h
    simp only [inId, Bool.and_eq_true, Bool.not_eq_true', decide_eq_true_eq, decide_eq_false_iff_not] at h'
    simp (disch := omega) only [if_neg, h, Bool.true_and]
    exact ih
   ·have h' := h
    simp only [inId, Bool.and_eq_true, Bool.not_eq_true', decide_eq_true_eq, decide_eq_false_iff_not] at h'
    rw [Bool.eq_false_iff.2 h]
    simp only [Bool.false_and]
    by_cases b2 : c < 33
    ·simp only [if_pos b2]; exact Ev.now _
    by_cases b3 : 126 < c
    ·simp only [if_neg b2, if_pos b3]; exact Ev.now _
    ·simp (disch := omega) only [if_neg b2, if_neg b3, if_pos]; exact Ev.now _
 exact key _ rfl
end Go.Proofs.YtmcbhnbemhfifaaDoor.RX
end
section
namespace Go.Proofs.YtmcbhnbemhfifaaDoor.RX
open Go K
set_option autoImplicit false
set_option linter.unusedVariables false
set_option linter.unusedSimpArgs false
def ascFrom : Option Int → List Int → Bool
 | _, [] => true
 | o, x :: l => decide (0 ≤ x) && (match o with | none => true | some p => decide (p < x)) && ascFrom (some x) l
def scOk (l : List Int) : Bool := ascFrom none l
def lastOk (ks : List TExpForm) : Bool := decide (2 ≤ (ks.length : Int)) && (decide ((rdAt zTExpForm ks ((ks.length : Int) - 1)).vSort = 1) || decide ((rdAt zTExpForm ks ((ks.length : Int) - 1)).vSort = 2))
mutual
def okf : TExpForm → Int → Bool
 | ⟨a, t, sc, d, ks⟩, deep => decide (deep ≤ 60) && (if a = 1 then idB t && (decide ((t.size : Int) ≤ 40) && (decide (0 ≤ d) && (scOk sc && decide ((ks.length : Int) = 0))))
  else if a = 2 then atomB t && (decide ((t.size : Int) ≤ 40) && (decide (d = 0) && (decide ((sc.length : Int) = 0) && decide ((ks.length : Int) = 0))))
  else (decide (a = 3) || decide (a = 4)) && (decide (bytesOf t = []) && (decide (d = 0) && (decide ((sc.length : Int) = 0) && (okfs ks (deep + 1) && (decide (a = 3) || lastOk ks))))))
def okfs : List TExpForm → Int → Bool
 | [], _ => true
 | x :: l, deep => okf x deep && okfs l deep
end
mutual
def cnt : TExpForm → Int
 | ⟨_, _, _, _, ks⟩ => 1 + cnts ks
def cnts : List TExpForm → Int
 | [] => 0
 | x :: l => cnt x + cnts l
end
theorem okf_mk (x : TExpForm) (deep : Int) : okf x deep = (decide (deep ≤ 60) && (if x.vSort = 1 then idB x.vText && (decide ((x.vText.size : Int) ≤ 40) && (decide (0 ≤ x.vFrom) && (scOk x.vScopes && decide ((x.vKids.length : Int) = 0))))
  else if x.vSort = 2 then atomB x.vText && (decide ((x.vText.size : Int) ≤ 40) && (decide (x.vFrom = 0) && (decide ((x.vScopes.length : Int) = 0) && decide ((x.vKids.length : Int) = 0))))
  else (decide (x.vSort = 3) || decide (x.vSort = 4)) && (decide (bytesOf x.vText = []) && (decide (x.vFrom = 0) && (decide ((x.vScopes.length : Int) = 0) && (okfs x.vKids (deep + 1) && (decide (x.vSort = 3) || lastOk x.vKids))))))) := by cases x; simp only [okf]
theorem cnt_mk (x : TExpForm) : cnt x = 1 + cnts x.vKids := by cases x; simp only [cnt]
theorem cnt_pos : ∀ x, 1 ≤ cnt x ∧ cnt x ≤ wid x := by
 refine indForm fun x ih => ?_
 have : ∀ l : List TExpForm, (∀ y ∈ l, 1 ≤ cnt y ∧ cnt y ≤ wid y) → 0 ≤ cnts l ∧ cnts l ≤ wids l := by
  intro l
  induction l with
  | nil => intro _; simp [cnts, wids]
  | cons y l ihl =>
   intro h
   have := h y (by simp)
   have := ihl fun z hz => h z (List.mem_cons_of_mem _ hz)
   simp only [cnts, wids]; omega
 have := this _ ih
 rw [cnt_mk, wid_mk]
 omega
theorem cnts_le (l : List TExpForm) : 0 ≤ cnts l ∧ cnts l ≤ wids l := by
 induction l with
 | nil => simp [cnts, wids]
 | cons x l ih =>
  have := cnt_pos x
  simp only [cnts, wids]; omega
def okb (x : TExpForm) : Bool := okf x 0 && leB (cnt x) 1500
theorem scopes_spec (l : List Int) (hl : (l.length : Int) ≤ 1000000000) : Ev (fun k => spec_l1ScopesOk.f k l) (scOk l) := by
 simp only [spec_l1ScopesOk.f]
 refine goList l (P := fun i suf => ∀ o : Option Int, (match o with | none => i = 0 | some p => 0 < i ∧ rdAt 0 l (i - 1) = p) → Ev (fun k => spec_l1ScopesOk.l2 k l i) (ascFrom o suf)) ?_ ?_ none rfl
 ·intro o ho
  refine Ev.shift ?_
  simp (disch := omega) only [spec_l1ScopesOk.l2, if_neg, ascFrom]
  exact Ev.now _
 ·intro i x r h0 h1 hx hm _ _ _ ih o ho
  refine Ev.shift ?_
  simp (disch := omega) only [spec_l1ScopesOk.l2, if_pos, hx, w64, ascFrom]
  by_cases a0 : x < 0
  ·simp (disch := omega) only [if_pos, decide_eq_false, Bool.false_and]; exact Ev.now _
  have a0' : decide (0 ≤ x) = true := by simpa using a0
  simp only [if_neg a0, a0', Bool.true_and]
  have ih' := ih (some x) ⟨by omega, by rw [show i + 1 - 1 = i by omega]; exact hx 0⟩
  cases o with
  | none =>
   have ho : i = 0 := ho
   simp (disch := omega) only [if_neg, Bool.true_and]
   exact ih'
  | some p =>
   obtain ⟨o1, o2⟩ : 0 < i ∧ rdAt 0 l (i - 1) = p := ho
   simp (disch := omega) only [if_pos, o2]
   by_cases a1 : x ≤ p
   ·simp (disch := omega) only [if_pos, decide_eq_false, Bool.false_and]; exact Ev.now _
   ·simp (disch := omega) only [if_neg, decide_eq_true (show p < x by omega), Bool.true_and]; exact ih'
theorem scopes_impl (n : Int) (l : List Int) (hl : (l.length : Int) ≤ 1000000000) : Ev (fun k => impl_expCount.j9 k n l) (if scOk l then n else -1) := by
 simp only [impl_expCount.j9]
 refine goList l (P := fun i suf => ∀ o : Option Int, (match o with | none => i = 0 | some p => 0 < i ∧ rdAt 0 l (i - 1) = p) → Ev (fun k => impl_expCount.l10 k n l (l.length : Int) i l) (if ascFrom o suf then n else -1)) ?_ ?_ none rfl
 ·intro o ho
  refine Ev.shift ?_
  simp (disch := omega) only [impl_expCount.l10, if_neg, ascFrom, if_true]
  exact Ev.now _
 ·intro i x r h0 h1 hx hm _ _ _ ih o ho
  refine Ev.shift ?_
  simp (disch := omega) only [impl_expCount.l10, if_pos, hx, w64, ascFrom]
  by_cases a0 : x < 0
  ·simp (disch := omega) only [if_pos, decide_eq_false, Bool.false_and, Bool.false_eq_true, if_false]; exact Ev.now _
  have a0' : decide (0 ≤ x) = true := by simpa using a0
  simp only [if_neg a0, a0', Bool.true_and]
  have ih' := ih (some x) ⟨by omega, by rw [show i + 1 - 1 = i by omega]; exact hx 0⟩
  cases o with
  | none =>
   have ho : i = 0 := ho
   simp (disch := omega) only [if_neg, Bool.true_and]
   exact ih'
  | some p =>
   obtain ⟨o1, o2⟩ : 0 < i ∧ rdAt 0 l (i - 1) = p := ho
   simp (disch := omega) only [if_pos, o2]
   by_cases a1 : x ≤ p
   ·simp (disch := omega) only [if_pos, decide_eq_false, Bool.false_and, Bool.false_eq_true, if_false]; exact Ev.now _
   ·simp (disch := omega) only [if_neg, decide_eq_true (show p < x by omega), Bool.true_and]; exact ih'
theorem ok_spec : ∀ (x : TExpForm) (deep : Int), wid x ≤ 1000000000 → 0 ≤ deep → deep ≤ 1000000000 → Ev (fun k => spec_l1Ok.f k x deep) (okf x deep) := by
 refine indForm fun x ih deep hw h0 hd => ?_
 have hp := wid_parts x
 rw [okf_mk]
 refine Ev.shift ?_
 simp only [spec_l1Ok.f]
 by_cases a0 : 60 < deep
 ·simp (disch := omega) only [if_pos, decide_eq_false, Bool.false_and]; exact Ev.now _
 simp (disch := omega) only [if_neg a0, decide_eq_true (show deep ≤ 60 by omega), Bool.true_and]
 by_cases a1 : x.vSort = 1
 ·simp only [if_pos a1]
  refine Ev.bind (id_spec _ (by omega)) ?_
  cases idB x.vText with
  | false => simp only [Bool.false_eq_true, if_false, Bool.false_and]; exact Ev.now _
  | true =>
   simp only [if_true, Bool.true_and]
   by_cases a2 : (x.vText.size : Int) ≤ 40
   ·simp only [if_pos a2, decide_eq_true a2, Bool.true_and]
    by_cases a3 : 0 ≤ x.vFrom
    ·simp only [if_pos a3, decide_eq_true a3, Bool.true_and]
     refine Ev.bind (scopes_spec _ (by omega)) ?_
     cases scOk x.vScopes with
     | false => simp only [Bool.false_eq_true, if_false, Bool.false_and]; exact Ev.now _
     | true => simp only [if_true, Bool.true_and]; exact Ev.now _
    ·simp only [if_neg a3, decide_eq_false a3, Bool.false_and]; exact Ev.now _
   ·simp only [if_neg a2, decide_eq_false a2, Bool.false_and]; exact Ev.now _
 simp only [if_neg a1]
 by_cases a2 : x.vSort = 2
 ·simp only [if_pos a2]
  refine Ev.bind (atom_spec _ (by omega)) ?_
  cases atomB x.vText with
  | false => simp only [Bool.false_eq_true, if_false, Bool.false_and]; exact Ev.now _
  | true =>
   simp only [if_true, Bool.true_and]
   by_cases a2 : (x.vText.size : Int) ≤ 40
   ·simp only [if_pos a2, decide_eq_true a2, Bool.true_and]
    by_cases a3 : x.vFrom = 0
    ·simp (disch := omega) only [if_pos a3, decide_eq_true a3, Bool.true_and, w64]
     by_cases a4 : (x.vScopes.length : Int) = 0
     ·rw [decide_eq_true a4, Bool.true_and, a4]; simp only [Int.zero_add]; exact Ev.now _
     ·rw [decide_eq_false a4, Bool.false_and]; simp (disch := omega) only [decide_eq_false]; exact Ev.now _
    ·simp only [if_neg a3, decide_eq_false a3, Bool.false_and]; exact Ev.now _
   ·simp only [if_neg a2, decide_eq_false a2, Bool.false_and]; exact Ev.now _
 simp only [if_neg a2]
 have list : ∀ b : Bool, b = (decide (x.vSort = 3) || decide (x.vSort = 4)) → Ev (fun k => spec_l1Ok.j11b k (spec_l1Ok.f k) (spec_l1Ok.l14 k) deep b x.vSort x.vText x.vScopes x.vFrom x.vKids)
   ((decide (x.vSort = 3) || decide (x.vSort = 4)) && (decide (bytesOf x.vText = []) && (decide (x.vFrom = 0) && (decide ((x.vScopes.length : Int) = 0) && (okfs x.vKids (deep + 1) && (decide (x.vSort = 3) || lastOk x.vKids)))))) := by
  intro b hb
  rw [← hb]
  simp only [spec_l1Ok.j11b, spec_l1Ok.j13b, lit_eq #[] [] rfl]
  cases b with
  | false => simp only [Bool.false_eq_true, if_false, Bool.false_and]; exact Ev.now _
  | true =>
   simp only [if_true, Bool.true_and]
   by_cases a3 : bytesOf x.vText = []
   ·simp only [if_neg (decide_not_ne a3), decide_eq_true a3, Bool.true_and]
    by_cases a4 : x.vFrom = 0
    ·simp only [if_neg (decide_not_ne a4), decide_eq_true a4, Bool.true_and]
     by_cases a5 : (x.vScopes.length : Int) = 0
     ·simp (disch := omega) only [if_neg, decide_eq_true a5, Bool.true_and]
      refine goList x.vKids (P := fun i suf => Ev (fun k => spec_l1Ok.l14 k deep i x.vSort x.vKids) (okfs suf (deep + 1) && (decide (x.vSort = 3) || lastOk x.vKids))) ?_ ?_
      ·refine Ev.shift ?_
       simp (disch := omega) only [spec_l1Ok.l14, if_neg, okfs, Bool.true_and]
       by_cases a6 : x.vSort = 3
       ·simp only [if_pos a6, decide_eq_true a6, Bool.true_or]; exact Ev.now _
       simp only [if_neg a6, decide_eq_false a6, Bool.false_or, lastOk]
       by_cases a7 : 1 < (x.vKids.length : Int)
       ·simp (disch := omega) only [if_pos, w64, decide_eq_true (show 2 ≤ (x.vKids.length : Int) by omega), Bool.true_and]
        by_cases a8 : (rdAt zTExpForm x.vKids ((x.vKids.length : Int) - 1)).vSort = 1
        ·simp only [if_pos a8, decide_eq_true a8, Bool.true_or]; exact Ev.now _
        ·simp only [if_neg a8, decide_eq_false a8, Bool.false_or]; exact Ev.now _
       ·simp (disch := omega) only [if_neg, decide_eq_false (show ¬ 2 ≤ (x.vKids.length : Int) by omega), Bool.false_and]; exact Ev.now _
      ·intro i y r h0 h1 hx hm _ _ _ ihr
       have hy := wids_mem hm
       refine Ev.shift ?_
       simp (disch := omega) only [spec_l1Ok.l14, if_pos, hx, eTExpForm_eq, w64, okfs]
       refine Ev.bind (ih y hm (deep + 1) (by omega) (by omega) (by omega)) ?_
       cases okf y (deep + 1) with
       | false => simp only [Bool.false_eq_true, not_false_eq_true, if_true, Bool.false_and]; exact Ev.now _
       | true => simp only [not_true_eq_false, if_false, Bool.true_and]; exact ihr
     ·simp (disch := omega) only [if_pos, decide_eq_false a5, Bool.false_and]; exact Ev.now _
    ·simp only [if_pos a4, decide_eq_false a4, Bool.false_and]; exact Ev.now _
   ·simp only [if_pos a3, decide_eq_false a3, Bool.false_and]; exact Ev.now _
 by_cases a3 : x.vSort = 3
 ·simp only [if_pos a3]
  exact list true (by rw [decide_eq_true a3, Bool.true_or])
 ·simp only [if_neg a3]
  exact list _ (by rw [decide_eq_false a3, Bool.false_or])
theorem size_spec : ∀ (x : TExpForm), wid x ≤ 1000000000 → Ev (fun k => spec_l1Size.f k x) (cnt x) := by
 refine indForm fun x ih hw => ?_
 have hp := wid_parts x
 rw [cnt_mk]
 refine Ev.shift ?_
 simp only [spec_l1Size.f]
 refine goList x.vKids (P := fun i suf => ∀ n : Int, 1 ≤ n → n + cnts suf ≤ 1000000000 → Ev (fun k => spec_l1Size.l3 k n i x.vKids) (n + cnts suf)) ?_ ?_ 1 (by omega) (by have := cnts_le x.vKids; omega)
 ·intro n h1 h2
  refine Ev.shift ?_
  simp (disch := omega) only [spec_l1Size.l3, if_neg, cnts, Int.add_zero]
  exact Ev.now _
 ·intro i y r h0 h1 hx hm _ _ _ ihr n hn hs
  have hy := wids_mem hm
  have hc := cnt_pos y
  have hr := cnts_le r
  simp only [cnts] at hs ⊢
  refine Ev.shift ?_
  simp (disch := omega) only [spec_l1Size.l3, if_pos, hx, eTExpForm_eq]
  refine Ev.bind (ih y hm (by omega)) ?_
  simp (disch := omega) only [w64]
  rw [← Int.add_assoc]
  exact ihr _ (by omega) (by omega)
theorem formOk_spec (x : TExpForm) (hw : wid x ≤ 1000000000) : Ev (fun k => spec_ExpFormOk.f k x) (okb x) := by
 simp only [spec_ExpFormOk.f, eTExpForm_eq, okb, leB]
 refine Ev.bind (ok_spec x 0 hw (by omega) (by omega)) ?_
 cases okf x 0 with
 | false => simp only [Bool.false_eq_true, if_false, Bool.false_and]; exact Ev.now _
 | true =>
  simp only [if_true, Bool.true_and]
  exact Ev.bind (size_spec x hw) (Ev.now _)
def counted (x : TExpForm) (deep : Int) : Int := if okf x deep && leB (cnt x) 1500 then cnt x else -1
theorem count_impl : ∀ (x : TExpForm) (deep : Int), wid x ≤ 1000000000 → 0 ≤ deep → deep ≤ 1000000000 → Ev (fun k => impl_expCount.f k x deep) (counted x deep) := by
 refine indForm fun x ih deep hw h0 hd => ?_
 have hp := wid_parts x
 have hcx := cnt_mk x
 unfold counted
 rw [okf_mk]
 refine Ev.shift ?_
 simp only [impl_expCount.f]
 by_cases a0 : 60 < deep
 ·simp (disch := omega) only [if_pos, decide_eq_false, Bool.false_and, Bool.false_eq_true, if_false]; exact Ev.now _
 simp (disch := omega) only [if_neg a0, decide_eq_true (show deep ≤ 60 by omega), Bool.true_and]
 by_cases a1 : x.vSort = 1
 ·simp only [if_pos a1]
  refine Ev.bind (id_impl _ (by omega)) ?_
  cases idB x.vText with
  | false => simp only [Bool.false_eq_true, not_false_eq_true, if_true, if_false, Bool.false_and]; exact Ev.now _
  | true =>
   simp only [not_true_eq_false, if_false, Bool.true_and]
   by_cases a2 : (x.vText.size : Int) ≤ 40
   ·simp (disch := omega) only [if_neg, decide_eq_true a2, Bool.true_and]
    by_cases a3 : 0 ≤ x.vFrom
    ·simp (disch := omega) only [if_neg, decide_eq_true a3, Bool.true_and]
     by_cases a4 : (x.vKids.length : Int) = 0
     ·have hk : cnt x = 1 := by rw [hcx, List.eq_nil_of_length_eq_zero (by omega : x.vKids.length = 0)]; rfl
      simp (disch := omega) only [if_neg, decide_eq_true a4, Bool.and_true, hk, leB_t (show (1 : Int) ≤ 1500 by decide)]
      exact scopes_impl 1 _ (by omega)
     ·simp (disch := omega) only [if_pos, decide_eq_false a4, Bool.and_false, Bool.false_and, Bool.false_eq_true, if_false]; exact Ev.now _
    ·simp (disch := omega) only [if_pos, decide_eq_false a3, Bool.false_and, Bool.false_eq_true, if_false]; exact Ev.now _
   ·simp (disch := omega) only [if_pos, decide_eq_false a2, Bool.false_and, Bool.false_eq_true, if_false]; exact Ev.now _
 simp only [if_neg a1]
 by_cases a2 : x.vSort = 2
 ·simp only [if_pos a2]
  refine Ev.bind (atom_impl _ (by omega)) ?_
  cases atomB x.vText with
  | false => simp only [Bool.false_eq_true, not_false_eq_true, if_true, if_false, Bool.false_and]; exact Ev.now _
  | true =>
   simp only [not_true_eq_false, if_false, Bool.true_and]
   by_cases a2 : (x.vText.size : Int) ≤ 40
   ·simp (disch := omega) only [if_neg, decide_eq_true a2, Bool.true_and]
    by_cases a3 : x.vFrom = 0
    ·simp only [if_neg (decide_not_ne a3), decide_eq_true a3, Bool.true_and]
     by_cases a5 : (x.vScopes.length : Int) = 0
     ·simp (disch := omega) only [if_neg, decide_eq_true a5, Bool.true_and]
      by_cases a4 : (x.vKids.length : Int) = 0
      ·have hk : cnt x = 1 := by rw [hcx, List.eq_nil_of_length_eq_zero (by omega : x.vKids.length = 0)]; rfl
       simp (disch := omega) only [if_neg, decide_eq_true a4, Bool.and_true, hk, leB_t (show (1 : Int) ≤ 1500 by decide), if_true]
       exact Ev.now _
      ·simp (disch := omega) only [if_pos, decide_eq_false a4, Bool.and_false, Bool.false_and, Bool.false_eq_true, if_false]; exact Ev.now _
     ·simp (disch := omega) only [if_pos, decide_eq_false a5, Bool.false_and, Bool.false_eq_true, if_false]; exact Ev.now _
    ·simp only [if_pos a3, decide_eq_false a3, Bool.false_and, Bool.false_eq_true, if_false]; exact Ev.now _
   ·simp (disch := omega) only [if_pos, decide_eq_false a2, Bool.false_and, Bool.false_eq_true, if_false]; exact Ev.now _
 simp only [if_neg a2]
 have kids : (decide (x.vSort = 3) || lastOk x.vKids) = true → Ev (fun k => impl_expCount.l27 k deep 1 x.vKids (x.vKids.length : Int) 0) (if okfs x.vKids (deep + 1) && leB (cnt x) 1500 then cnt x else -1) := by
  intro _
  rw [hcx]
  refine goList x.vKids (P := fun i suf => ∀ n : Int, 1 ≤ n → n ≤ 1500 → Ev (fun k => impl_expCount.l27 k deep n x.vKids (x.vKids.length : Int) i) (if okfs suf (deep + 1) && leB (n + cnts suf) 1500 then n + cnts suf else -1)) ?_ ?_ 1 (by omega) (by omega)
  ·intro n h1 h2
   refine Ev.shift ?_
   simp (disch := omega) only [impl_expCount.l27, if_neg, cnts, Int.add_zero, okfs, Bool.true_and, leB_t h2, if_true]
   exact Ev.now _
  ·intro i y r h0 h1 hx hm _ _ _ ihr n hn hs
   have hy := wids_mem hm
   have hc := cnt_pos y
   have hr := cnts_le r
   refine Ev.shift ?_
   simp (disch := omega) only [impl_expCount.l27, if_pos, hx, eTExpForm_eq, w64, okfs, cnts]
   refine Ev.bind (ih y hm (deep + 1) (by omega) (by omega) (by omega)) ?_
   unfold counted
   by_cases b1 : okf y (deep + 1) = true
   ·by_cases b2 : cnt y ≤ 1500
    ·simp (disch := omega) only [b1, leB_t b2, Bool.and_self, if_true, if_neg, w64, Bool.true_and]
     by_cases b3 : 1500 < n + cnt y
     ·have : ¬ n + (cnt y + cnts r) ≤ 1500 := by omega
      simp only [if_pos b3, leB_f this, Bool.and_false, Bool.false_eq_true, if_false]; exact Ev.now _
     ·simp only [if_neg b3]
      rw [← Int.add_assoc]
      exact ihr _ (by omega) (by omega)
    ·have : ¬ n + (cnt y + cnts r) ≤ 1500 := by omega
     simp (disch := decide) only [leB_f b2, leB_f this, Bool.and_false, Bool.false_eq_true, if_false, if_pos]; exact Ev.now _
   ·simp (disch := decide) only [Bool.eq_false_iff.2 b1, Bool.false_and, Bool.false_eq_true, if_false, if_pos]; exact Ev.now _
 have list : ∀ b : Bool, b = (decide (x.vSort = 3) || decide (x.vSort = 4)) → Ev (fun k => impl_expCount.j20b k (impl_expCount.f k) (impl_expCount.l27 k) deep 1 b x.vSort x.vText x.vScopes x.vFrom x.vKids)
   (if (decide (x.vSort = 3) || decide (x.vSort = 4)) && (decide (bytesOf x.vText = []) && (decide (x.vFrom = 0) && (decide ((x.vScopes.length : Int) = 0) && (okfs x.vKids (deep + 1) && (decide (x.vSort = 3) || lastOk x.vKids))))) && leB (cnt x) 1500 then cnt x else -1) := by
  intro b hb
  rw [← hb]
  simp only [impl_expCount.j20b, impl_expCount.j22b, impl_expCount.j26b, lit_eq #[] [] rfl]
  cases b with
  | false => simp only [Bool.false_eq_true, if_false, Bool.false_and]; exact Ev.now _
  | true =>
   simp only [if_true, Bool.true_and]
   by_cases a3 : bytesOf x.vText = []
   ·simp only [if_neg (decide_not_ne a3), decide_eq_true a3, Bool.true_and]
    by_cases a4 : x.vFrom = 0
    ·simp only [if_neg (decide_not_ne a4), decide_eq_true a4, Bool.true_and]
     by_cases a5 : (x.vScopes.length : Int) = 0
     ·simp (disch := omega) only [if_neg, decide_eq_true a5, Bool.true_and]
      by_cases a6 : x.vSort = 4
      ·have a7 : ¬ x.vSort = 3 := by omega
       simp only [if_pos a6, decide_eq_false a7, Bool.false_or]
       by_cases a8 : (x.vKids.length : Int) < 2
       ·have : lastOk x.vKids = false := by unfold lastOk; rw [decide_eq_false (by omega)]; rfl
        simp only [if_pos a8, this, Bool.and_false, Bool.false_and, Bool.false_eq_true, if_false]; exact Ev.now _
       ·have a8' : 2 ≤ (x.vKids.length : Int) := by omega
        simp (disch := omega) only [if_neg a8, if_pos, w64]
        by_cases a9 : (rdAt zTExpForm x.vKids ((x.vKids.length : Int) - 1)).vSort = 1
        ·have : lastOk x.vKids = true := by unfold lastOk; rw [decide_eq_true a8', decide_eq_true a9]; rfl
         simp only [if_neg (decide_not_ne a9), this, Bool.and_true]
         exact kids (by rw [this, Bool.or_true])
        ·simp only [if_pos a9]
         by_cases a10 : (rdAt zTExpForm x.vKids ((x.vKids.length : Int) - 1)).vSort = 2
         ·have : lastOk x.vKids = true := by unfold lastOk; rw [decide_eq_true a8', decide_eq_true a10, Bool.or_true]; rfl
          simp only [if_neg (decide_not_ne a10), this, Bool.and_true]
          exact kids (by rw [this, Bool.or_true])
         ·have : lastOk x.vKids = false := by unfold lastOk; rw [decide_eq_false a9, decide_eq_false a10, Bool.and_comm]; rfl
          simp only [if_pos a10, this, Bool.and_false, Bool.false_and, Bool.false_eq_true, if_false]; exact Ev.now _
      ·have a7 : x.vSort = 3 := by
        simp only [Bool.true_eq, Bool.or_eq_true, decide_eq_true_eq] at hb; omega
       simp only [if_neg a6, decide_eq_true a7, Bool.true_or, Bool.and_true]
       exact kids (by rw [decide_eq_true a7, Bool.true_or])
     ·simp (disch := omega) only [if_pos, decide_eq_false a5, Bool.false_and, Bool.false_eq_true, if_false]; exact Ev.now _
    ·simp only [if_pos a4, decide_eq_false a4, Bool.false_and, Bool.false_eq_true, if_false]; exact Ev.now _
   ·simp only [if_pos a3, decide_eq_false a3, Bool.false_and, Bool.false_eq_true, if_false]; exact Ev.now _
 by_cases a3 : x.vSort = 3
 ·simp only [if_pos a3]
  exact list true (by rw [decide_eq_true a3, Bool.true_or])
 ·simp only [if_neg a3]
  exact list _ (by rw [decide_eq_false a3, Bool.false_or])
theorem formOk_impl (x : TExpForm) (hw : wid x ≤ 1000000000) : Ev (fun k => impl_ExpFormOk.f k x) (okb x) := by
 simp only [impl_ExpFormOk.f, eTExpForm_eq]
 refine Ev.bind (count_impl x 0 hw (by omega) (by omega)) ?_
 have := cnt_pos x
 unfold counted okb
 by_cases h : (okf x 0 && leB (cnt x) 1500) = true
 ·rw [if_pos h, h, decide_eq_true (by omega)]; exact Ev.now _
 ·rw [if_neg h, Bool.eq_false_iff.2 h]; exact Ev.now _
end Go.Proofs.YtmcbhnbemhfifaaDoor.RX
end
section
namespace Go.Proofs.YtmcbhnbemhfifaaDoor.RX
open Go K
set_option autoImplicit false
set_option linter.unusedVariables false
set_option linter.unusedSimpArgs false
def isDots (x : TExpForm) : Bool := decide (x.vSort = 1) && decide (bytesOf x.vText = [46, 46, 46])
def isBlank (x : TExpForm) : Bool := decide (x.vSort = 1) && decide (bytesOf x.vText = [95])
def sameB (a b : TExpForm) : Bool := decide (a.vText.toList = b.vText.toList) && decide (a.vScopes = b.vScopes)
def inB (l : List TExpForm) (p : TExpForm) : Bool := l.any fun x => sameB x p
def litOk (x : TExpForm) : Bool := decide (x.vSort = 1) && (okb x && (!isDots x && !isBlank x))
def Sml (l : List TExpForm) : Prop := (l.length : Int) ≤ 1000000000 ∧ ∀ x ∈ l, wid x ≤ 1000000000
theorem Sml.of {l : List TExpForm} (h : wids l ≤ 1000000000) : Sml l := ⟨by have := wids_len l; omega, fun x hx => by have := wids_mem hx; omega⟩
theorem dots_spec (x : TExpForm) : Ev (fun k => spec_l3Dots.f k x) (isDots x) := by
 simp only [spec_l3Dots.f, lit_eq #[46, 46, 46] [46, 46, 46] rfl, isDots]
 by_cases h : x.vSort = 1
 ·simp only [h, if_true, decide_true, Bool.true_and]; exact Ev.now _
 ·simp only [h, if_false, decide_false, Bool.false_and]; exact Ev.now _
theorem blank_spec (x : TExpForm) : Ev (fun k => spec_l3Blank.f k x) (isBlank x) := by
 simp only [spec_l3Blank.f, lit_eq #[95] [95] rfl, isBlank]
 by_cases h : x.vSort = 1
 ·simp only [h, if_true, decide_true, Bool.true_and]; exact Ev.now _
 ·simp only [h, if_false, decide_false, Bool.false_and]; exact Ev.now _
theorem is_dots (x : TExpForm) : Ev (fun k => impl_expIs.f k x (ByteArray.mk #[46, 46, 46])) (isDots x) := by
 simp only [impl_expIs.f, lit_eq #[46, 46, 46] [46, 46, 46] rfl, isDots]
 by_cases h : x.vSort = 1
 ·simp only [h, if_true, decide_true, Bool.true_and]; exact Ev.now _
 ·simp only [h, if_false, decide_false, Bool.false_and]; exact Ev.now _
theorem intsLoop (a b : List Int) (hl : (a.length : Int) = (b.length : Int)) (hs : (a.length : Int) ≤ 1000000000) (G : Nat → Int → Option Bool)
  (h0 : Ev (fun k => G k (a.length : Int)) true)
  (h1 : ∀ i : Int, 0 ≤ i → i < (a.length : Int) → ∀ r, (rdAt 0 a i = rdAt 0 b i → Ev (fun k => G k (i + 1)) r) → (¬ rdAt 0 a i = rdAt 0 b i → r = false) → Ev (fun k => G k i) r) : Ev (fun k => G k 0) (decide (a = b)) := by
 have key := goList a (P := fun i suf => Ev (fun k => G k i) (decide (suf = b.drop i.toNat))) ?_ ?_
 ·simpa using key
 ·have : b.drop ((a.length : Int)).toNat = [] := List.drop_eq_nil_of_le (by omega)
  rw [this]; simpa using h0
 ·intro i x r i0 i1 hx hm hlen hdr _ ih
  have hlt : i.toNat < b.length := by omega
  have hd : b.drop i.toNat = b[i.toNat] :: b.drop (i.toNat + 1) := List.drop_eq_getElem_cons hlt
  have hb : rdAt 0 b i = b[i.toNat] := by
   obtain ⟨n, rfl⟩ := Int.eq_ofNat_of_zero_le i0
   exact rdAt_at 0 b n (by omega)
  have e : (i + 1).toNat = i.toNat + 1 := by omega
  rw [e] at ih
  refine h1 i i0 i1 _ (fun he => ?_) (fun he => ?_)
  ·refine Ev.eq ih ?_
   rw [hx, hb] at he
   rw [hd, ← he]
   simp
  ·rw [hx, hb] at he
   refine decide_eq_false fun e => ?_
   rw [hd] at e
   exact he (List.cons.inj e).1
theorem ints_impl (a b : List Int) (hs : (a.length : Int) ≤ 1000000000) : Ev (fun k => impl_expInts.f k a b) (decide (a = b)) := by
 by_cases hl : (a.length : Int) = (b.length : Int)
 ·simp only [impl_expInts.f, if_neg (decide_not_ne hl)]
  refine intsLoop a b hl hs (fun k i => impl_expInts.l4 k a b (a.length : Int) i) ?_ ?_
  ·refine Ev.shift ?_
   simp (disch := omega) only [impl_expInts.l4, if_neg]; exact Ev.now _
  ·intro i i0 i1 r h1 h2
   refine Ev.shift ?_
   simp (disch := omega) only [impl_expInts.l4, if_pos, w64]
   by_cases h : rdAt 0 a i = rdAt 0 b i
   ·simp only [if_neg (decide_not_ne h)]; exact h1 h
   ·simp only [if_pos h, h2 h]; exact Ev.now _
 ·simp only [impl_expInts.f, if_pos hl]
  rw [decide_eq_false (fun e => hl (by rw [e]))]; exact Ev.now _
theorem ints_spec (a b : List Int) (hs : (a.length : Int) ≤ 1000000000) : Ev (fun k => spec_l3Ints.f k a b) (decide (a = b)) := by
 by_cases hl : (a.length : Int) = (b.length : Int)
 ·simp only [spec_l3Ints.f, if_neg (decide_not_ne hl)]
  refine intsLoop a b hl hs (fun k i => spec_l3Ints.l4 k a b i) ?_ ?_
  ·refine Ev.shift ?_
   simp (disch := omega) only [spec_l3Ints.l4, if_neg]; exact Ev.now _
  ·intro i i0 i1 r h1 h2
   refine Ev.shift ?_
   simp (disch := omega) only [spec_l3Ints.l4, if_pos, w64]
   by_cases h : rdAt 0 a i = rdAt 0 b i
   ·simp only [if_neg (decide_not_ne h)]; exact h1 h
   ·simp only [if_pos h, h2 h]; exact Ev.now _
 ·simp only [spec_l3Ints.f, if_pos hl]
  rw [decide_eq_false (fun e => hl (by rw [e]))]; exact Ev.now _
theorem same_impl (a b : TExpForm) (ha : wid a ≤ 1000000000) : Ev (fun k => impl_expSame.f k a b) (sameB a b) := by
 have hp := wid_parts a
 simp only [impl_expSame.f, sameB]
 by_cases h : a.vText.toList = b.vText.toList
 ·simp only [if_pos h, decide_eq_true h, Bool.true_and]; exact Ev.bind (ints_impl _ _ (by omega)) (Ev.now _)
 ·simp only [if_neg h, decide_eq_false h, Bool.false_and]; exact Ev.now _
theorem same_spec (a b : TExpForm) (ha : wid a ≤ 1000000000) (h1 : a.vSort = 1) (h2 : b.vSort = 1) : Ev (fun k => spec_l3Same.f k a b) (sameB a b) := by
 have hp := wid_parts a
 simp only [spec_l3Same.f, sameB, if_pos h1, if_pos h2]
 by_cases h : a.vText.toList = b.vText.toList
 ·simp only [if_pos h, decide_eq_true h, Bool.true_and]; exact Ev.bind (ints_spec _ _ (by omega)) (Ev.now _)
 ·simp only [if_neg h, decide_eq_false h, Bool.false_and]; exact Ev.now _
theorem in_impl (l : List TExpForm) (p : TExpForm) (hs : Sml l) : Ev (fun k => impl_expIn.f k l p) (inB l p) := by
 obtain ⟨hl, hs⟩ := hs
 simp only [impl_expIn.f, inB]
 refine goList l (P := fun i suf => Ev (fun k => impl_expIn.l2 k l (l.length : Int) i p.vSort p.vText p.vScopes p.vFrom p.vKids) (suf.any fun x => sameB x p)) ?_ ?_
 ·refine Ev.shift ?_
  simp (disch := omega) only [impl_expIn.l2, if_neg, List.any_nil]; exact Ev.now _
 ·intro i x r i0 i1 hx hm _ _ _ ih
  refine Ev.shift ?_
  simp (disch := omega) only [impl_expIn.l2, if_pos, w64, hx, eTExpForm_eq, mTExpForm, List.any_cons]
  refine Ev.bind (same_impl x p (hs x hm)) ?_
  cases sameB x p with
  | true => simp only [if_true, Bool.true_or]; exact Ev.now _
  | false => simp only [Bool.false_eq_true, if_false, Bool.false_or]; exact ih
theorem among_spec (l : List TExpForm) (p : TExpForm) (hs : Sml l) (h1 : ∀ x ∈ l, x.vSort = 1) (h2 : p.vSort = 1) : Ev (fun k => spec_l3Among.f k l p) (inB l p) := by
 obtain ⟨hl, hs⟩ := hs
 simp only [spec_l3Among.f, inB]
 refine goList l (P := fun i suf => Ev (fun k => spec_l3Among.l2 k l i p.vSort p.vText p.vScopes p.vFrom p.vKids) (suf.any fun x => sameB x p)) ?_ ?_
 ·refine Ev.shift ?_
  simp (disch := omega) only [spec_l3Among.l2, if_neg, List.any_nil]; exact Ev.now _
 ·intro i x r i0 i1 hx hm _ _ _ ih
  refine Ev.shift ?_
  simp (disch := omega) only [spec_l3Among.l2, if_pos, w64, hx, eTExpForm_eq, mTExpForm, List.any_cons]
  refine Ev.bind (same_spec x p (hs x hm) (h1 x hm) h2) ?_
  cases sameB x p with
  | true => simp only [if_true, Bool.true_or]; exact Ev.now _
  | false => simp only [Bool.false_eq_true, if_false, Bool.false_or]; exact ih
theorem lits_impl (l : List TExpForm) (hs : Sml l) : Ev (fun k => impl_expLiterals.f k l) (l.all litOk) := by
 obtain ⟨hl, hs⟩ := hs
 simp only [impl_expLiterals.f]
 refine goList l (P := fun i suf => Ev (fun k => impl_expLiterals.l2 k l (l.length : Int) i) (suf.all litOk)) ?_ ?_
 ·refine Ev.shift ?_
  simp (disch := omega) only [impl_expLiterals.l2, if_neg, List.all_nil]; exact Ev.now _
 ·intro i x r i0 i1 hx hm _ _ _ ih
  refine Ev.shift ?_
  simp (disch := omega) only [impl_expLiterals.l2, if_pos, w64, hx, eTExpForm_eq, List.all_cons, litOk, isDots, isBlank, lit_eq #[46, 46, 46] [46, 46, 46] rfl, lit_eq #[95] [95] rfl]
  by_cases h : x.vSort = 1
  ·simp only [if_neg (decide_not_ne h), decide_eq_true h, Bool.true_and]
   refine Ev.bind (formOk_impl x (hs x hm)) ?_
   cases okb x with
   | false => simp only [Bool.false_eq_true, not_false_eq_true, if_true, Bool.false_and]; exact Ev.now _
   | true =>
    simp only [not_true_eq_false, if_false, Bool.true_and]
    by_cases h3 : bytesOf x.vText = [46, 46, 46]
    ·simp only [if_pos h3, decide_eq_true h3, Bool.not_true, Bool.false_and]; exact Ev.now _
    simp only [if_neg h3, decide_eq_false h3, Bool.not_false, Bool.true_and]
    by_cases h4 : bytesOf x.vText = [95]
    ·simp only [if_pos h4, decide_eq_true h4, Bool.not_true, Bool.false_and]; exact Ev.now _
    simp only [if_neg h4, decide_eq_false h4, Bool.not_false, Bool.true_and]; exact ih
  ·simp only [if_pos h, decide_eq_false h, Bool.false_and]; exact Ev.now _
theorem lits_spec (l : List TExpForm) (hs : Sml l) : Ev (fun k => spec_l3IdsOk.f k l) (l.all litOk) := by
 obtain ⟨hl, hs⟩ := hs
 simp only [spec_l3IdsOk.f]
 refine goList l (P := fun i suf => Ev (fun k => spec_l3IdsOk.l2 k l i) (suf.all litOk)) ?_ ?_
 ·refine Ev.shift ?_
  simp (disch := omega) only [spec_l3IdsOk.l2, if_neg, List.all_nil]; exact Ev.now _
 ·intro i x r i0 i1 hx hm _ _ _ ih
  refine Ev.shift ?_
  simp (disch := omega) only [spec_l3IdsOk.l2, if_pos, w64, hx, eTExpForm_eq, List.all_cons, litOk]
  refine Ev.bind (formOk_spec x (hs x hm)) ?_
  cases okb x with
  | false => simp only [Bool.false_eq_true, not_false_eq_true, if_true, Bool.false_and, Bool.and_false]; exact Ev.now _
  | true =>
   simp only [not_true_eq_false, if_false, Bool.true_and]
   by_cases h : x.vSort = 1
   ·simp only [if_neg (decide_not_ne h), decide_eq_true h, Bool.true_and]
    refine Ev.bind (dots_spec x) ?_
    cases isDots x with
    | true => simp only [if_true, Bool.not_true, Bool.false_and]; exact Ev.now _
    | false =>
     simp only [Bool.false_eq_true, if_false, Bool.not_false, Bool.true_and]
     refine Ev.bind (blank_spec x) ?_
     cases isBlank x with
     | true => simp only [if_true, Bool.not_true, Bool.false_and]; exact Ev.now _
     | false => simp only [Bool.false_eq_true, if_false, Bool.not_false, Bool.true_and]; exact ih
   ·simp only [if_pos h, decide_eq_false h, Bool.false_and]; exact Ev.now _
mutual
def nms (lits : List TExpForm) : TExpForm → List TExpForm
 | ⟨a, t, sc, d, ks⟩ => if a = 1 then (if isDots ⟨a, t, sc, d, ks⟩ || isBlank ⟨a, t, sc, d, ks⟩ || inB lits ⟨a, t, sc, d, ks⟩ then [] else [⟨a, t, sc, d, ks⟩]) else nmss lits ks
def nmss (lits : List TExpForm) : List TExpForm → List TExpForm
 | [] => []
 | x :: l => nms lits x ++ nmss lits l
end
theorem nms_mk (lits : List TExpForm) (x : TExpForm) : nms lits x = if x.vSort = 1 then (if isDots x || isBlank x || inB lits x then [] else [x]) else nmss lits x.vKids := by cases x; simp only [nms]
theorem nms_facts (lits : List TExpForm) : ∀ x, ((nms lits x).length : Int) ≤ wid x ∧ ∀ y ∈ nms lits x, y.vSort = 1 ∧ wid y ≤ wid x := by
 refine indForm fun x ih => ?_
 have hp := wid_parts x
 have key : ∀ l : List TExpForm, (∀ y ∈ l, ((nms lits y).length : Int) ≤ wid y ∧ ∀ z ∈ nms lits y, z.vSort = 1 ∧ wid z ≤ wid y) → ((nmss lits l).length : Int) ≤ wids l ∧ ∀ z ∈ nmss lits l, z.vSort = 1 ∧ wid z ≤ wids l := by
  intro l
  induction l with
  | nil => intro _; exact ⟨by simp [nmss, wids], fun z hz => by cases hz⟩
  | cons y l ihl =>
   intro h
   obtain ⟨a1, a2⟩ := h y (by simp)
   obtain ⟨b1, b2⟩ := ihl fun z hz => h z (List.mem_cons_of_mem _ hz)
   have := wid_pos y
   have := (wids_len l).1
   simp only [nmss, wids, List.length_append]
   refine ⟨by omega, fun z hz => ?_⟩
   rcases List.mem_append.1 hz with hz | hz
   ·exact ⟨(a2 z hz).1, by have := (a2 z hz).2; omega⟩
   ·exact ⟨(b2 z hz).1, by have := (b2 z hz).2; omega⟩
 obtain ⟨b1, b2⟩ := key x.vKids ih
 rw [nms_mk]
 by_cases h : x.vSort = 1
 ·rw [if_pos h]
  split
  ·exact ⟨by simp; omega, fun y hy => by cases hy⟩
  ·refine ⟨by simp; omega, fun y hy => ?_⟩
   rw [List.mem_singleton.1 hy]; exact ⟨h, Int.le_refl _⟩
 ·rw [if_neg h]
  exact ⟨by omega, fun y hy => ⟨(b2 y hy).1, by have := (b2 y hy).2; omega⟩⟩
def noDup : List TExpForm → List TExpForm → Bool
 | _, [] => true
 | seen, x :: l => !inB seen x && noDup (seen ++ [x]) l
theorem noDup_append (a b : List TExpForm) : ∀ s, noDup s (a ++ b) = (noDup s a && noDup (s ++ a) b) := by
 induction a with
 | nil => intro s; simp [noDup]
 | cons x a ih =>
  intro s
  simp only [List.cons_append, noDup, ih, List.append_assoc, Bool.and_assoc, List.nil_append]
def dotsN : List TExpForm → Int
 | [] => 0
 | x :: l => (if isDots x then 1 else 0) + dotsN l
theorem dotsN_pos (l : List TExpForm) : 0 ≤ dotsN l ∧ dotsN l ≤ (l.length : Int) := by
 induction l with
 | nil => simp [dotsN]
 | cons x l ih => simp only [dotsN, List.length_cons]; split <;> omega
def headDots : List TExpForm → Bool
 | [] => false
 | x :: _ => isDots x
def partsOf (x : TExpForm) : List TExpForm := if x.vSort = 4 then x.vKids.take (x.vKids.length - 1) else x.vKids
def lastOf (x : TExpForm) : TExpForm := rdAt zTExpForm x.vKids ((x.vKids.length : Int) - 1)
def gt1 (n : Int) : Bool := decide (1 < n)
mutual
def stOk : TExpForm → Bool
 | ⟨a, t, sc, d, ks⟩ => if a = 1 ∨ a = 2 then true else (!headDots (partsOf ⟨a, t, sc, d, ks⟩) && !gt1 (dotsN (partsOf ⟨a, t, sc, d, ks⟩))) && ((!decide (a = 4) || !isDots (lastOf ⟨a, t, sc, d, ks⟩)) && stOks ks)
def stOks : List TExpForm → Bool
 | [] => true
 | x :: l => stOk x && stOks l
end
theorem stOk_mk (x : TExpForm) : stOk x = if x.vSort = 1 ∨ x.vSort = 2 then true else (!headDots (partsOf x) && !gt1 (dotsN (partsOf x))) && ((!decide (x.vSort = 4) || !isDots (lastOf x)) && stOks x.vKids) := by cases x; simp only [stOk]
theorem stOks_append (a b : List TExpForm) : stOks (a ++ b) = (stOks a && stOks b) := by
 induction a with
 | nil => simp [stOks]
 | cons x a ih => simp only [List.cons_append, stOks, ih, Bool.and_assoc]
theorem nmss_append (lits a b : List TExpForm) : nmss lits (a ++ b) = nmss lits a ++ nmss lits b := by
 induction a with
 | nil => simp [nmss]
 | cons x a ih => simp only [List.cons_append, nmss, ih, List.append_assoc]
theorem take_last {l : List TExpForm} (h : 1 ≤ (l.length : Int)) : l.take (l.length - 1) ++ [rdAt zTExpForm l ((l.length : Int) - 1)] = l := by
 have e : rdAt zTExpForm l ((l.length : Int) - 1) = l[l.length - 1]'(by omega) := by
  rw [show (l.length : Int) - 1 = ((l.length - 1 : Nat) : Int) by omega]
  exact rdAt_at _ _ _ (by omega)
 rw [e, List.take_append_getElem (by omega)]
 exact List.take_of_length_le (by omega)
theorem okf_shape {x : TExpForm} {d : Int} (h : okf x d = true) : (x.vSort = 1 ∧ x.vKids = []) ∨ (x.vSort = 2 ∧ x.vKids = []) ∨ ((x.vSort = 3 ∨ (x.vSort = 4 ∧ 2 ≤ (x.vKids.length : Int))) ∧ okfs x.vKids (d + 1) = true) := by
 rw [okf_mk] at h
 simp only [Bool.and_eq_true] at h
 obtain ⟨_, h⟩ := h
 by_cases h1 : x.vSort = 1
 ·rw [if_pos h1] at h
  simp only [Bool.and_eq_true, decide_eq_true_eq] at h
  exact .inl ⟨h1, List.eq_nil_of_length_eq_zero (by omega)⟩
 rw [if_neg h1] at h
 by_cases h2 : x.vSort = 2
 ·rw [if_pos h2] at h
  simp only [Bool.and_eq_true, decide_eq_true_eq] at h
  exact .inr (.inl ⟨h2, List.eq_nil_of_length_eq_zero (by omega)⟩)
 rw [if_neg h2] at h
 simp only [Bool.and_eq_true, Bool.or_eq_true, decide_eq_true_eq] at h
 obtain ⟨h3, _, _, _, h4, h5⟩ := h
 refine .inr (.inr ⟨?_, h4⟩)
 rcases h3 with h3 | h3
 ·exact .inl h3
 ·refine .inr ⟨h3, ?_⟩
  rcases h5 with h5 | h5
  ·omega
  ·unfold lastOk at h5
   simp only [Bool.and_eq_true, decide_eq_true_eq] at h5
   exact h5.1
theorem okfs_mem' {l : List TExpForm} {d : Int} (h : okfs l d = true) : ∀ x ∈ l, okf x d = true := by
 induction l with
 | nil => intro x hx; cases hx
 | cons y l ih =>
  simp only [okfs, Bool.and_eq_true] at h
  intro x hx
  rcases List.mem_cons.1 hx with rfl | hx
  ·exact h.1
  ·exact ih h.2 x hx
theorem Sml.snoc {l m : List TExpForm} (h : Sml l) (hm : ∀ x ∈ m, wid x ≤ 1000000000) (hl : (l.length : Int) + (m.length : Int) ≤ 1000000000) : Sml (l ++ m) :=
 ⟨by rw [List.length_append]; omega, fun x hx => (List.mem_append.1 hx).elim (h.2 x) (hm x)⟩
theorem parts_impl (x : TExpForm) (hw : wid x ≤ 1000000000) (h : x.vSort = 3 ∨ (x.vSort = 4 ∧ 2 ≤ (x.vKids.length : Int))) : Ev (fun k => impl_expParts.f k x) (partsOf x, if x.vSort = 4 then some (lastOf x) else none) := by
 have hp := wid_parts x
 simp only [impl_expParts.f]
 rcases h with h | ⟨h, h2⟩
 ·have n4 : ¬ x.vSort = 4 := by omega
  simp only [if_pos h, partsOf, if_neg n4]; exact Ev.now _
 ·have n3 : ¬ x.vSort = 3 := by omega
  simp (disch := omega) only [if_neg n3, if_pos h, if_pos, w64, List.drop_zero, eTExpForm_eq, partsOf, lastOf]
  refine Ev.eq (Ev.now _) ?_
  rw [show ((x.vKids.length : Int) - 1).toNat = x.vKids.length - 1 by omega]
  rfl
def lookEnd (lits : List TExpForm) (e : Option TExpForm) (b : Bool) (ns : List TExpForm) : List TExpForm × Bool × List TExpForm :=
 match e with
 | none => (lits, b, ns)
 | some e => (lits, b || (isDots e || (!stOk e || !noDup ns (nms lits e))), ns ++ nms lits e)
theorem set_end (a : List TExpForm) (z y : TExpForm) : (a ++ [z]).set ((a.length : Int).toNat) y = a ++ [y] := by
 simp
theorem look_impl (lits : List TExpForm) (hlit : Sml lits) : ∀ (p : TExpForm) (d : Int), okf p d = true → ∀ (bad : Bool) (ns : List TExpForm), Sml ns → wid p ≤ 100000000 → (ns.length : Int) + wid p ≤ 1000000000 →
  Ev (fun k => impl_expNames_look.f k p lits bad ns) (lits, bad || (!stOk p || !noDup ns (nms lits p)), ns ++ nms lits p) := by
 refine indForm fun p ih d hok bad ns hns hwp hsum => ?_
 have hp := wid_parts p
 have hpos := wid_pos p
 refine Ev.shift ?_
 simp only [impl_expNames_look.f, lit_eq #[46, 46, 46] [46, 46, 46] rfl, lit_eq #[95] [95] rfl, eTExpForm_eq]
 rcases okf_shape hok with ⟨h1, hk⟩ | ⟨h2, hk⟩ | ⟨h34, hks⟩
 ·rw [stOk_mk, if_pos (Or.inl h1), nms_mk, if_pos h1]
  simp only [if_pos h1, Bool.not_true, Bool.false_or]
  by_cases a1 : bytesOf p.vText = [46, 46, 46]
  ·have : isDots p = true := by unfold isDots; rw [decide_eq_true h1, decide_eq_true a1]; rfl
   simp only [if_pos a1, this, Bool.true_or, if_true, noDup, Bool.not_true, Bool.or_false, List.append_nil]; exact Ev.now _
  have d1 : isDots p = false := by unfold isDots; rw [decide_eq_false a1, Bool.and_false]
  by_cases a2 : bytesOf p.vText = [95]
  ·have : isBlank p = true := by unfold isBlank; rw [decide_eq_true h1, decide_eq_true a2]; rfl
   simp only [if_neg a1, if_pos a2, this, Bool.true_or, Bool.or_true, if_true, noDup, Bool.not_true, Bool.or_false, List.append_nil]; exact Ev.now _
  have d2 : isBlank p = false := by unfold isBlank; rw [decide_eq_false a2, Bool.and_false]
  simp only [if_neg a1, if_neg a2, d1, d2, Bool.false_or]
  refine Ev.bind (in_impl lits p hlit) ?_
  cases inB lits p with
  | true => simp only [if_true, noDup, Bool.not_true, Bool.or_false, List.append_nil]; exact Ev.now _
  | false =>
   have fin : ∀ b : Bool, Ev (fun k => impl_expNames_look.d5 k lits b p.vSort p.vText p.vScopes p.vFrom p.vKids ns) (lits, b, ns ++ [p]) := by
    intro b
    simp (disch := first | omega | (simp; omega)) only [impl_expNames_look.d5, if_pos, set_end, mTExpForm]
    exact Ev.now _
   simp only [Bool.false_eq_true, if_false, impl_expNames_look.j4, mTExpForm, noDup, Bool.and_true, Bool.not_not]
   cases bad with
   | true => simp only [if_true, Bool.true_or]; exact fin true
   | false =>
    simp only [Bool.false_eq_true, if_false, Bool.false_or]
    exact Ev.bind (in_impl ns p hns) (fin _)
 ·rw [stOk_mk, if_pos (Or.inr h2), nms_mk, if_neg (by omega), hk]
  have n1 : ¬ p.vSort = 1 := by omega
  have n3 : ¬ p.vSort = 3 := by omega
  have n4 : ¬ p.vSort = 4 := by omega
  simp only [if_neg n1, if_neg n3, decide_eq_false n4, impl_expNames_look.j8b, Bool.false_eq_true, if_false, nmss, noDup, Bool.not_true, Bool.or_false, List.append_nil]
  exact Ev.now _
 ·have n1 : ¬ p.vSort = 1 := by rcases h34 with h | h <;> omega
  have n2 : ¬ p.vSort = 2 := by rcases h34 with h | h <;> omega
  have hkids := okfs_mem' hks
  have hparts : ∀ y ∈ partsOf p, y ∈ p.vKids := by
   intro y hy
   unfold partsOf at hy
   split at hy
   ·exact List.mem_of_mem_take hy
   ·exact hy
  have hwparts : wids (partsOf p) ≤ wids p.vKids := by
   unfold partsOf
   split
   ·exact wids_take_le _ _
   ·exact Int.le_refl _
  have hlp := (wids_len (partsOf p)).2
  have endd : ∀ (b : Bool) (ns' : List TExpForm), Sml ns' → (ns'.length : Int) + (wid p - wids (partsOf p)) ≤ 1000000000 → Ev (fun k => impl_expNames_look.j19b k (impl_expNames_look.f k) (impl_expNames_look.l11 k) (if p.vSort = 4 then some (lastOf p) else none) lits b ns') (lookEnd lits (if p.vSort = 4 then some (lastOf p) else none) b ns') := by
   intro b ns' hns' hsum'
   by_cases h4 : p.vSort = 4
   ·have h2k : 2 ≤ (p.vKids.length : Int) := by rcases h34 with h | h <;> omega
    have hmem : lastOf p ∈ p.vKids := rdAt_mem _ _ _ (by omega) (by omega)
    have hwl := wids_mem hmem
    have hwe : wids p.vKids = wids (partsOf p) + wid (lastOf p) := by
     have e : p.vKids = partsOf p ++ [lastOf p] := by
      unfold partsOf lastOf
      rw [if_pos h4]
      exact (take_last (by omega)).symm
     have := wids_append (partsOf p) [lastOf p]
     rw [← e] at this
     rwa [wids_one] at this
    have hl := fun b => ih (lastOf p) hmem (d + 1) (hkids _ hmem) b ns' hns' (by omega) (by omega)
    simp only [if_pos h4, impl_expNames_look.j19b, Option.isSome_some, if_true, Option.bind_some, eTExpForm_eq, lookEnd]
    cases b with
    | true => simp only [if_true]; exact Ev.bind (hl true) (by simp only [Bool.true_or]; exact Ev.now _)
    | false =>
     simp only [Bool.false_eq_true, if_false, Bool.false_or]
     exact Ev.bind (is_dots _) (Ev.bind (hl _) (Ev.now _))
   ·simp only [if_neg h4, impl_expNames_look.j19b, Option.isSome_none, Bool.false_eq_true, if_false, lookEnd]; exact Ev.now _
  have loop : ∀ (b0 : Bool), Ev (fun k => impl_expNames_look.l11 k (if p.vSort = 4 then some (lastOf p) else none) 0 (partsOf p) ((partsOf p).length : Int) 0 lits b0 ns)
    (lookEnd lits (if p.vSort = 4 then some (lastOf p) else none) (b0 || (headDots (partsOf p) || (!stOks (partsOf p) || (!noDup ns (nmss lits (partsOf p)) || gt1 (dotsN (partsOf p)))))) (ns ++ nmss lits (partsOf p))) := by
   intro b0
   have key := goList (partsOf p) (P := fun i suf => ∀ (n : Int) (b : Bool) (ns' : List TExpForm), 0 ≤ n → n ≤ i → Sml ns' → (ns'.length : Int) + wids suf + (wid p - wids (partsOf p)) ≤ 1000000000 →
    Ev (fun k => impl_expNames_look.l11 k (if p.vSort = 4 then some (lastOf p) else none) n (partsOf p) ((partsOf p).length : Int) i lits b ns')
    (lookEnd lits (if p.vSort = 4 then some (lastOf p) else none) (b || ((decide (i = 0) && headDots suf) || (!stOks suf || (!noDup ns' (nmss lits suf) || gt1 (n + dotsN suf))))) (ns' ++ nmss lits suf))) ?_ ?_ 0 b0 ns (by omega) (by omega) hns (by omega)
   ·simpa using key
   ·intro n b ns' h0 h1 hs hsm
    refine Ev.shift ?_
    simp only [wids] at hsm
    simp (disch := omega) only [impl_expNames_look.l11, if_neg, headDots, Bool.and_false, stOks, Bool.not_true, nmss, noDup, dotsN, Int.add_zero, Bool.false_or, List.append_nil]
    have e := endd (b || gt1 n) ns' hs (by omega)
    cases b with
    | true => simp only [if_true, Bool.true_or] at e ⊢; exact e
    | false => simp only [Bool.false_eq_true, if_false, Bool.false_or] at e ⊢; exact e
   ·intro i y r i0 i1 hx hm hlen _ _ ihr n b ns' h0 h1 hs hsm
    have hym := hparts y hm
    have hwy := wids_mem hym
    have hwr := (wids_len r).1
    have hwy1 := wid_pos y
    simp only [wids] at hsm
    obtain ⟨f1, f2⟩ := nms_facts lits y
    have hl := fun b => ih y hym (d + 1) (hkids y hym) b ns' hs (by omega) (by omega)
    have hs' : Sml (ns' ++ nms lits y) := hs.snoc (fun z hz => by have := (f2 z hz).2; omega) (by omega)
    have hln : ((ns' ++ nms lits y).length : Int) + wids r + (wid p - wids (partsOf p)) ≤ 1000000000 := by rw [List.length_append]; omega
    have ne : ¬ (i + 1 = 0) := by omega
    refine Ev.shift ?_
    simp (disch := omega) only [impl_expNames_look.l11, if_pos, hx, eTExpForm_eq, w64]
    refine Ev.bind (is_dots y) ?_
    have nx := fun n b h0 h1 => ihr n b (ns' ++ nms lits y) h0 h1 hs' hln
    simp only [decide_eq_false ne, Bool.false_and, Bool.false_or, List.append_assoc] at nx
    have cons : nms lits y ++ nmss lits r = nmss lits (y :: r) := rfl
    simp only [cons] at nx
    cases hdy : isDots y with
    | true =>
     have dn : dotsN (y :: r) = 1 + dotsN r := by simp only [dotsN, hdy, if_true]
     simp only [if_true, headDots, hdy, Bool.and_true]
     have e1 : gt1 (n + 1 + dotsN r) = gt1 (n + dotsN (y :: r)) := by rw [dn, Int.add_assoc]
     cases b with
     | true =>
      simp only [if_true]
      refine Ev.bind (hl true) ?_
      refine Ev.eq (nx (n + 1) _ (by omega) (by omega)) ?_
      simp only [Bool.true_or]
     | false =>
      simp only [Bool.false_eq_true, if_false, Bool.false_or]
      refine Ev.bind (hl _) ?_
      refine Ev.eq (nx (n + 1) _ (by omega) (by omega)) ?_
      rw [e1]
      congr 1
      simp only [stOks, nmss, noDup_append, Bool.not_and]
      cases decide (i = 0) <;> cases stOk y <;> cases noDup ns' (nms lits y) <;> simp
    | false =>
     have dn : dotsN (y :: r) = dotsN r := by simp [dotsN, hdy]
     simp only [Bool.false_eq_true, if_false, headDots, hdy, Bool.and_false, Bool.false_or]
     refine Ev.bind (hl b) ?_
     refine Ev.eq (nx n _ (by omega) (by omega)) ?_
     rw [dn]
     congr 1
     simp only [stOks, nmss, noDup_append, Bool.not_and]
     cases b <;> cases stOk y <;> cases noDup ns' (nms lits y) <;> simp
  have whole : lookEnd lits (if p.vSort = 4 then some (lastOf p) else none) (bad || (headDots (partsOf p) || (!stOks (partsOf p) || (!noDup ns (nmss lits (partsOf p)) || gt1 (dotsN (partsOf p)))))) (ns ++ nmss lits (partsOf p)) = (lits, bad || (!stOk p || !noDup ns (nms lits p)), ns ++ nms lits p) := by
   have n12 : ¬ (p.vSort = 1 ∨ p.vSort = 2) := fun h => h.elim n1 n2
   rw [stOk_mk, if_neg n12, nms_mk, if_neg n1]
   by_cases h4 : p.vSort = 4
   ·have h2k : 2 ≤ (p.vKids.length : Int) := by rcases h34 with h | h <;> omega
    have hk : p.vKids = partsOf p ++ [lastOf p] := by
     unfold partsOf lastOf
     rw [if_pos h4]
     exact (take_last (by omega)).symm
    have e1 : nmss lits p.vKids = nmss lits (partsOf p) ++ nms lits (lastOf p) := by
     conv => lhs; rw [hk]
     rw [nmss_append]; simp [nmss]
    have e2 : stOks p.vKids = (stOks (partsOf p) && stOk (lastOf p)) := by
     conv => lhs; rw [hk]
     rw [stOks_append]; simp [stOks]
    simp only [if_pos h4, lookEnd, decide_eq_true h4, e1, e2, noDup_append, Bool.not_true, Bool.false_or, List.append_assoc]
    congr 2
    cases bad <;> cases headDots (partsOf p) <;> cases gt1 (dotsN (partsOf p)) <;> cases isDots (lastOf p) <;> cases stOks (partsOf p) <;> cases stOk (lastOf p) <;> cases noDup ns (nmss lits (partsOf p)) <;> simp
   ·have hk : partsOf p = p.vKids := by unfold partsOf; rw [if_neg h4]
    simp only [if_neg h4, lookEnd, decide_eq_false h4, hk, Bool.not_false, Bool.true_or, Bool.true_and]
    congr 2
    cases bad <;> cases headDots p.vKids <;> cases gt1 (dotsN p.vKids) <;> cases stOks p.vKids <;> cases noDup ns (nmss lits p.vKids) <;> simp
  have go : Ev (fun k => impl_expNames_look.j8b k (impl_expNames_look.f k) (impl_expNames_look.l11 k) true lits bad p.vSort p.vText p.vScopes p.vFrom p.vKids ns) (lits, bad || (!stOk p || !noDup ns (nms lits p)), ns ++ nms lits p) := by
   simp only [impl_expNames_look.j8b, if_true, mTExpForm]
   refine Ev.bind (parts_impl p (by omega) h34) ?_
   rw [← whole]
   exact loop bad
  by_cases h3 : p.vSort = 3
  ·simp only [if_neg n1, if_pos h3]; exact go
  ·have h4 : p.vSort = 4 := by rcases h34 with h | h <;> omega
   simp only [if_neg n1, if_neg h3, decide_eq_true h4]; exact go
theorem parts_spec (x : TExpForm) (hw : wid x ≤ 1000000000) (h : x.vSort = 3 ∨ (x.vSort = 4 ∧ 2 ≤ (x.vKids.length : Int))) : Ev (fun k => spec_l3Parts.f k x) (partsOf x) := by
 have hp := wid_parts x
 simp only [spec_l3Parts.f, partsOf]
 rcases h with h | ⟨h, h2⟩
 ·have n4 : ¬ x.vSort = 4 := by omega
  simp only [if_neg n4]; exact Ev.now _
 ·simp (disch := omega) only [if_pos h, if_pos, w64, List.drop_zero]
  refine Ev.eq (Ev.now _) ?_
  rw [show ((x.vKids.length : Int) - 1).toNat = x.vKids.length - 1 by omega]
theorem repeat_spec (x : TExpForm) (hw : wid x ≤ 1000000000) (h : x.vSort = 3 ∨ (x.vSort = 4 ∧ 2 ≤ (x.vKids.length : Int))) : Evs (fun k => spec_l3Repeat.f k x) (fun r => (decide (r = -2)) = (headDots (partsOf x) || gt1 (dotsN (partsOf x)))) := by
 simp only [spec_l3Repeat.f, eTExpForm_eq]
 refine Evs.bind (Evs.of (parts_spec x hw h) (P := fun r => r = partsOf x) rfl) fun r hr => ?_
 subst hr
 have hwp : (( partsOf x).length : Int) ≤ 1000000000 := by
  have hp := wid_parts x
  unfold partsOf; split
  ·rw [List.length_take]; omega
  ·omega
 refine (goList (partsOf x) (P := fun i suf => ∀ (at_ n : Int), 0 ≤ n → -1 ≤ at_ → at_ ≤ i → (0 ≤ at_ ↔ 0 < n) → Evs (fun k => spec_l3Repeat.l4 k at_ (partsOf x) i) (fun r => (decide (r = -2)) = ((decide (i = 0) && headDots suf) || (gt1 (n + dotsN suf) && (decide (0 < dotsN suf)))))) ?_ ?_ (-1) 0 (by omega) (by omega) (by omega) (by omega)).mono ?_
 ·intro at_ n h0 h1 h2 h3
  refine Evs.shift ?_
  simp (disch := omega) only [spec_l3Repeat.l4, if_neg]
  refine Evs.now ?_
  rw [decide_eq_false (by omega)]
  simp [headDots, dotsN]
 ·intro i y r i0 i1 hx hm hlen _ _ ih at_ n h0 h1 h2 h3
  have hdr := dotsN_pos r
  refine Evs.shift ?_
  simp (disch := omega) only [spec_l3Repeat.l4, if_pos, hx, eTExpForm_eq, w64]
  refine Evs.bind (Evs.of (dots_spec y) (P := fun r => r = isDots y) rfl) fun b hb => ?_
  subst hb
  cases hdy : isDots y with
  | true =>
   simp only [if_true, headDots, hdy, Bool.and_true]
   have dn : dotsN (y :: r) = 1 + dotsN r := by simp only [dotsN, hdy, if_true]
   by_cases ha : 0 ≤ at_
   ·simp only [if_pos ha]
    refine Evs.now ?_
    rw [dn, decide_eq_true (rfl : (-2 : Int) = -2), show gt1 (n + (1 + dotsN r)) = true from decide_eq_true (by have := h3.1 ha; omega), decide_eq_true (show 0 < 1 + dotsN r by omega)]
    simp
   ·simp only [if_neg ha]
    by_cases hi : i = 0
    ·simp only [if_pos hi]
     refine Evs.now ?_
     simp [hi]
    ·simp only [if_neg hi]
     refine (ih (i - 1) (n + 1) (by omega) (by omega) (by omega) (by omega)).mono fun s hs => ?_
     have hn : n = 0 := by omega
     subst hn
     rw [hs, dn, decide_eq_false hi, decide_eq_false (show ¬ i + 1 = 0 by omega)]
     simp only [Bool.false_and, Bool.false_or]
     unfold gt1
     rw [Bool.eq_iff_iff]
     simp
     omega
  | false =>
   have dn : dotsN (y :: r) = dotsN r := by simp [dotsN, hdy]
   simp only [Bool.false_eq_true, if_false, headDots, hdy, Bool.and_false, Bool.false_or, dn]
   refine (ih at_ n h0 h1 (by omega) h3).mono fun s hs => ?_
   rw [hs, decide_eq_false (show ¬ i + 1 = 0 by omega)]
   simp
 ·intro r hr
  rw [hr]
  have := dotsN_pos (partsOf x)
  simp only [decide_true, Bool.true_and, Int.zero_add]
  congr 1
  unfold gt1
  rw [Bool.eq_iff_iff]
  simp only [Bool.and_eq_true, decide_eq_true_eq]
  omega
theorem isDots_not {x : TExpForm} (h : ¬ x.vSort = 1) : isDots x = false := by unfold isDots; rw [decide_eq_false h]; rfl
theorem patOk_spec : ∀ (p : TExpForm) (d : Int), okf p d = true → wid p ≤ 1000000000 → Ev (fun k => spec_l3PatternOk.f k p) (!isDots p && stOk p) := by
 refine indForm fun p ih d hok hw => ?_
 have hp := wid_parts p
 refine Ev.shift ?_
 simp only [spec_l3PatternOk.f, eTExpForm_eq]
 rcases okf_shape hok with ⟨h1, hk⟩ | ⟨h2, hk⟩ | ⟨h34, hks⟩
 ·rw [stOk_mk, if_pos (Or.inl h1)]
  simp only [if_pos h1]
  refine Ev.bind (dots_spec p) ?_
  cases isDots p <;> exact Ev.now _
 ·rw [stOk_mk, if_pos (Or.inr h2), isDots_not (by omega)]
  have n1 : ¬ p.vSort = 1 := by omega
  simp only [if_neg n1, if_pos h2]; exact Ev.now _
 ·have n1 : ¬ p.vSort = 1 := by rcases h34 with h | h <;> omega
  have n2 : ¬ p.vSort = 2 := by rcases h34 with h | h <;> omega
  have hkids := okfs_mem' hks
  rw [stOk_mk, if_neg (by omega), isDots_not n1]
  simp only [if_neg n1, if_neg n2, Bool.not_false, Bool.true_and]
  obtain ⟨r, hr, e⟩ := repeat_spec p hw h34
  refine Ev.bind e ?_
  have kids : Ev (fun k => spec_l3PatternOk.j7b k (spec_l3PatternOk.f k) (spec_l3PatternOk.l8 k) p.vKids) (stOks p.vKids) := by
   simp only [spec_l3PatternOk.j7b]
   refine goList p.vKids (P := fun i suf => Ev (fun k => spec_l3PatternOk.l8 k i p.vKids) (stOks suf)) ?_ ?_
   ·refine Ev.shift ?_
    simp (disch := omega) only [spec_l3PatternOk.l8, if_neg, stOks]; exact Ev.now _
   ·intro i y r i0 i1 hx hm _ _ _ ihr
    have hy := wids_mem hm
    refine Ev.shift ?_
    simp (disch := omega) only [spec_l3PatternOk.l8, if_pos, hx, eTExpForm_eq, w64, stOks]
    refine Ev.bind (dots_spec y) ?_
    cases hdy : isDots y with
    | true =>
     have : stOk y = true := by
      rw [stOk_mk, if_pos (Or.inl ?_)]
      unfold isDots at hdy
      simp only [Bool.and_eq_true, decide_eq_true_eq] at hdy
      exact hdy.1
     simp only [not_true_eq_false, if_false, this, Bool.true_and]; exact ihr
    | false =>
     simp only [Bool.false_eq_true, not_false_eq_true, if_true]
     refine Ev.bind (ih y hm (d + 1) (hkids y hm) (by omega)) ?_
     rw [hdy]
     cases stOk y with
     | true => simp only [Bool.not_false, Bool.and_self, not_true_eq_false, if_false, Bool.true_and]; exact ihr
     | false => simp only [Bool.and_false, Bool.false_eq_true, not_false_eq_true, if_true, Bool.false_and]; exact Ev.now _
  by_cases hm2 : r = -2
  ·have : (headDots (partsOf p) || gt1 (dotsN (partsOf p))) = true := by rw [← hr]; exact decide_eq_true hm2
   simp only [if_pos hm2]
   refine Ev.eq (Ev.now _) ?_
   rw [← Bool.not_or, this]; rfl
  ·have : (headDots (partsOf p) || gt1 (dotsN (partsOf p))) = false := by rw [← hr]; exact decide_eq_false hm2
   simp only [if_neg hm2]
   rw [← Bool.not_or, this]
   simp only [Bool.not_false, Bool.true_and]
   by_cases h4 : p.vSort = 4
   ·have h2k : 2 ≤ (p.vKids.length : Int) := by rcases h34 with h | h <;> omega
    simp (disch := omega) only [if_pos h4, if_pos, w64, decide_eq_true h4, Bool.not_true, Bool.false_or]
    refine Ev.bind (dots_spec _) ?_
    show Ev _ (!isDots (lastOf p) && stOks p.vKids)
    show Ev (fun k => if isDots (lastOf p) = true then some false else spec_l3PatternOk.j7b k (spec_l3PatternOk.f k) (spec_l3PatternOk.l8 k) p.vKids) _
    cases isDots (lastOf p) with
    | true => simp only [if_true, Bool.not_true, Bool.false_and]; exact Ev.now _
    | false => simp only [Bool.false_eq_true, if_false, Bool.not_false, Bool.true_and]; exact kids
   ·simp only [if_neg h4, decide_eq_false h4, Bool.not_false, Bool.true_or, Bool.true_and]; exact kids
theorem names_spec (lits : List TExpForm) (hlit : Sml lits) (hl1 : ∀ x ∈ lits, x.vSort = 1) : ∀ (p : TExpForm), wid p ≤ 1000000000 → Ev (fun k => spec_l3Names.f k p lits) (nms lits p) := by
 refine indForm fun p ih hw => ?_
 have hp := wid_parts p
 refine Ev.shift ?_
 rw [nms_mk]
 simp only [spec_l3Names.f, eTExpForm_eq]
 by_cases h1 : p.vSort = 1
 ·simp only [if_pos h1]
  refine Ev.bind (dots_spec p) ?_
  cases isDots p with
  | true => simp only [not_true_eq_false, if_false, Bool.true_or, if_true]; exact Ev.now _
  | false =>
   simp only [Bool.false_eq_true, not_false_eq_true, if_true, Bool.false_or]
   refine Ev.bind (blank_spec p) ?_
   cases isBlank p with
   | true => simp only [not_true_eq_false, if_false, Bool.true_or, if_true]; exact Ev.now _
   | false =>
    simp only [Bool.false_eq_true, not_false_eq_true, if_true, Bool.false_or]
    refine Ev.bind (among_spec lits p hlit hl1 h1) ?_
    cases inB lits p with
    | true => simp only [not_true_eq_false, if_false, if_true]; exact Ev.now _
    | false =>
     simp (disch := first | omega | (simp; omega)) only [Bool.false_eq_true, not_false_eq_true, if_true, if_false, if_pos, List.nil_append]
     exact Ev.now _
 ·simp only [if_neg h1]
  refine goList p.vKids (P := fun i suf => ∀ out : List TExpForm, (out.length : Int) + wids suf ≤ 1000000000 → Ev (fun k => spec_l3Names.l7 k lits i p.vKids out) (out ++ nmss lits suf)) ?_ ?_ [] (by simp; omega)
  ·intro out ho
   refine Ev.shift ?_
   simp (disch := omega) only [spec_l3Names.l7, if_neg, nmss, List.append_nil]; exact Ev.now _
  ·intro i y r i0 i1 hx hm _ _ _ ihr out ho
   have hy := wids_mem hm
   obtain ⟨f1, _⟩ := nms_facts lits y
   have := (wids_len r).1
   simp only [wids] at ho
   refine Ev.shift ?_
   simp (disch := omega) only [spec_l3Names.l7, if_pos, hx, eTExpForm_eq, w64, nmss]
   refine Ev.bind (ih y hm (by omega)) ?_
   simp (disch := omega) only [if_pos]
   exact Ev.eq (ihr (out ++ nms lits y) (by rw [List.length_append]; omega)) (by simp)
def patB (p : TExpForm) (lits : List TExpForm) : Bool := okb p && (lits.all litOk && (!isDots p && (stOk p && noDup [] (nms lits p))))
theorem PatternOk_impl (p : TExpForm) (lits : List TExpForm) (hw : wid p ≤ 100000000) (hl : Sml lits) : Ev (fun k => impl_ExpPatternOk.f k p lits) (patB p lits) := by
 simp only [impl_ExpPatternOk.f, eTExpForm_eq, impl_ExpPatternOk.j3, mTExpForm, patB]
 refine Ev.bind (formOk_impl p (by omega)) ?_
 cases hok : okb p with
 | false => simp only [Bool.false_eq_true, not_false_eq_true, if_true, Bool.false_and]; exact Ev.now _
 | true =>
  simp only [not_true_eq_false, if_false, Bool.true_and]
  refine Ev.bind (lits_impl lits hl) ?_
  cases lits.all litOk with
  | false => simp only [Bool.false_eq_true, not_false_eq_true, if_true, Bool.false_and]; exact Ev.now _
  | true =>
   simp only [not_true_eq_false, if_false, Bool.true_and]
   refine Ev.bind (is_dots p) ?_
   cases isDots p with
   | true => simp only [if_true, Bool.not_true, Bool.false_and]; exact Ev.now _
   | false =>
    simp only [Bool.false_eq_true, if_false, Bool.not_false, Bool.true_and]
    have hokf : okf p 0 = true := by unfold okb at hok; rw [Bool.and_eq_true] at hok; exact hok.1
    refine Ev.bind (look_impl lits hl p 0 hokf false [] ⟨by simp, fun x hx => by cases hx⟩ hw (by simp; omega)) ?_
    refine Ev.eq (Ev.now _) ?_
    cases stOk p <;> cases noDup [] (nms lits p) <;> simp
theorem noDup_loop (l : List TExpForm) (hs : Sml l) (h1 : ∀ x ∈ l, x.vSort = 1) : Ev (fun k => spec_ExpPatternOk.l5 k l 0) (noDup [] l) := by
 have hl := hs.1
 refine Ev.eq (goList l (P := fun i suf => 0 ≤ i → Ev (fun k => spec_ExpPatternOk.l5 k l i) (noDup (l.take i.toNat) suf)) ?_ ?_ (by omega)) (by simp)
 ·intro _
  refine Ev.shift ?_
  simp (disch := omega) only [spec_ExpPatternOk.l5, if_neg, noDup]; exact Ev.now _
 ·intro i y r i0 i1 hx hm _ _ htk ih _
  refine Ev.shift ?_
  simp (disch := omega) only [spec_ExpPatternOk.l5, if_pos, hx, eTExpForm_eq, w64, List.drop_zero, noDup]
  refine Ev.bind (among_spec (l.take i.toNat) y ⟨by rw [List.length_take]; omega, fun x hx => hs.2 x (List.mem_of_mem_take hx)⟩ (fun x hx => h1 x (List.mem_of_mem_take hx)) (h1 y hm)) ?_
  have e : (i + 1).toNat = i.toNat + 1 := by omega
  have ih := ih (by omega)
  rw [e, htk] at ih
  cases inB (l.take i.toNat) y with
  | true => simp only [if_true, Bool.not_true, Bool.false_and]; exact Ev.now _
  | false => simp only [Bool.false_eq_true, if_false, Bool.not_false, Bool.true_and]; exact ih
theorem PatternOk_spec (p : TExpForm) (lits : List TExpForm) (hw : wid p ≤ 100000000) (hl : Sml lits) : Ev (fun k => spec_ExpPatternOk.f k p lits) (patB p lits) := by
 simp only [spec_ExpPatternOk.f, eTExpForm_eq, spec_ExpPatternOk.j3, mTExpForm, patB]
 refine Ev.bind (formOk_spec p (by omega)) ?_
 cases hok : okb p with
 | false => simp only [Bool.false_eq_true, not_false_eq_true, if_true, Bool.false_and]; exact Ev.now _
 | true =>
  simp only [not_true_eq_false, if_false, Bool.true_and]
  refine Ev.bind (lits_spec lits hl) ?_
  cases hlo : lits.all litOk with
  | false => simp only [Bool.false_eq_true, not_false_eq_true, if_true, Bool.false_and]; exact Ev.now _
  | true =>
   have hl1 : ∀ x ∈ lits, x.vSort = 1 := by
    intro x hx
    have := List.all_eq_true.1 hlo x hx
    unfold litOk at this
    simp only [Bool.and_eq_true, decide_eq_true_eq] at this
    exact this.1
   have hokf : okf p 0 = true := by unfold okb at hok; rw [Bool.and_eq_true] at hok; exact hok.1
   simp only [not_true_eq_false, if_false, Bool.true_and]
   refine Ev.bind (patOk_spec p 0 hokf (by omega)) ?_
   rw [← Bool.and_assoc]
   cases (!isDots p && stOk p) with
   | false => simp only [Bool.false_eq_true, not_false_eq_true, if_true, Bool.false_and]; exact Ev.now _
   | true =>
    simp only [not_true_eq_false, if_false, Bool.true_and]
    obtain ⟨f1, f2⟩ := nms_facts lits p
    exact Ev.bind (names_spec lits hl hl1 p (by omega)) (noDup_loop _ ⟨by omega, fun x hx => by have := (f2 x hx).2; omega⟩ fun x hx => (f2 x hx).1)
end Go.Proofs.YtmcbhnbemhfifaaDoor.RX
end
