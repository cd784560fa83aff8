/- strconv.Itoa at every int, as the printed walks want it. Condition: the table of powers of ten stands as its initialiser lays it (PowTab). -/
import Derived.Shelf.Strconv.Itoa3
import Derived.Lib.AppendIntMem

import Derived.Test.YtmdhanegafclmaaDoorShelf
import Derived.Test.YtmdhanegafclmaaDoorWWords
import Derived.Test.YtmdhanegafclmaaDoorWLast
namespace Go.Proofs.YtmdhanegafclmaaDoorW.PrintWords
open Go.RowKit
/-- The table of powers of ten, as laid. -/
def PowTab (w : World) : Prop := Lib.TabIs Tryd.prog w "internal/strconv.uint64pow10" .u64 Lib.pow10Tab
theorem PowTab.below {w w' : World} (h : PowTab w) (hb : Below w.heap.size w w') : PowTab w' := by
  unfold PowTab Lib.TabIs World.var? at h ⊢
  generalize Tryd.prog.globalNamed "internal/strconv.uint64pow10" = G at h ⊢
  cases G with
  | none => simp at h
  | some g =>
    simp only [Option.bind_some] at h ⊢
    have hlt : g < w.heap.size := by
      rcases Nat.lt_or_ge g w.heap.size with h' | h'
      · exact h'
      · rw [Array.getElem?_eq_none h'] at h; cases h
    rw [hb.block g hlt]
    exact h
/-- strconv.Itoa. -/
def strconv_Itoa.f (n : Int) : Option ByteArray := if -9223372036854775808 ≤ n then (if n ≤ 9223372036854775807 then some ⟨(Lib.itoa n).toArray⟩ else none) else none
theorem strconv_Itoa.calls (a0 : Int) (r : ByteArray) (w : World) (ht : PowTab w) (h : strconv_Itoa.f a0 = some r) :
    Calls Tryd.prog 29 #[.int .i64 a0] w fun e w' => e = .returned (.string r) ∧ Below w.heap.size w w' := by
  unfold strconv_Itoa.f at h
  by_cases h1 : -9223372036854775808 ≤ a0
  · rw [if_pos h1] at h
    by_cases h2 : a0 ≤ 9223372036854775807
    · rw [if_pos h2] at h
      injection h with h
      subst h
      refine (Tryd.strconv_Itoa a0 h1 h2 w ht).mono ?_
      rintro e w' ⟨he, k, os, rfl⟩
      exact ⟨he, Lib.below_grow _ _ (Nat.le_refl _) k os⟩
    · rw [if_neg h2] at h; cases h
  · rw [if_neg h1] at h; cases h
end Go.Proofs.YtmdhanegafclmaaDoorW.PrintWords
