/- What the program calls of Go's library, as the printed walks want it: strings.Trim at a set of letters below 128 and strings.IndexByte. Condition (in strings_Trim.f itself): the set's letters are below 128, both texts shorter than 2^32 - 15 and 2^63. -/
import Derived.Shelf.Strings.SlTrimAscii
import Derived.Test.YtmdhanegafclmaaDoorShelf
import Derived.Test.YtmdhanegafclmaaDoorWWords
import Derived.Test.YtmdhanegafclmaaDoorWLast
namespace Go.Proofs.YtmdhanegafclmaaDoorW.PrintWords
open Go.RowKit
/-- strings.Trim at letters below 128. -/
def strings_Trim.f (s c : ByteArray) : Option ByteArray :=
  if c.data.toList.all (fun b => decide (b.toNat < 128)) = true then (if s.size ≤ 9223372036854775807 then (if c.size < 4294967281 then some ⟨(Lib.trimS s.data.toList c.data.toList).toArray⟩ else none) else none) else none
theorem strings_Trim.calls (a0 a1 r : ByteArray) (w : World) (h : strings_Trim.f a0 a1 = some r) :
    Calls Tryd.prog 78 #[.string a0, .string a1] w fun e w' => e = .returned (.string r) ∧ Below w.heap.size w w' := by
  unfold strings_Trim.f at h
  by_cases h1 : a1.data.toList.all (fun b => decide (b.toNat < 128)) = true
  · rw [if_pos h1] at h
    by_cases h2 : a0.size ≤ 9223372036854775807
    · rw [if_pos h2] at h
      by_cases h3 : a1.size < 4294967281
      · rw [if_pos h3] at h
        injection h with h
        subst h
        exact Any.strings_Trim_laid Tryd.lays160 (by kernel_rfl) a0 a1 w h2 h3 (ascii_of_all h1)
      · rw [if_neg h3] at h; cases h
    · rw [if_neg h2] at h; cases h
  · rw [if_neg h1] at h; cases h
/-- strings.IndexByte. -/
def strings_IndexByte.f (s : ByteArray) (c : Int) : Option Int := some (Lib.indexByte s.data.toList c.toNat.toUInt8)
theorem strings_IndexByte.calls (a0 : ByteArray) (a1 r : Int) (w : World) (h : strings_IndexByte.f a0 a1 = some r) :
    Calls Tryd.prog 76 #[.string a0, .int .u8 a1] w fun e w' => e = .returned (.int .i64 r) ∧ Drawn0 w w' := by
  unfold strings_IndexByte.f at h
  injection h with h
  subst h
  exact (Tryd.strings_IndexByte a0 a1 w).mono fun e w' ⟨he, hw⟩ => ⟨he, by subst hw; exact ⟨0, rfl⟩⟩
end Go.Proofs.YtmdhanegafclmaaDoorW.PrintWords
