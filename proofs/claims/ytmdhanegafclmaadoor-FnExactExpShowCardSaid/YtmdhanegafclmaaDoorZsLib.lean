/- Lib of the seat's texts, cut down by prune.py to what the theorem comes to. -/
import Derived.Shelf.Strings.SlTrimAscii
import Derived.Test.YtmdhanegafclmaaDoorZsShelf
import Derived.Test.YtmdhanegafclmaaDoorZsWWords
import Derived.Test.YtmdhanegafclmaaDoorZsWLast
namespace Go.Proofs.YtmdhanegafclmaaDoorW.PrintWords
open Go.RowKit
def strings_Trim.f (s c : ByteArray) : Option ByteArray :=
 if c.data.toList.all (fun b => decide (b.toNat < 128)) = true then (if s.size ≤ 9223372036854775807 then (if c.size < 4294967281 then some ⟨(Lib.trimS s.data.toList c.data.toList).toArray⟩ else none) else none) else none
theorem strings_Trim.calls (a0 a1 r : ByteArray) (w : World) (h : strings_Trim.f a0 a1 = some r) :
  Calls Tryd.prog 78 #[.string a0, .string a1] w fun e w' => e = .returned (.string r) ∧ Below w.heap.size w w' := by
 unfold strings_Trim.f at h
 by_cases h1 : a1.data.toList.all (fun b => decide (b.toNat < 128)) = true
 ·rw [if_pos h1] at h
  by_cases h2 : a0.size ≤ 9223372036854775807
  ·rw [if_pos h2] at h
   by_cases h3 : a1.size < 4294967281
   ·rw [if_pos h3] at h
    injection h with h
    subst h
    exact Any.strings_Trim_laid Tryd.lays160 (by kernel_rfl) a0 a1 w h2 h3 (ascii_of_all h1)
   ·rw [if_neg h3] at h; cases h
  ·rw [if_neg h2] at h; cases h
 ·rw [if_neg h1] at h; cases h
def strings_IndexByte.f (s : ByteArray) (c : Int) : Option Int := some (Lib.indexByte s.data.toList c.toNat.toUInt8)
theorem strings_IndexByte.calls (a0 : ByteArray) (a1 r : Int) (w : World) (h : strings_IndexByte.f a0 a1 = some r) :
  Calls Tryd.prog 76 #[.string a0, .int .u8 a1] w fun e w' => e = .returned (.int .i64 r) ∧ Drawn0 w w' := by
 unfold strings_IndexByte.f at h
 injection h with h
 subst h
 exact (Tryd.strings_IndexByte a0 a1 w).mono fun e w' ⟨he, hw⟩ => ⟨he, by subst hw; exact ⟨0, rfl⟩⟩
def strings_Join.f (l : List ByteArray) (s : ByteArray) : Option ByteArray :=
 if l.length ≤ 140737488355328 then (if (Lib.join (l.map (·.data.toList)) s.data.toList).length ≤ 140737488355328 then some ⟨(Lib.join (l.map (·.data.toList)) s.data.toList).toArray⟩ else none) else none
theorem cell_spot {w : World} {a : Addr} {v : Value} (h : w.cell? a = some v) : a.spot = none ∧ a.block < w.heap.size := by
 unfold World.cell? at h
 split at h
 ·rename_i c t f he
  refine ⟨?_, (Array.getElem?_eq_some_iff.mp he).1⟩
  cases hs : a.spot with
  | none => rfl
  | some _ => rw [hs] at h; simp at h
 ·cases h
theorem strings_Join.calls (A0 : Option Addr) (c0 : Nat) (l0 : List ByteArray) (a1 r : ByteArray) (w : World) (hr0 : Kd.C Kd.string w A0 l0.length l0) (hc0 : l0.length ≤ c0) (h : strings_Join.f l0 a1 = some r) :
  Calls Tryd.prog 59 #[.slice A0 l0.length c0, .string a1] w fun e w' => e = .returned (.string r) ∧ Below w.heap.size w w' := by
 unfold strings_Join.f at h
 by_cases h1 : l0.length ≤ 140737488355328
 ·rw [if_pos h1] at h
  by_cases h2 : (Lib.join (l0.map (·.data.toList)) a1.data.toList).length ≤ 140737488355328
  ·rw [if_pos h2] at h
   injection h with h
   subst h
   match l0, hr0, hc0, h1, h2 with
   | [], _, _, _, _ => exact (Tryd.strings_Join_none A0 c0 a1 w).mono fun e w' ⟨he, hw⟩ => ⟨he, hw ▸ Below.refl _ _⟩
   | x :: l, hr, hc, h1, h2 =>
    obtain ⟨ad, hA, hcell⟩ := hr.2.2 (by simp)
    subst hA
    have hget : ∀ (j : Nat) y, (x :: l)[j]? = some y → w.cell? (ad.add j) = some (.string y) := by
     intro j y hy
     obtain ⟨c, hl, hK, hce⟩ := hcell j y hy
     have hcs : c = [.string y] := hK
     subst hcs
     have := hce 0 _ rfl
     simpa [Kd.string, Kd.scalar] using this
    have h0 := hget 0 x rfl
    have hsp := cell_spot h0
    obtain ⟨bk, o, sp⟩ := ad
    have hs : sp = none := hsp.1
    subst hs
    refine Tryd.strings_Join bk o c0 (x :: l) a1 w (fun j y hy => ?_) hsp.2 h1 hc h2
    have := hget j y hy
    unfold Addr.add at this
    split at this
    ·rename_i hj
     subst hj
     exact this
    ·exact this
  ·rw [if_neg h2] at h; cases h
 ·rw [if_neg h1] at h; cases h
end Go.Proofs.YtmdhanegafclmaaDoorW.PrintWords
