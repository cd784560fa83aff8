/- What the program calls of Go's library, as the printed walks want it: strings.Join and a strings.Builder of the call's own (WriteString, String). Conditions, in the functions themselves: strings.Join of no more than 2^47 texts, the answer no longer than 2^47; a builder holds no more than 2^47 bytes. -/
import Derived.Test.YtmdhanegafclmaaShelf
import Derived.Test.YtmdhanegafclmaaWWords
import Derived.Test.YtmdhanegafclmaaWLast
namespace Go.Proofs.YtmdhanegafclmaaW.PrintWords
open Go.RowKit
/-- strings.Join. -/
def strings_Join.f (l : List ByteArray) (s : ByteArray) : Option ByteArray :=
  if l.length ≤ 140737488355328 then (if (Lib.join (l.map (·.data.toList)) s.data.toList).length ≤ 140737488355328 then some ⟨(Lib.join (l.map (·.data.toList)) s.data.toList).toArray⟩ else none) else none
theorem cell_spot {w : World} {a : Addr} {v : Value} (h : w.cell? a = some v) : a.spot = none ∧ a.block < w.heap.size := by
  unfold World.cell? at h
  split at h
  · rename_i c t f he
    refine ⟨?_, (Array.getElem?_eq_some_iff.mp he).1⟩
    cases hs : a.spot with
    | none => rfl
    | some _ => rw [hs] at h; simp at h
  · cases h
theorem strings_Join.calls (A0 : Option Addr) (c0 : Nat) (l0 : List ByteArray) (a1 r : ByteArray) (w : World) (hr0 : Kd.C Kd.string w A0 l0.length l0) (hc0 : l0.length ≤ c0) (h : strings_Join.f l0 a1 = some r) :
    Calls Try.prog 57 #[.slice A0 l0.length c0, .string a1] w fun e w' => e = .returned (.string r) ∧ Below w.heap.size w w' := by
  unfold strings_Join.f at h
  by_cases h1 : l0.length ≤ 140737488355328
  · rw [if_pos h1] at h
    by_cases h2 : (Lib.join (l0.map (·.data.toList)) a1.data.toList).length ≤ 140737488355328
    · rw [if_pos h2] at h
      injection h with h
      subst h
      match l0, hr0, hc0, h1, h2 with
      | [], _, _, _, _ => exact (Try.strings_Join_none A0 c0 a1 w).mono fun e w' ⟨he, hw⟩ => ⟨he, hw ▸ Below.refl _ _⟩
      | x :: l, hr, hc, h1, h2 =>
        obtain ⟨ad, hA, hcell⟩ := hr.2.2 (by simp)
        subst hA
        have hget : ∀ (j : Nat) y, (x :: l)[j]? = some y → w.cell? (ad.add j) = some (.string y) := by
          intro j y hy
          obtain ⟨c, hl, hK, hce⟩ := hcell j y hy
          have hcs : c = [.string y] := hK
          subst hcs
          have := hce 0 _ rfl
          simpa [Kd.string, Kd.scalar] using this
        have h0 := hget 0 x rfl
        have hsp := cell_spot h0
        obtain ⟨bk, o, sp⟩ := ad
        have hs : sp = none := hsp.1
        subst hs
        refine Try.strings_Join bk o c0 (x :: l) a1 w (fun j y hy => ?_) hsp.2 h1 hc h2
        have := hget j y hy
        unfold Addr.add at this
        split at this
        · rename_i hj
          subst hj
          exact this
        · exact this
    · rw [if_neg h2] at h; cases h
  · rw [if_neg h1] at h; cases h
/-- A builder in block g, all of whose blocks lie from g on, holding the text x. -/
def BuilderIs (g : Nat) (x : ByteArray) (w : World) : Prop := Lib.IsBuilder 89 5 g g (Lib.byteCells x.data.toList) w
theorem BuilderIs.fresh {g : Nat} {w : World} (h : w.heap[g]? = some (.cells #[.pointer none, .slice none 0 0] 89 (0, 0))) : BuilderIs g (⟨#[]⟩ : ByteArray) w :=
  .inl ⟨Nat.le_refl _, _, h, own_nil _ _ _ _, by simp [Value.ownBlock]⟩
theorem BuilderIs.below {g : Nat} {x : ByteArray} {w w' : World} (h : BuilderIs g x w) (hb : Below w.heap.size w w') : BuilderIs g x w' := by
  have key : ∀ p, Lib.BuilderAt 89 5 g g p (Lib.byteCells x.data.toList) w → Lib.BuilderAt 89 5 g g p (Lib.byteCells x.data.toList) w' := by
    rintro p ⟨h1, v, h2, h3, h4⟩
    exact ⟨h1, v, blk_below h2 hb, pw_own_below h3 hb, h4⟩
  exact h.imp (key _) (key _)
theorem BuilderIs.le {g : Nat} {x : ByteArray} {w : World} (h : BuilderIs g x w) : g ≤ w.heap.size := by
  rcases h with h | h
  · exact Nat.le_of_lt h.lt
  · exact Nat.le_of_lt h.lt
theorem blk_under {w w1 : World} {g b : Nat} {o : Obj} (hlt : g < b) (h : w.heap[g]? = some o) (hb : Below b w w1) : w1.heap[g]? = some o := (hb.block g hlt).trans h
theorem below_under {w W w2 : World} {b : Nat} (h : Below w.heap.size w W) (k : Below b W w2) (hg : w.heap.size ≤ b) : Below w.heap.size w w2 := h.trans (k.mono hg)
def builder_Write.f (a b : ByteArray) : Option ByteArray := if a.size + b.size ≤ 140737488355328 then some (a ++ b) else none
theorem builder_Write.calls (g : Nat) (a b r : ByteArray) (w : World) (hB : BuilderIs g a w) (h : builder_Write.f a b = some r) :
    Calls Try.prog 58 #[.pointer (some ⟨g, 0, none⟩), .string b] w fun e w' => e = .returned (.tuple #[.int .i64 b.size, .nilIface]) ∧ BuilderIs g r w' ∧ Below g w w' := by
  unfold builder_Write.f at h
  by_cases h1 : a.size + b.size ≤ 140737488355328
  · rw [if_pos h1] at h
    injection h with h
    subst h
    refine (Any.Builder_WriteString { Try.lays156 with } Try.Builder_Extra_156 g g (Lib.byteCells a.data.toList) b w hB (by rw [Lib.byteCells_length, data_length]; exact h1) hB.le).mono ?_
    rintro e w' ⟨he, h1, h2⟩
    refine ⟨he, .inr ?_, h2⟩
    have e1 : Lib.byteCells (a ++ b).data.toList = Lib.byteCells a.data.toList ++ Lib.strCells b := by
      rw [ByteArray.data_append, Array.toList_append]
      simp [Lib.byteCells, Lib.strCells]
    rw [e1]
    exact h1
  · rw [if_neg h1] at h; cases h
def builder_String.f (a : ByteArray) : Option ByteArray := some a
theorem builder_String.calls (g : Nat) (a r : ByteArray) (w : World) (hB : BuilderIs g a w) (h : builder_String.f a = some r) :
    Calls Try.prog 59 #[.pointer (some ⟨g, 0, none⟩)] w fun e w' => e = .returned (.string r) ∧ Below g w w' := by
  unfold builder_String.f at h
  injection h with h
  subst h
  exact Any.Builder_String_any { Try.lays156 with } Try.Builder_Extra_156 g g a.data.toList w hB hB.le
end Go.Proofs.YtmdhanegafclmaaW.PrintWords
