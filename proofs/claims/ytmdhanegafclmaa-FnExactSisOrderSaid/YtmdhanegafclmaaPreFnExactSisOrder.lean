-- Laid by a program of this session (wip/tools/mkprint2.py, which turns a copy of the print); not the kit print itself.
import Derived.Test.YtmdhanegafclmaaPFnExactSisOrderx7
import Derived.Test.YtmdhanegafclmaaRead
import Derived.KernelRfl
namespace Go.Proofs.Ytmdhanegafclmaa.PFnExactSisOrder
open Go.RowKit Go.Proofs.YtmdhanegafclmaaW.PrintWords Go.Proofs.YtmdhanegafclmaaW.PrintLast Go.Proofs.YtmdhanegafclmaaW.Read
set_option linter.unusedVariables false
/-- What the reading tells of such a value: numbers of their kind, texts and slices no longer than they can be. -/
inductive W95 : S95 → Prop where
  | mk (x : S95) : x.f0.size ≤ 9223372036854775807 → (x.f1.length ≤ 9223372036854775807 ∧ ∀ a_ ∈ x.f1, a_.size ≤ 9223372036854775807) → x.f2.size ≤ 9223372036854775807 → W95 x
theorem W95.out {x : S95} (h : W95 x) : x.f0.size ≤ 9223372036854775807 ∧ (x.f1.length ≤ 9223372036854775807 ∧ ∀ a_ ∈ x.f1, a_.size ≤ 9223372036854775807) ∧ x.f2.size ≤ 9223372036854775807 := by
  cases h with
  | mk h0 h1 h2 => exact ⟨h0, h1, h2⟩
theorem rdw95 {H : Type} (enc : TypeId × Value → H) (W : World) : ∀ n, RdAt enc Try.prog W k95 W95 95 n := by
  intro n
  induction n using Nat.strongRecOn with
  | _ n ih =>
  intro cs x h
  obtain ⟨xs, m, rfl, _, hl, hxl, hf⟩ := DataW.trod_struct Try.underlying95 h
  rw [show Try.prog.cellsOf 95 = 3 from by kernel_rfl] at hl
  obtain ⟨c0, cs0, rfl, hl0⟩ := list_cons hl
  obtain ⟨c1, cs1, rfl, hl1⟩ := list_cons hl0
  obtain ⟨c2, cs2, rfl, hl2⟩ := list_cons hl1
  obtain rfl := list_nil hl2
  obtain ⟨y0, g0⟩ := field_at hxl hf 0 _ rfl (c := [c0]) (show (([c0, c1, c2] : List Value).drop 0).take (Try.prog.cellsOf 9) = [c0] from by rw [show Try.prog.cellsOf 9 = 1 from by kernel_rfl]; rfl)
  obtain ⟨a0, e0, b0⟩ := (rd_string Try.underlying9 _) _ _ g0
  injection e0 with e0 _
  subst e0
  obtain ⟨y1, g1⟩ := field_at hxl hf 1 _ rfl (c := [c1]) (show (([.string a0, c1, c2] : List Value).drop 1).take (Try.prog.cellsOf 45) = [c1] from by rw [show Try.prog.cellsOf 45 = 1 from by kernel_rfl]; rfl)
  obtain ⟨a1, e1, b1⟩ := (rd_slice (d := Kd.string) (B := (fun s => s.size ≤ 9223372036854775807)) Try.underlying45 (show Try.prog.cellsOf 9 = 1 from by kernel_rfl) _ (fun m_ _ => (rd_string Try.underlying9 m_))) _ _ g1
  obtain ⟨A1, cc1, h1, l1, r1⟩ := e1
  injection h1 with h1 _
  subst h1
  obtain ⟨y2, g2⟩ := field_at hxl hf 2 _ rfl (c := [c2]) (show (([.string a0, .slice A1 a1.length cc1, c2] : List Value).drop 2).take (Try.prog.cellsOf 9) = [c2] from by rw [show Try.prog.cellsOf 9 = 1 from by kernel_rfl]; rfl)
  obtain ⟨a2, e2, b2⟩ := (rd_string Try.underlying9 _) _ _ g2
  injection e2 with e2 _
  subst e2
  exact ⟨⟨a0, a1, a2⟩, k95_mk W ⟨a0, a1, a2⟩ l1 r1, .mk _ b0 b1 b2⟩
/-- THE ONE PURE STATEMENT of laws_FnExactSisOrder. -/
def laws_FnExactSisOrder.Pure : Prop := ∀ (x0 : List (S95)), (x0.length ≤ 9223372036854775807 ∧ ∀ a_ ∈ x0, W95 a_) → ∃ k, laws_FnExactSisOrder.f k x0 = some true
end Go.Proofs.Ytmdhanegafclmaa.PFnExactSisOrder
