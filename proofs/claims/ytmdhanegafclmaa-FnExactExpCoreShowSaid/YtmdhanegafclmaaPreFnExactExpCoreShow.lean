-- Laid by a program of this session (wip/tools/mkprint2.py, which turns a copy of the print); not the kit print itself.
import Derived.Test.YtmdhanegafclmaaPFnExactExpCoreShowx6
import Derived.Test.YtmdhanegafclmaaRead
import Derived.KernelRfl
namespace Go.Proofs.Ytmdhanegafclmaa.PFnExactExpCoreShow
open Go.RowKit Go.Proofs.YtmdhanegafclmaaW.PrintWords Go.Proofs.YtmdhanegafclmaaW.PrintLast Go.Proofs.YtmdhanegafclmaaW.Read
set_option linter.unusedVariables false
/-- What the reading tells of such a value: numbers of their kind, texts and slices no longer than they can be. -/
inductive W47 : S47 → Prop where
  | mk (x : S47) : (Lit.int .i64 x.f0).wf = true → x.f1.size ≤ 9223372036854775807 → True → (x.f3.length ≤ 9223372036854775807 ∧ ∀ a_ ∈ x.f3, a_.size ≤ 9223372036854775807) → x.f4.length ≤ 9223372036854775807 → (∀ a_ ∈ x.f4, W47 a_) → W47 x
theorem W47.out {x : S47} (h : W47 x) : (Lit.int .i64 x.f0).wf = true ∧ x.f1.size ≤ 9223372036854775807 ∧ True ∧ (x.f3.length ≤ 9223372036854775807 ∧ ∀ a_ ∈ x.f3, a_.size ≤ 9223372036854775807) ∧ (x.f4.length ≤ 9223372036854775807 ∧ ∀ a_ ∈ x.f4, W47 a_) := by
  cases h with
  | mk _ h0 h1 h2 h3 h4 h5 => exact ⟨h0, h1, h2, h3, ⟨h4, h5⟩⟩
theorem rdw47 {H : Type} (enc : TypeId × Value → H) (W : World) : ∀ n, RdAt enc Try.prog W k47 W47 47 n := by
  intro n
  induction n using Nat.strongRecOn with
  | _ n ih =>
  intro cs x h
  obtain ⟨xs, m, rfl, _, hl, hxl, hf⟩ := DataW.trod_struct Try.underlying47 h
  rw [show Try.prog.cellsOf 47 = 5 from by kernel_rfl] at hl
  obtain ⟨c0, cs0, rfl, hl0⟩ := list_cons hl
  obtain ⟨c1, cs1, rfl, hl1⟩ := list_cons hl0
  obtain ⟨c2, cs2, rfl, hl2⟩ := list_cons hl1
  obtain ⟨c3, cs3, rfl, hl3⟩ := list_cons hl2
  obtain ⟨c4, cs4, rfl, hl4⟩ := list_cons hl3
  obtain rfl := list_nil hl4
  obtain ⟨y0, g0⟩ := field_at hxl hf 0 _ rfl (c := [c0]) (show (([c0, c1, c2, c3, c4] : List Value).drop 0).take (Try.prog.cellsOf 3) = [c0] from by rw [show Try.prog.cellsOf 3 = 1 from by kernel_rfl]; rfl)
  obtain ⟨a0, e0, b0⟩ := (rd_int (k := .i64) Try.underlying3 _) _ _ g0
  injection e0 with e0 _
  subst e0
  obtain ⟨y1, g1⟩ := field_at hxl hf 1 _ rfl (c := [c1]) (show (([.int .i64 a0, c1, c2, c3, c4] : List Value).drop 1).take (Try.prog.cellsOf 9) = [c1] from by rw [show Try.prog.cellsOf 9 = 1 from by kernel_rfl]; rfl)
  obtain ⟨a1, e1, b1⟩ := (rd_string Try.underlying9 _) _ _ g1
  injection e1 with e1 _
  subst e1
  obtain ⟨y2, g2⟩ := field_at hxl hf 2 _ rfl (c := [c2]) (show (([.int .i64 a0, .string a1, c2, c3, c4] : List Value).drop 2).take (Try.prog.cellsOf 4) = [c2] from by rw [show Try.prog.cellsOf 4 = 1 from by kernel_rfl]; rfl)
  obtain ⟨a2, e2, b2⟩ := (rd_bool Try.underlying4 _) _ _ g2
  injection e2 with e2 _
  subst e2
  obtain ⟨y3, g3⟩ := field_at hxl hf 3 _ rfl (c := [c3]) (show (([.int .i64 a0, .string a1, .bool a2, c3, c4] : List Value).drop 3).take (Try.prog.cellsOf 45) = [c3] from by rw [show Try.prog.cellsOf 45 = 1 from by kernel_rfl]; rfl)
  obtain ⟨a3, e3, b3⟩ := (rd_slice (d := Kd.string) (B := (fun s => s.size ≤ 9223372036854775807)) Try.underlying45 (show Try.prog.cellsOf 9 = 1 from by kernel_rfl) _ (fun m_ _ => (rd_string Try.underlying9 m_))) _ _ g3
  obtain ⟨A3, cc3, h3, l3, r3⟩ := e3
  injection h3 with h3 _
  subst h3
  obtain ⟨y4, g4⟩ := field_at hxl hf 4 _ rfl (c := [c4]) (show (([.int .i64 a0, .string a1, .bool a2, .slice A3 a3.length cc3, c4] : List Value).drop 4).take (Try.prog.cellsOf 24) = [c4] from by rw [show Try.prog.cellsOf 24 = 1 from by kernel_rfl]; rfl)
  obtain ⟨a4, e4, b4⟩ := (rd_slice (d := k47) (B := W47) Try.underlying24 (show Try.prog.cellsOf 47 = 5 from by kernel_rfl) _ (fun m_ hm_ => ih m_ (by omega))) _ _ g4
  obtain ⟨A4, cc4, h4, l4, r4⟩ := e4
  injection h4 with h4 _
  subst h4
  exact ⟨⟨a0, a1, a2, a3, a4⟩, k47_mk W ⟨a0, a1, a2, a3, a4⟩ l3 r3 l4 r4, .mk _ b0 b1 b2 b3 b4.1 b4.2⟩
/-- THE ONE PURE STATEMENT of laws_FnExactExpCoreShow. -/
def laws_FnExactExpCoreShow.Pure : Prop := ∀ (x0 : S47), W47 x0 → ∃ k, laws_FnExactExpCoreShow.f k x0.f0 x0.f1 x0.f2 x0.f3 x0.f4 = some true
end Go.Proofs.Ytmdhanegafclmaa.PFnExactExpCoreShow
