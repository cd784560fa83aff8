/- PreFnExactExpShow of the seat's texts, cut down by prune.py to what the theorem comes to. -/
import Derived.Test.YtmdhanegafclmaaDoorZsPFnExactExpShowx10
import Derived.Test.YtmdhanegafclmaaDoorZsRead
import Derived.KernelRfl
namespace Go.Proofs.YtmdhanegafclmaaDoor.PFnExactExpShow
open Go.RowKit Go.Proofs.YtmdhanegafclmaaDoorW.PrintWords Go.Proofs.YtmdhanegafclmaaDoorW.PrintLast Go.Proofs.YtmdhanegafclmaaDoorW.Read
set_option linter.unusedVariables false
inductive W30 : S30 → Prop where
 | mk (x : S30) : (Lit.int .i64 x.f0).wf = true → x.f1.size ≤ 9223372036854775807 → (x.f2.length ≤ 9223372036854775807 ∧ ∀ a_ ∈ x.f2, (Lit.int .i64 a_).wf = true) → (Lit.int .i64 x.f3).wf = true → x.f4.length ≤ 9223372036854775807 → (∀ a_ ∈ x.f4, W30 a_) → W30 x
theorem W30.out {x : S30} (h : W30 x) : (Lit.int .i64 x.f0).wf = true ∧ x.f1.size ≤ 9223372036854775807 ∧ (x.f2.length ≤ 9223372036854775807 ∧ ∀ a_ ∈ x.f2, (Lit.int .i64 a_).wf = true) ∧ (Lit.int .i64 x.f3).wf = true ∧ (x.f4.length ≤ 9223372036854775807 ∧ ∀ a_ ∈ x.f4, W30 a_) := by
 cases h with
 | mk _ h0 h1 h2 h3 h4 h5 => exact ⟨h0, h1, h2, h3, ⟨h4, h5⟩⟩
theorem rdw30 {H : Type} (enc : TypeId × Value → H) (W : World) : ∀ n, RdAt enc Tryd.prog W k30 W30 30 n := by
 intro n
 induction n using Nat.strongRecOn with
 | _ n ih =>
 intro cs x h
 obtain ⟨xs, m, rfl, _, hl, hxl, hf⟩ := DataW.trod_struct Tryd.underlying30 h
 rw [show Tryd.prog.cellsOf 30 = 5 from by kernel_rfl] at hl
 obtain ⟨c0, cs0, rfl, hl0⟩ := list_cons hl
 obtain ⟨c1, cs1, rfl, hl1⟩ := list_cons hl0
 obtain ⟨c2, cs2, rfl, hl2⟩ := list_cons hl1
 obtain ⟨c3, cs3, rfl, hl3⟩ := list_cons hl2
 obtain ⟨c4, cs4, rfl, hl4⟩ := list_cons hl3
 obtain rfl := list_nil hl4
 obtain ⟨y0, g0⟩ := field_at hxl hf 0 _ rfl (c := [c0]) (show (([c0, c1, c2, c3, c4] : List Value).drop 0).take (Tryd.prog.cellsOf 3) = [c0] from by rw [show Tryd.prog.cellsOf 3 = 1 from by kernel_rfl]; rfl)
 obtain ⟨a0, e0, b0⟩ := (rd_int (k := .i64) Tryd.underlying3 _) _ _ g0
 injection e0 with e0 _
 subst e0
 obtain ⟨y1, g1⟩ := field_at hxl hf 1 _ rfl (c := [c1]) (show (([.int .i64 a0, c1, c2, c3, c4] : List Value).drop 1).take (Tryd.prog.cellsOf 9) = [c1] from by rw [show Tryd.prog.cellsOf 9 = 1 from by kernel_rfl]; rfl)
 obtain ⟨a1, e1, b1⟩ := (rd_string Tryd.underlying9 _) _ _ g1
 injection e1 with e1 _
 subst e1
 obtain ⟨y2, g2⟩ := field_at hxl hf 2 _ rfl (c := [c2]) (show (([.int .i64 a0, .string a1, c2, c3, c4] : List Value).drop 2).take (Tryd.prog.cellsOf 27) = [c2] from by rw [show Tryd.prog.cellsOf 27 = 1 from by kernel_rfl]; rfl)
 obtain ⟨a2, e2, b2⟩ := (rd_slice (d := (Kd.int .i64)) (B := (fun a => (Lit.int .i64 a).wf = true)) Tryd.underlying27 (show Tryd.prog.cellsOf 3 = 1 from by kernel_rfl) _ (fun m_ _ => (rd_int (k := .i64) Tryd.underlying3 m_))) _ _ g2
 obtain ⟨A2, cc2, h2, l2, r2⟩ := e2
 injection h2 with h2 _
 subst h2
 obtain ⟨y3, g3⟩ := field_at hxl hf 3 _ rfl (c := [c3]) (show (([.int .i64 a0, .string a1, .slice A2 a2.length cc2, c3, c4] : List Value).drop 3).take (Tryd.prog.cellsOf 3) = [c3] from by rw [show Tryd.prog.cellsOf 3 = 1 from by kernel_rfl]; rfl)
 obtain ⟨a3, e3, b3⟩ := (rd_int (k := .i64) Tryd.underlying3 _) _ _ g3
 injection e3 with e3 _
 subst e3
 obtain ⟨y4, g4⟩ := field_at hxl hf 4 _ rfl (c := [c4]) (show (([.int .i64 a0, .string a1, .slice A2 a2.length cc2, .int .i64 a3, c4] : List Value).drop 4).take (Tryd.prog.cellsOf 28) = [c4] from by rw [show Tryd.prog.cellsOf 28 = 1 from by kernel_rfl]; rfl)
 obtain ⟨a4, e4, b4⟩ := (rd_slice (d := k30) (B := W30) Tryd.underlying28 (show Tryd.prog.cellsOf 30 = 5 from by kernel_rfl) _ (fun m_ hm_ => ih m_ (by omega))) _ _ g4
 obtain ⟨A4, cc4, h4, l4, r4⟩ := e4
 injection h4 with h4 _
 subst h4
 exact ⟨⟨a0, a1, a2, a3, a4⟩, k30_mk W ⟨a0, a1, a2, a3, a4⟩ l2 r2 l4 r4, .mk _ b0 b1 b2 b3 b4.1 b4.2⟩
def laws_FnExactExpShow.Pure : Prop := ∀ (x0 : S30), W30 x0 → ∃ k, laws_FnExactExpShow.f k x0.f0 x0.f1 x0.f2 x0.f3 x0.f4 = some true
end Go.Proofs.YtmdhanegafclmaaDoor.PFnExactExpShow
