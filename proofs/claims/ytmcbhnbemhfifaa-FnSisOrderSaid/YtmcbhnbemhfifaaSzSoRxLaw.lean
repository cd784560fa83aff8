/- Part of the proof that FnSisOrder is true at every input; no condition. -/
import Derived.Test.YtmcbhnbemhfifaaSzPartD
import Derived.Test.YtmcbhnbemhfifaaRows
import Derived.WalkKit
import Derived.ProofKit
import Derived.OpenShut
import Derived.ShutString
import Derived.ChangeOld
import Derived.Below
import Derived.SizedLaws
import Derived.Carry
import Derived.Deep.DeepHandedRow
import Derived.Lib.LaidTab
set_option linter.unusedVariables false
set_option linter.unusedSimpArgs false
namespace Go.Proofs.Ytmcbhnbemhfifaa.fnSisOrder
open Go.ChangeShapes Go.WideShapes Go.ChangeAt Go.RowKit Go.Proofs.Ytmcbhnbemhfifaa.RX
open Go.ChangeMaps (open_string shut_string)
set_option linter.unusedVariables false
set_option linter.unusedSimpArgs false
theorem own : ownKnob Try.prog.godebug = none := by kernel_rfl
theorem laidOut : laidOutB Try.prog = true := by kernel_rfl
theorem getD_take {zs : List Int} {n : Nat} (h : ∀ x ∈ zs, (Lit.int .u8 x).wf = true) : ∀ x ∈ zs.take n, 0 ≤ x ∧ x ≤ 255 := fun x hx => by
 have := h x (List.mem_of_mem_take hx)
 simpa [Lit.wf, IntKind.min, IntKind.max, IntKind.signed, IntKind.bits] using this
theorem row_bytes {w : World} {a : Option Addr} {len cap : Nat} {zs : List Int} (h : RX.IsRow .u8 w a len cap zs) : ∀ x ∈ zs.take len, 0 ≤ x ∧ x ≤ 255 := by
 rcases h with ⟨_, _, _, rfl⟩ | ⟨_, _, _, _, _, _, h⟩
 ·simp
 ·exact getD_take h
set_option maxRecDepth 100000 in
theorem contract (H : Type) (enc : TypeId × Value → H) (W : World) (base : Nat) (args : Array Value) (ds gs : List (DataW H)) (before : List MemPlace)
  (hval : ∀ (j : Nat) t v, Try.f3.params[j]? = some t → args[j]? = some v → Value.okWide Try.prog W .any base t v)
  (hW : DataW.Whole enc Try.prog Try.f3.params.toList Rows.fnSisOrderSpec.vars false W args.toList ds gs before) :
  Calls Try.prog 3 args W fun e W' => ∃ v, e = .returned v ∧ Rows.fnSisOrderSpec.post enc Try.prog Try.f3 false true false false W args v W' := by
 have hW' := hW
 obtain ⟨p, q, hA0, hV, rfl, hfz, hnd⟩ := hW
 have hA : DataW.TrodAll enc Try.prog W 0 (fun _ => true) true Try.f3.params.toList args.toList ds p := hA0
 rw [Try.params3] at hA hval
 obtain ⟨v0, vs0, d0, ds0, p0, q0, hargs, rfl, rfl, h0, r0⟩ := trodAll_cons hA
 obtain ⟨v1, vs1, d1, ds1, p1, q1, hargs1, rfl, rfl, h1, r1⟩ := trodAll_cons r0
 subst hargs1
 obtain ⟨rfl, rfl, rfl⟩ := trodAll_nil r1
 obtain rfl : args = #[v0, v1] := by cases args; simp_all
 obtain ⟨rfl, rfl⟩ := trodVars_none hV
 obtain ⟨a0, len0, cap0, rfl⟩ := okWide_slice Try.underlying22 (hval 0 22 v0 rfl rfl)
 have k0 := h0
 have lt0 : ∀ x ∈ p0, x.block < W.heap.size := by obtain ⟨m, hm⟩ := k0; exact DataW.trod_lt m _ _ _ hm
 obtain ⟨z0, w0⟩ : ∃ zs, RX.IsRow .u8 W a0 len0 cap0 zs := by
      obtain ⟨fuel, hf⟩ := h0
      rcases open_ints Try.underlying22 Try.underlying5 (by kernel_rfl) hf with ⟨hcs, _⟩ | ⟨x, l, c, zs, hcs, _, hl, hm, hz, _, hcell, hwz⟩
      ·simp [Value.cells] at hcs
       obtain ⟨rfl, rfl, rfl⟩ := hcs
       exact ⟨[], .inl ⟨rfl, rfl, rfl, rfl⟩⟩
      ·simp [Value.cells] at hcs
       obtain ⟨rfl, rfl, rfl⟩ := hcs
       exact ⟨zs, .inr ⟨_, rfl, hl, hm, by simpa using hz, hcell, hwz⟩⟩
 obtain ⟨a1, len1, cap1, rfl⟩ := okWide_slice Try.underlying22 (hval 1 22 v1 rfl rfl)
 have k1 := h1
 have lt1 : ∀ x ∈ p1, x.block < W.heap.size := by obtain ⟨m, hm⟩ := k1; exact DataW.trod_lt m _ _ _ hm
 obtain ⟨z1, w1⟩ : ∃ zs, RX.IsRow .u8 W a1 len1 cap1 zs := by
      obtain ⟨fuel, hf⟩ := h1
      rcases open_ints Try.underlying22 Try.underlying5 (by kernel_rfl) hf with ⟨hcs, _⟩ | ⟨x, l, c, zs, hcs, _, hl, hm, hz, _, hcell, hwz⟩
      ·simp [Value.cells] at hcs
       obtain ⟨rfl, rfl, rfl⟩ := hcs
       exact ⟨[], .inl ⟨rfl, rfl, rfl, rfl⟩⟩
      ·simp [Value.cells] at hcs
       obtain ⟨rfl, rfl, rfl⟩ := hcs
       exact ⟨zs, .inr ⟨_, rfl, hl, hm, by simpa using hz, hcell, hwz⟩⟩
 obtain ⟨k, hk⟩ := law_pure (z0.take len0) (z1.take len1) (row_bytes w0) (row_bytes w1)
 refine (holds_calls (laws_FnSisOrder.holds k) (fn := Try.f3) (body := bodyOf Try.f3) (by kernel_rfl) (by kernel_rfl) (by kernel_rfl) rfl (h := (z0.take len0, z1.take len1)) (r := true) hk rfl ?_).mono fun e W' ⟨v, he, ⟨Z', pr, hr⟩, bel⟩ => ?_
 · intro t d hg
   have hg2 : get [(0, (DV.sv (SV.one (Leaf.val (G := sg) (.sl 5 (.int .u8)) (z0.take len0))) : DV sg)), (1, (DV.sv (SV.one (Leaf.val (G := sg) (.sl 5 (.int .u8)) (z1.take len1))) : DV sg))] t = some d := hg
   clear hg
   rw [get_cons] at hg2
   split at hg2
   · rename_i e
     injection hg2 with hg2
     subst e hg2
     exact ⟨rep_ints 5 w0, rfl⟩
   rw [get_cons] at hg2
   split at hg2
   · rename_i e
     injection hg2 with hg2
     subst e hg2
     exact ⟨rep_ints 5 w1, rfl⟩
   cases hg2
 · have hv : v = .bool true := bool_val (hr 0 (.sv (.one (.val .bool true))) rfl)
   subst hv he
   exact ⟨_, rfl, _, _, _, [], _, [], hW', trodAll_mk1 (shut_bool Try.underlying4 _), (trodAll_cons_mk (Below.trod laidOut (by kernel_rfl) (of_decide_eq_true (by kernel_rfl)) k0 bel lt0) (trodAll_cons_mk (Below.trod laidOut (by kernel_rfl) (of_decide_eq_true (by kernel_rfl)) k1 bel lt1) trodAll_mk0)), rfl, bel.frame _, fun h => by cases h⟩
noncomputable def laidWorld (os : Os) : World :=
 { World.holding Try.prog os ⟨#[], #[], []⟩ with heap := (World.holding Try.prog os ⟨#[], #[], []⟩).heap }
theorem laid_met (os : Os) : laidMet Try.prog Rows.fnSisOrderRow.laid ((laidWorld os).forCall (fun _ _ => 0) ⟨#[], #[(.slice none 0 0), (.slice none 0 0)], []⟩).memory :=
 laidMet_of_run' 8 (by kernel_rfl) (by kernel_rfl)
def read0 {H : Type} : List (DataW H) := [.nil, .nil]
theorem reads (os : Os) {H : Type} (enc : TypeId × Value → H) : ∃ places, DataW.whole enc Try.prog ((laidWorld os).forCall (fun _ _ => 0) ⟨#[], #[(.slice none 0 0), (.slice none 0 0)], []⟩).memory Try.f3.params.toList Rows.fnSisOrderSpec.vars false (#[(.slice none 0 0), (.slice none 0 0)] : Array Value).toList 8 = some (read0, [], places) :=
 ⟨[], by kernel_rfl⟩
set_option maxRecDepth 100000 in
theorem lifted (os : Os) (started : os.Started) (H : Type) (enc : TypeId × Value → H) (F : Stop.Interp) :
  ReturnsInHanded {} Try.checked os 3 .any ((OpenSpec.ofChange Rows.fnSisOrderSpec).preRow enc Try.prog Try.f3 Rows.fnSisOrderRow.domain false Rows.fnSisOrderRow.laid) (((OpenSpec.ofChange Rows.fnSisOrderSpec).at F).post enc Try.prog Try.f3 false true false false) := by
 obtain ⟨places, hx⟩ := reads os enc
 refine returnsInHanded_of_row (C := Try.checked) (s := OpenSpec.ofChange Rows.fnSisOrderSpec) own started (by kernel_rfl) Try.func3
  (witness_row_at (enc := enc) (C := Try.checked) false (laidWorld os) #[(.slice none 0 0), (.slice none 0 0)] rfl (by kernel_rfl) (by kernel_rfl) (by kernel_rfl)
   (OpenSpec.preRow_of_cond 8 hx (by kernel_rfl) (fun k hk => by cases hk) (by kernel_rfl) (laid_met os))) ?_
 intro W base args ds gs before hval hW _ _ _ hL _ _
 exact contract H enc W base args ds gs before hval hW
theorem over : Rows.FnSisOrderSaid :=
 OpenClaim.holds_of_cond 3 Try.f3 rfl rfl rfl rfl rfl rfl rfl ⟨rfl, rfl, rfl, rfl, rfl⟩ rfl rfl rfl rfl rfl (by kernel_rfl) Try.func3 (by kernel_rfl)
  (of_decide_eq_true (by kernel_rfl)) (by unfold Func.isWrapper; first | (rw [if_pos (by decide +kernel)]; kernel_rfl) | (rw [if_neg (by decide +kernel)]; exact ⟨rfl, rfl⟩))
  (fun os started H enc _ F => by rw [OpenClaim.pre_eq_preRow]; exact lifted os started H enc F)
#print axioms over
end Go.Proofs.Ytmcbhnbemhfifaa.fnSisOrder
namespace Go.Proofs.Ytmcbhnbemhfifaa
theorem fnSisOrder_holds : Rows.FnSisOrderSaid := fnSisOrder.over
end Go.Proofs.Ytmcbhnbemhfifaa
