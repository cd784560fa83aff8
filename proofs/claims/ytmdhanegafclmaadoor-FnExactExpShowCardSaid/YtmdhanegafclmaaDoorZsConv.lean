/- Conv of the seat's texts, cut down by prune.py to what the theorem comes to. -/
import Derived.Test.YtmdhanegafclmaaDoorZsWWords
import Derived.Test.YtmdhanegafclmaaDoorZsWLast
import Derived.Test.YtmdhanegafclmaaDoorZsWShare
import Derived.Test.YtmdhanegafclmaaDoorZsWMore
namespace Go.Proofs.YtmdhanegafclmaaDoorW.PrintWords
open Go.RowKit
def bytesV.f (s : ByteArray) : Option (List Int) := if s.size ≤ 9223372036854775807 then some (bytesOf s) else none
section
variable {P : Program} {ops : Array Oper} {o : Oper} {rest : List Oper} {a : Act} {Q : Exit → Act → World → Prop} {W : World}
theorem gate_conv {src dst : TypeId} {x : Operand} (_ho : o.op = .convert src dst x) (h : wpList P ops Q (o :: rest) a W) : wpList P ops Q (o :: rest) a W := h
theorem conv_event (hgd : o.guard = none) {src dst e : TypeId} {x : Operand} (hop : o.op = .convert src dst x) (hs : P.underlying src = some .string) (hdt : P.underlying dst = some (.slice e)) (he : P.underlying e = some (.int .u8))
  (s : ByteArray) (hx : a.eval x = .string s) (r : List Int) (hr : bytesV.f s = some r)
  (h : ∀ (w1 : World) (v : Value), Kd.V (Kd.int .u8) e w1 W.heap.size (fun k_ => W.heap.size ≤ k_) v r → Below W.heap.size W w1 → wpList P ops Q rest (a.put o.dst v) w1) : wpList P ops Q (o :: rest) a W := by
 unfold bytesV.f at hr
 split at hr
 ·rename_i hsz
  injection hr with hr
  subst hr
  have hrun := print_bytes (P := P) src dst e hs hdt he s W
  have hr2 := bytes_reads W e s hsz
  have hcap : s.size ≤ grownCap W s.size 0 e := grownCap_ge W s.size 0 e
  have hb : Below W.heap.size W (Lib.bytesWorld W e s) := bytes_below (Below.refl _ _) (Nat.le_refl _) e s
  refine wpList_plain hgd fun K hK => ?_
  unfold Oper.wp
  have hrun' : (execOp a.eval o).run P W = .ok (.value (.slice (some ⟨W.heap.size, 0, none⟩) s.size (grownCap W s.size 0 e))) (Lib.bytesWorld W e s) := by
   unfold execOp
   simp only [hop, hx, Sem.run_bind, hrun, Result.andThen_ok, Sem.run_pure]
  rw [hrun', Oper.upon_value]
  refine hK _ _ (h _ _ ⟨some ⟨W.heap.size, 0, none⟩, grownCap W s.size 0 e, by rw [bytesOf_length], by rw [bytesOf_length]; exact hcap, fun W' hW' => ?_⟩ hb)
  refine Kd.C_of_reads (d := (0 : Int)) (enc := Value.int .u8) ?_
  refine ⟨rfl, by rw [bytesOf_length]; exact hsz, fun hn => ⟨_, rfl, fun j hj => ?_⟩⟩
  rw [bytesOf_length] at hj
  obtain ⟨ad, hA, hc⟩ := hr2.2.2 (by omega)
  injection hA with hA
  subst hA
  have h3 := hc j hj
  have hlt := World.block_lt_of_cell? _ _ h3
  rw [add_block] at hlt
  have h4 := hW' W.heap.size (Nat.le_refl _) hlt
  rw [add_plain] at h3 ⊢
  have : W'.cell? ⟨W.heap.size, j, none⟩ = (Lib.bytesWorld W e s).cell? ⟨W.heap.size, j, none⟩ := by simp [World.cell?, h4]
  rw [this]
  exact h3
 ·cases hr
end
end Go.Proofs.YtmdhanegafclmaaDoorW.PrintWords
