/- Operands, tables of types, the simple operations. Conditions: SigOK, TabOK. -/
import Derived.Test.YtmcbhnbemhfifaaDoorRx7
namespace Go.Proofs.YtmcbhnbemhfifaaDoor.RX
open Go
set_option autoImplicit false
variable {G : Sig} {R : Type} {P : Program} {W : Rights} {w0 w w' : World} {Z Z' : Nat → Nat → Prop} {pl pl' : Nat → Value} {N : Nat}

def zv : LTy → Value
  | .t (.int k) => .int k 0
  | .t .bool => .bool false
  | .t .str => .string ByteArray.empty
  | .t (.sl _ _) => .slice none 0 0
  | .t (.st _) => undef
  | .t (.po _) => undef
  | .ptr => .pointer none
  | .fn => .nilFunc
  | .other => undef
def zval (ti : TI) : Value :=
  match ti.agg, ti.leaves with
  | true, ls => .agg (ls.map zv).toArray
  | false, [l] => zv l
  | false, _ => undef
def isAggD : TypeDesc → Bool
  | .struct _ => true
  | .array _ _ => true
  | _ => false
def isSt : Ty → Bool
  | .st _ => true
  | _ => false
structure TOK (P : Program) (G : Sig) (T : TypeId) (ti : TI) : Prop where
  size : ∃ i, P.info? T = some i ∧ i.size = ti.leaves.length ∧ (zls (G := G) ti.leaves ≠ none → i.zero = some (zval ti))
  agg : ∃ d, P.underlying T = some d ∧ isAggD d = ti.agg
  one : ti.agg = false → ∃ l, ti.leaves = [l]
  lv : ∀ t, ti.ty = some t → G.csz t = ti.leaves.length ∧ isSt t = ti.agg
  sl : ∀ e t, ti.ty = some (.sl e t) → P.underlying T = some (.slice e) ∧ ∃ i z, P.info? e = some i ∧ i.size = G.csz t ∧ i.zero = some z ∧ z.cells.size = G.csz t ∧ 0 < G.csz t ∧ G.cap e * i.bytes ≤ 140737488355328 ∧ G.cap e ≤ maxLen
  int : ∀ k, ti.ty = some (.int k) → P.underlying T = some (.int k)
  str : ti.ty = some .str → P.underlying T = some .string
  bool : ti.ty = some .bool → P.underlying T = some .bool
  ptr : ti.leaves = [.ptr] → ∃ e, P.underlying T = some (.pointer e)
  fn : ti.leaves = [.fn] → ∃ x y z, P.underlying T = some (.func x y z)
  flds : ∀ f d n, nth ti.flds f = some (d, n) → ∃ fs fd, P.underlying T = some (.struct fs) ∧ fs[f]? = some fd ∧ fd.offset = d ∧ d + n ≤ ti.leaves.length ∧ ∃ i, P.info? fd.type = some i ∧ i.size = n ∧ (n = 1 → ∃ dd, P.underlying fd.type = some dd ∧ isAggD dd = false)
  bld : ti.agg = true → ∃ fs : Array Field, P.underlying T = some (.struct fs) ∧ fs.toList.mapM (fun f => (P.info? f.type).map fun i => (f.offset, i.size)) = some ti.flds
  stf : ∀ s, ti.ty = some (.st s) → ∀ f d n t, nth ti.flds f = some (d, n) → nth (G.fs s) f = some t → d = sumSz G ((G.fs s).take f) ∧ n = G.csz t
def TabOK (P : Program) (G : Sig) : Prop := ∀ T ti, G.tab T = some ti → TOK P G T ti

theorem leafOf_ok {nx : Nat} {v : Value} {l : Leaf G} (h : leafOf v = some l) : LfOK Z w pl nx l v := by
  cases v with
  | bool b => injection h with h; subst h; exact ⟨rfl, rfl⟩
  | int k n => injection h with h; subst h; exact ⟨.int k n, rfl⟩
  | string s => injection h with h; subst h; exact ⟨.str s, rfl⟩
  | pointer a => cases a with | none => injection h with h; subst h; exact ⟨rfl, rfl⟩ | some a => cases h
  | slice a n c =>
    cases a with
    | some a => cases h
    | none =>
      simp only [leafOf] at h
      split at h
      · rename_i h1 h2
        injection h with h
        subst h
        rw [Nat.eq_of_beq_eq_true h1, Nat.eq_of_beq_eq_true h2]
        exact ⟨rfl, rfl⟩
      · cases h
  | nilFunc => injection h with h; subst h; exact ⟨rfl, rfl⟩
  | _ => cases h
theorem leavesOf_ok {nx : Nat} : ∀ {vs : List Value} {ls : List (Leaf G)}, leavesOf vs = some ls → LsOK Z w pl nx ls vs
  | [], ls, h => by simp only [leavesOf, Option.some.injEq] at h; subst h; exact rfl
  | v :: vs, ls, h => by
    simp only [leavesOf] at h
    split at h
    · rename_i l hl
      split at h
      · rename_i ls' hls
        injection h with h
        subst h
        exact ⟨v, vs, rfl, leafOf_ok hl, leavesOf_ok hls⟩
      · cases h
    · cases h

theorem evalO_ok {L : St G} {a : Act} (S : Sat N W w0 Z pl L a w) {x : Operand} {s : SV G} (h : evalO L x = some s) : SVOK Z w pl L.nx s (a.eval x) := by
  cases x with
  | tmp t =>
    simp only [evalO] at h
    split at h
    · rename_i s' hg
      injection h with h
      subst h
      exact S.tm t _ hg
    · cases h
  | const v =>
    have plain : (match leafOf v with | some l => some (SV.one l) | none => none) = some s → SVOK Z w pl L.nx s v := by
      intro h
      split at h
      · rename_i l hl
        injection h with h
        subst h
        exact leafOf_ok hl
      · cases h
    cases v with
    | agg cs =>
      simp only [evalO] at h
      split at h
      · rename_i ls hl
        injection h with h
        subst h
        exact ⟨cs.toList, by simp [Act.eval], leavesOf_ok hl⟩
      · cases h
    | _ => exact plain h
  | global g => cases h
  | func f =>
    injection h with h
    subst h
    exact ⟨⟨fun o ho => (by cases ho), rfl⟩, rfl⟩
theorem SVOK.cells {nx : Nat} {s : SV G} {v : Value} (h : SVOK Z w pl nx s v) : LsOK Z w pl nx s.ls v.cells.toList := by
  cases s with
  | one l => rw [cells_one h.2]; exact ⟨v, [], rfl, h, rfl⟩
  | agg ls => obtain ⟨cs, rfl, h⟩ := h; exact h

theorem put_getD (a : Act) (d t : Nat) (v : Value) (h : d < a.tmps.size) : (a.put (some d) v).tmps.getD t undef = if t = d then v else a.tmps.getD t undef := by
  simp only [Act.put, Array.getD_eq_getD_getElem?, Array.getElem?_setIfInBounds]
  by_cases e : d = t
  · subst e; simp [h]
  · simp [e, Ne.symm e]
theorem Sat.put {L : St G} {a : Act} (S : Sat N W w0 Z pl L a w) {d : Nat} (hd : d < N) {v : DV G} {u : Value} (hv : DVOK Z w pl L.nx v u) : Sat N W w0 Z pl ⟨(d, v) :: L.tmps, L.objs, L.nx⟩ (a.put (some d) u) w where
  size := by simp [Act.put, S.size]
  defers := S.defers
  tm := fun t d' hg => by
    rw [put_getD a d t u (by rw [S.size]; exact hd)]
    rw [get_cons] at hg
    split at hg
    · rename_i e
      injection hg with hg
      subst e hg
      rw [if_pos rfl]
      exact hv
    · rename_i e
      rw [if_neg (Ne.symm e)]
      exact S.tm t d' hg
  mem := S.mem
theorem out_ok {E : Env G R} {o : Oper} {v : DV G} {L : St G} {K : St G → Option R} {r : R} (h : out E o v L K = some r) {a : Act} (S : Sat E.N W w0 Z pl L a w) {u : Value} (hv : DVOK Z w pl L.nx v u)
    {next : Act → World → Prop} (hK : ∀ L' a' w' Z' pl', K L' = some r → Sat E.N W w0 Z' pl' L' a' w' → next a' w') : next (a.put o.dst u) w := by
  unfold out at h
  split at h
  · rename_i hd
    rw [hd]
    exact hK L _ w Z pl h S
  · rename_i d hd
    rw [hd]
    split at h
    · rename_i hlt
      cases L with
      | mk tm ob nx => exact hK _ _ w Z pl h (S.put (by rw [Nat.blt_eq] at hlt; exact hlt) hv)
    · cases h
/-- That a temporary holds a bool of this kind. -/
theorem Sat.know {L : St G} {a : Act} (S : Sat N W w0 Z pl L a w) (t : Nat) (b : Bool) (h : a.tmps.getD t undef = .bool b) : Sat N W w0 Z pl (know t b L) a w := by
  cases L with
  | mk tm ob nx =>
    refine ⟨S.size, S.defers, fun t' d hg => ?_, S.mem⟩
    have hg2 : get ((t, DV.sv (.one (.kb b))) :: tm) t' = some d := hg
    clear hg
    rw [get_cons] at hg2
    split at hg2
    · rename_i e
      injection hg2 with hg2
      subst e hg2
      rw [h]
      exact ⟨rfl, rfl⟩
    · exact S.tm t' d hg2
theorem Sat.knowO {L : St G} {a : Act} (S : Sat N W w0 Z pl L a w) (c : Operand) (b : Bool) (h : a.eval c = .bool b) : Sat N W w0 Z pl (knowO c b L) a w := by
  cases c with
  | tmp t => exact S.know t b h
  | const v => exact S
  | global g => exact S
  | func f => exact S
theorem condK_ok {nx : Nat} {s : SV G} {A B : Option R} {r : R} (h : condK s A B = some r) {v : Value} (hv : SVOK Z w pl nx s v) : ∃ b, v = .bool b ∧ (b = true → A = some r) ∧ (b = false → B = some r) := by
  cases s with
  | agg ls => cases h
  | one l =>
    cases l with
    | kb b =>
      have := hv.1
      refine ⟨b, this, ?_, ?_⟩ <;> intro e <;> subst e <;> exact h
    | prop p d =>
      have := hv.1
      refine ⟨@decide p d, this, fun e => ?_, fun e => ?_⟩
      · have hp : p := of_decide_eq_true e
        simp only [condK, if_pos hp] at h
        exact h
      · have hp : ¬ p := of_decide_eq_false e
        simp only [condK, if_neg hp] at h
        exact h
    | val t x =>
      cases t with
      | bool =>
        have hv1 : RepC G Z w .bool x [v] := hv.1
        cases hv1 with
        | bool b =>
          refine ⟨x, rfl, fun e => ?_, fun e => ?_⟩
          · have h' : (if (show Bool from x) = true then A else B) = some r := h
            rw [if_pos e] at h'
            exact h'
          · have h' : (if (show Bool from x) = true then A else B) = some r := h
            rw [if_neg (by intro e2; rw [show (show Bool from x) = x from rfl, e] at e2; cases e2)] at h'
            exact h'
      | _ => cases h
    | _ => cases h

section ops
variable {o : Oper} {a : Act} {next : Act → World → Prop} {Q : Exit → Act → World → Prop}
theorem wp_value {v : Value} (h : (execOp a.eval o).run P w = .ok (.value v) w') (hn : next (a.put o.dst v) w') : o.wp P a w next Q := by unfold Oper.wp; rw [h]; exact hn
theorem wp_skip' (h : (execOp a.eval o).run P w = .ok .skip w') (hn : next (a.put o.dst undef) w') : o.wp P a w next Q := by unfold Oper.wp; rw [h]; exact hn
theorem run_v (s : Sem Value) {v : Value} (h : s.run P w = .ok v w') : ((do pure (Next.value (← s)) : Sem Next)).run P w = .ok (.value v) w' := by
  rw [Sem.run_bind, h]; rfl
theorem run_u (s : Sem Unit) (h : s.run P w = .ok () w') : ((do s; pure Next.skip : Sem Next)).run P w = .ok .skip w' := by
  rw [Sem.run_bind, h]; rfl
theorem run_und {T : TypeId} {d : TypeDesc} (h : P.underlying T = some d) : (underlying T).run P w = .ok d w := by
  simp [underlying, h]
theorem run_info {T : TypeId} {i : TypeInfo} (h : P.info? T = some i) : (typeInfo T).run P w = .ok i w := by
  simp [typeInfo, h]
theorem run_size {T : TypeId} {i : TypeInfo} (h : P.info? T = some i) : (sizeOf T).run P w = .ok i.size w := by
  unfold sizeOf; rw [Sem.run_bind, run_info h]; rfl
theorem run_zero {T : TypeId} {i : TypeInfo} {z : Value} (h : P.info? T = some i) (hz : i.zero = some z) : (zeroValue T).run P w = .ok z w := by
  unfold zeroValue; rw [Sem.run_bind, run_info h]; simp [hz]
theorem run_isAgg {T : TypeId} {d : TypeDesc} (h : P.underlying T = some d) : (isAgg T).run P w = .ok (isAggD d) w := by
  unfold isAgg; rw [Sem.run_bind, run_und h]; cases d <;> rfl
end ops
end Go.Proofs.YtmcbhnbemhfifaaDoor.RX
