/- Operations, one by one: what the evaluator says is what the machine does. Conditions: SigOK, TabOK. -/
import Derived.Test.YtmcbhnbemhfifaaDoorRx8
namespace Go.Proofs.YtmcbhnbemhfifaaDoor.RX
open Go Go.RowKit
set_option autoImplicit false
variable {G : Sig} {R : Type} {P : Program} {W : Rights} {w0 w w' : World} {Z Z' : Nat → Nat → Prop} {pl pl' : Nat → Value} {N : Nat}
variable {E : Env G R} {o : Oper} {L : St G} {K : St G → Option R} {r : R} {a : Act} {next : Act → World → Prop} {Q : Exit → Act → World → Prop}

/-- What comes behind an operation. -/
def Then (E : Env G R) (W : Rights) (w0 : World) (K : St G → Option R) (r : R) (next : Act → World → Prop) : Prop :=
  ∀ L' a' w' Z' pl', K L' = some r → Sat E.N W w0 Z' pl' L' a' w' → next a' w'

theorem Sat.at {L' : St G} (S : Sat N W w0 Z pl L a w) (X : Ext Z w pl L.nx Z' w' pl' L'.nx) (M : Mem W w0 Z' pl' L'.objs L'.nx w') (ht : L'.tmps = L.tmps) : Sat N W w0 Z' pl' L' a w' :=
  ⟨S.size, S.defers, fun t d hg => (S.tm t d (by rw [← ht]; exact hg)).mono X, M⟩
theorem MStep.sat {L' : St G} (S : Sat N W w0 Z pl L a w) (H : MStep W w0 w Z pl L Z' pl' L') : Sat N W w0 Z' pl' L' a w := S.at H.ext H.mem H.tm

theorem op_value {v : DV G} {u : Value} {L' : St G} (hrun : (execOp a.eval o).run P w = .ok (.value u) w') (h : out E o v L' K = some r) (S : Sat E.N W w0 Z' pl' L' a w') (hv : DVOK Z' w' pl' L'.nx v u)
    (hK : Then E W w0 K r next) : o.wp P a w next Q := wp_value hrun (out_ok h S hv hK)

/-- An operation that leaves the world alone. -/
def _root_.Go.Oper.rd (P : Program) (o : Oper) (a : Act) (w : World) (next : Act → World → Prop) : Prop := ∃ u, (execOp a.eval o).run P w = .ok (.value u) w ∧ next (a.put o.dst u) w
/-- An operation that looks at no memory. -/
def _root_.Go.Oper.pu (P : Program) (o : Oper) (a : Act) (w : World) (next : Act → World → Prop) : Prop := ∃ u, (∀ w', (execOp a.eval o).run P w' = .ok (.value u) w') ∧ next (a.put o.dst u) w
theorem pu_rd (h : o.pu P a w next) : o.rd P a w next := let ⟨u, h1, h2⟩ := h; ⟨u, h1 w, h2⟩
theorem rd_wp (h : o.rd P a w next) : o.wp P a w next Q := let ⟨_, h1, h2⟩ := h; wp_value h1 h2
theorem op_read {v : DV G} {u : Value} {L' : St G} (hrun : (execOp a.eval o).run P w = .ok (.value u) w) (h : out E o v L' K = some r) (S : Sat E.N W w0 Z' pl' L' a w) (hv : DVOK Z' w pl' L'.nx v u)
    (hK : Then E W w0 K r next) : o.rd P a w next := ⟨u, hrun, out_ok h S hv hK⟩
theorem op_pure {v : DV G} {u : Value} {L' : St G} (hrun : ∀ w', (execOp a.eval o).run P w' = .ok (.value u) w') (h : out E o v L' K = some r) (S : Sat E.N W w0 Z' pl' L' a w) (hv : DVOK Z' w pl' L'.nx v u)
    (hK : Then E W w0 K r next) : o.pu P a w next := ⟨u, hrun, out_ok h S hv hK⟩

theorem fzK_ok {d d' : DV G} {L L' : St G} {v : Value} (h : fzK d L = (d', L')) (S : Sat N W w0 Z pl L a w) (hv : DVOK Z w pl L.nx d v) : ∃ Z', Sat N W w0 Z' pl L' a w ∧ DVOK Z' w pl L'.nx d' v := by
  have same : (d, L) = (d', L') → ∃ Z', Sat N W w0 Z' pl L' a w ∧ DVOK Z' w pl L'.nx d' v := by
    intro e
    injection e with e1 e2
    subst e1 e2
    exact ⟨Z, S, hv⟩
  unfold fzK at h
  split at h
  · rename_i o z
    split at h
    · rename_i e t xs hg
      split at h
      · rename_i h1 h2
        rw [len_eq] at h1
        have h1 := Nat.eq_of_beq_eq_true h1
        have h2 := Nat.eq_of_beq_eq_true h2
        injection h with e1 e2
        subst e1 e2
        obtain ⟨Z', X, M, R, _⟩ := S.mem.freeze (.inl hg)
        obtain ⟨⟨ho, b, n, c, hp, hn, hv⟩, hone⟩ := hv
        refine ⟨Z', S.at (by rw [freeze_nx]; exact X) (by rw [freeze_nx]; exact M) (freeze_tmps L o), ?_⟩
        rw [hp] at R
        cases R with
        | sl _ _ _ A c' b' off cs hc hA hl hz hr =>
          have hlt : 0 < List.length xs := by omega
          rcases hA with hA | hA
          · omega
          · injection hA with hA
            injection hA with hb ho2
            subst hb ho2
            refine ⟨⟨b, 0, cs 0, by rw [hv]; simp, hl 0 hlt, fun j u hj => ?_, ?_⟩, hone⟩
            · have := hz 0 j u hlt hj
              simpa using this
            · have := hr 0 hlt
              have e0 : rdAt (dft G t) xs 0 = xs[0] := by simp [rdAt, List.getD, hlt]
              rw [e0]
              exact this
      · exact same h
    · exact same h
  · exact same h
theorem op_move {x : Operand} (h : (match x with
      | .tmp t => match get L.tmps t with
        | some d => match fzD E.fz o.dst with
          | true => match fzK d L with
            | (d', L') => out E o d' L' K
          | false => out E o d L K
        | none => none
      | x => match evalO L x with
        | some s => out E o (.sv s) L K
        | none => none) = some r) (ho : o.op = .move x ∨ o.op = .assign x) (S : Sat E.N W w0 Z pl L a w) (hK : Then E W w0 K r next) : o.pu P a w next := by
  have hrun : ∀ w', (execOp a.eval o).run P w' = .ok (.value (a.eval x)) w' := by
    intro w'; unfold execOp; rcases ho with ho | ho <;> rw [ho] <;> rfl
  have hrest : (match evalO L x with
        | some s => out E o (.sv s) L K
        | none => none) = some r → o.pu P a w next := by
    intro h
    split at h
    · rename_i s hs
      exact op_pure hrun h S (evalO_ok S hs) hK
    · cases h
  cases x with
  | tmp t =>
    simp only at h
    split at h
    · rename_i d hd
      split at h
      · obtain ⟨Z', S', hv⟩ := fzK_ok (d' := (fzK d L).1) (L' := (fzK d L).2) rfl S (S.tm t d hd)
        exact op_pure hrun h S' hv hK
      · exact op_pure hrun h S (S.tm t d hd) hK
    · cases h
  | const v => exact hrest h
  | global g => exact hrest h
  | func f => exact hrest h

theorem op_pick {c x y : Operand} (ho : o.op = .pick c x y) (h : semOp E o L K = some r) (S : Sat E.N W w0 Z pl L a w) (hK : Then E W w0 K r next) : o.pu P a w next := by
  simp only [semOp, ho] at h
  split at h
  · rename_i s hs
    obtain ⟨b, hb, h1, h2⟩ := condK_ok h (evalO_ok S hs)
    have hrun : ∀ w', (execOp a.eval o).run P w' = .ok (.value (if b then a.eval x else a.eval y)) w' := by
      intro w'; unfold execOp; rw [ho]
      simp only [hb, asBool]
      rfl
    have S' := S.knowO c b hb
    cases b with
    | true =>
      have h1 := h1 rfl
      split at h1
      · rename_i v hv
        exact op_pure hrun h1 S' (evalO_ok S' hv) hK
      · cases h1
    | false =>
      have h2 := h2 rfl
      split at h2
      · rename_i v hv
        exact op_pure hrun h2 S' (evalO_ok S' hv) hK
      · cases h2
  · cases h

theorem zls_ok {nx : Nat} : ∀ {ls : List LTy} {l : List (Leaf G)}, zls ls = some l → LsOK Z w pl nx l (ls.map zv) ∧ l.length = ls.length
  | [], l, h => by simp only [zls, Option.some.injEq] at h; subst h; exact ⟨rfl, rfl⟩
  | x :: xs, l, h => by
    simp only [zls] at h
    split at h
    · rename_i y hy
      split at h
      · rename_i ys hys
        injection h with h
        subst h
        obtain ⟨k1, k2⟩ := zls_ok hys
        refine ⟨⟨zv x, xs.map zv, rfl, ?_, k1⟩, by simp [k2]⟩
        cases x with
        | t t => cases t with
          | int k => injection hy with hy; subst hy; exact ⟨.int k 0, rfl⟩
          | bool => injection hy with hy; subst hy; exact ⟨rfl, rfl⟩
          | str => injection hy with hy; subst hy; exact ⟨.str _, rfl⟩
          | sl e t => injection hy with hy; subst hy; exact ⟨rfl, rfl⟩
          | po t => cases hy
          | st s => cases hy
        | ptr => injection hy with hy; subst hy; exact ⟨rfl, rfl⟩
        | fn => injection hy with hy; subst hy; exact ⟨rfl, rfl⟩
        | other => cases hy
      · cases h
    · cases h
theorem zval_cells {ti : TI} (h1 : ti.agg = false → ∃ l, ti.leaves = [l]) (hz : zls (G := G) ti.leaves ≠ none) : (zval ti).cells.toList = ti.leaves.map zv := by
  unfold zval
  split
  · simp [Value.cells]
  · rename_i l hl hl2
    rw [hl2] at hz ⊢
    cases l with
    | t t => cases t <;> first | rfl | (exact absurd (by simp [zls, zl]) hz)
    | ptr => rfl
    | fn => rfl
    | other => exact absurd (by simp [zls, zl]) hz
  · rename_i ha hn
    obtain ⟨l, hl⟩ := h1 ha
    exact absurd hl (hn l)
/-- A new variable. -/
theorem op_newvar {T : TypeId} {u : Value} {ls : List (Leaf G)} (hrun : (execOp a.eval o).run P w = .ok (.value (.pointer (some ⟨w.heap.size, 0, none⟩))) (w.alloc (.cells u.cells T)))
    (S : Sat E.N W w0 Z pl L a w) (hl : LsOK Z w pl L.nx ls u.cells.toList) (h : (newOb (.cells [] ls) L fun i L' => out E o (.sv (.one (.ptr i 0))) L' K) = some r) (hK : Then E W w0 K r next) : o.wp P a w next Q := by
  cases L with
  | mk tm ob nx =>
    simp only [newOb] at h
    let v : Value := .pointer (some ⟨w.heap.size, 0, none⟩)
    have X0 : Ext Z w pl nx Z (w.alloc (.cells u.cells T)) pl nx := Ext.of_chg (fun b i hz => Below.heap_alloc w _ _ (S.mem.zlt b i hz))
    have X := X0.upd rfl v
    have hpl : upd pl nx v nx = v := upd_same _ _ _
    obtain ⟨M, X⟩ := S.mem.newP (.cells [] ls) (.cells u.cells T) v rfl (Fr.of_grown (World.grownBy_alloc w _ none) S.mem.fr.size (fun k hk => by cases hk)) (fun k hk => Below.heap_alloc w _ _ hk)
      ⟨w.heap.size, T, u.cells.toList, hpl, by rw [heap_alloc_new, Array.toArray_toList], hl.mono X⟩
    exact op_value hrun h (S.at X M rfl) ⟨⟨Nat.lt_succ_self _, w.heap.size, hpl, rfl⟩, rfl⟩ hK
theorem op_box {T : TypeId} {x : Operand} (ho : o.op = .box T x) (h : semOp E o L K = some r) (S : Sat E.N W w0 Z pl L a w) (hK : Then E W w0 K r next) : o.wp P a w next Q := by
  simp only [semOp, ho] at h
  split at h
  · rename_i s hs
    refine op_newvar (T := T) (u := a.eval x) ?_ S (evalO_ok S hs).cells h hK
    unfold execOp; rw [ho]; rfl
  · cases h
theorem svLs_ok {nx : Nat} {agg : Bool} {ls : List (Leaf G)} {s : SV G} (h : svLs agg ls = some s) {cs : List Value} (hl : LsOK Z w pl nx ls cs) : ∃ u, SVOK Z w pl nx s u ∧ (agg = true → u = .agg cs.toArray) ∧ (agg = false → cs = [u]) ∧ s.ls = ls := by
  cases agg with
  | true => injection h with h; subst h; exact ⟨.agg cs.toArray, ⟨cs, rfl, hl⟩, fun _ => rfl, fun e => (by cases e), rfl⟩
  | false =>
    simp only [svLs] at h
    split at h
    · rename_i l
      injection h with h
      subst h
      obtain ⟨u, us, rfl, h1, h2⟩ := hl
      have : us = [] := h2
      subst this
      exact ⟨u, h1, fun e => (by cases e), fun _ => rfl, rfl⟩
    · cases h
theorem cells_svLs {nx : Nat} {agg : Bool} {ls : List (Leaf G)} {s : SV G} (h : svLs agg ls = some s) {cs : List Value} {u : Value} (hu : SVOK Z w pl nx s u) (h1 : agg = true → u = .agg cs.toArray) (h2 : agg = false → cs = [u]) : u.cells.toList = cs := by
  cases agg with
  | true => rw [h1 rfl]; rfl
  | false =>
    simp only [svLs] at h
    split at h
    · injection h with h; subst h
      rw [h2 rfl]
      exact cells_one hu.2
    · cases h
theorem op_alloc (hs : SigOK G) (ht : TabOK P G) {T : TypeId} (ho : o.op = .alloc T) (h : semOp E o L K = some r) (S : Sat E.N W w0 Z pl L a w) (hK : Then E W w0 K r next) : o.wp P a w next Q := by
  simp only [semOp, ho] at h
  split at h
  · rename_i ti hti
    split at h
    · rename_i ls hls
      have t := ht T ti hti
      have hz : zls (G := G) ti.leaves ≠ none := by rw [hls]; exact Option.some_ne_none _
      obtain ⟨i, hi, hsz, hzr⟩ := t.size
      have hc := zval_cells t.one hz
      have hrun : (execOp a.eval o).run P w = .ok (.value (.pointer (some ⟨w.heap.size, 0, none⟩))) (w.alloc (.cells (zval ti).cells T)) := by
        unfold execOp; rw [ho]
        refine run_v _ ?_
        unfold Instr.alloc
        rw [Sem.run_bind, run_zero hi (hzr hz)]
        rfl
      split at h
      · split at h
        · rename_i ty s hty hsv
          split at h
          · rename_i v L' hv
            split at h
            · rename_i x hx
              obtain ⟨u, q1, q2, q3, _⟩ := svLs_ok (Z := Z) (w := w) (pl := pl) (nx := L.nx) hsv (zls_ok hls).1
              obtain ⟨Z', T1, _, R1⟩ := svTV_ok hs hv S.mem q1
              have R1 := R1.cast hx
              rw [cells_svLs hsv q1 q2 q3, ← hc] at R1
              have S1 := T1.sat S
              obtain ⟨hcz, _⟩ := t.lv ty hty
              cases L' with
              | mk tm ob nx =>
              simp only [newOb] at h
              let v' : Value := .slice (some ⟨w.heap.size, 0, none⟩) 1 1
              have hpl : upd pl nx v' nx = v' := upd_same _ _ _
              have X := (Ext.of_chg (Z := Z') (pl := pl) (nx := nx) (fun b i hz => Below.heap_alloc w (.cells (zval ti).cells T) b (S1.mem.zlt b i hz))).upd rfl v'
              have hsize : (zval ti).cells.size = 1 * G.csz ty := by
                rw [← Array.length_toList, hc, List.length_map, Nat.one_mul, hcz]
              have own := World.ownsRow_lit (e := T) (size := G.csz ty) w (zval ti).cells 1 (Nat.zero_le _) (by decide) hsize
              obtain ⟨M, X⟩ := S1.mem.newP (w' := w.alloc (.cells (zval ti).cells T)) (.arr T ty [x]) (.cells (zval ti).cells T) v' rfl (Fr.of_grown (World.grownBy_alloc w _ none) S1.mem.fr.size (fun k hk => by cases hk)) (fun k hk => Below.heap_alloc w _ _ hk)
                ⟨_, by rw [hpl]; exact own, ⟨(zval ti).cells.toList, [], by simp, by rw [Array.length_toList, hsize, Nat.one_mul], R1.mono X.hZ X.hw, rfl⟩⟩
              exact op_value hrun h (S1.at X M rfl) ⟨⟨Nat.lt_succ_self _, w.heap.size, 1, 1, hpl, by decide, by simp⟩, rfl⟩ hK
            · cases h
          · cases h
        · cases h
      · exact op_newvar (T := T) (u := zval ti) hrun S (by rw [hc]; exact (zls_ok hls).1) h hK
    · cases h
  · cases h

/-- A variable read. -/
theorem run_loadAt (t : TI) {T : TypeId} (tk : TOK P G T t) {b off : Nat} {cs : List Value} (hc : ∀ j v, cs[j]? = some v → w.cell? ⟨b, off + j, none⟩ = some v) (hn : cs.length = t.leaves.length) :
    ∃ u, (Instr.loadAt T (.pointer (some ⟨b, off, none⟩))).run P w = .ok u w ∧ (t.agg = true → u = .agg cs.toArray) ∧ (t.agg = false → cs = [u]) := by
  obtain ⟨d, hd, ha⟩ := tk.agg
  obtain ⟨i, hi, hsz, _⟩ := tk.size
  have hadd : ∀ j, (⟨b, off, none⟩ : Addr).add j = ⟨b, off + j, none⟩ := by intro j; unfold Addr.add; split <;> simp_all
  unfold Instr.loadAt
  simp only [Instr.sureAddr, Sem.run_bind, Sem.run_pure, Result.andThen_ok, loadVar, run_isAgg hd]
  cases hagg : t.agg with
  | true =>
    rw [ha, hagg]
    refine ⟨.agg cs.toArray, ?_, fun _ => rfl, fun e => by cases e⟩
    have hl := run_loadCells_list (P := P) w ⟨b, off, none⟩ cs (fun j v hj => by rw [hadd]; exact hc j v hj)
    rw [if_pos rfl, Sem.run_bind, run_size hi]
    simp only [Result.andThen_ok]
    rw [hsz, ← hn, Sem.run_bind, hl]
    rfl
  | false =>
    rw [ha, hagg]
    obtain ⟨l, hl⟩ := tk.one hagg
    rw [hl] at hn
    cases cs with
    | nil => cases hn
    | cons u us =>
      cases us with
      | cons _ _ => simp at hn
      | nil =>
        refine ⟨u, ?_, fun e => (by cases e), fun _ => rfl⟩
        have := hc 0 u rfl
        rw [if_neg (by decide), run_load]
        rw [show (⟨b, off, none⟩ : Addr) = ⟨b, off + 0, none⟩ from rfl, this]

theorem LsOK.get {nx : Nat} : ∀ {ls : List (Leaf G)} {vs : List Value}, LsOK Z w pl nx ls vs → ∀ (j : Nat) (u : Value), vs[j]? = some u → ∃ l, ls[j]? = some l ∧ LfOK Z w pl nx l u
  | [], _, h, j, u, hu => by rw [show _ = _ from h] at hu; simp at hu
  | l :: ls, _, ⟨v, vs', e, h1, h2⟩, 0, u, hu => by subst e; injection hu with hu; subst hu; exact ⟨l, rfl, h1⟩
  | l :: ls, _, ⟨v, vs', e, h1, h2⟩, j + 1, u, hu => by subst e; exact LsOK.get h2 j u (by simpa using hu)
theorem ble_iff {a b : Nat} : Nat.ble a b = true ↔ a ≤ b := ⟨Nat.le_of_ble_eq_true, Nat.ble_eq_true_of_le⟩
theorem row_cells {b : Nat} {T : TypeId} {cs : List Value} (hg : w.heap[b]? = some (.cells cs.toArray T (0, 0))) (j : Nat) (v : Value) (h : cs[j]? = some v) : w.cell? ⟨b, j, none⟩ = some v := by
  simp [World.cell?, hg, h]

end Go.Proofs.YtmcbhnbemhfifaaDoor.RX
