/- More operations: those that compute; elements and fields; parts of texts and rows. Conditions: SigOK, TabOK. -/
import Derived.Test.YtmcbhnbemhfifaaDoorRxS
import Derived.Lib.ConvBytes
namespace Go.Proofs.YtmcbhnbemhfifaaDoor.RX
open Go Go.RowKit
set_option autoImplicit false
variable {G : Sig} {R : Type} {P : Program} {W : Rights} {w0 w w' : World} {Z Z' : Nat → Nat → Prop} {pl pl' : Nat → Value} {N : Nat}
variable {E : Env G R} {o : Oper} {L : St G} {K : St G → Option R} {r : R} {a : Act} {next : Act → World → Prop} {Q : Exit → Act → World → Prop}

theorem po_val {t : Ty} {x : G.D t} {v : Value} (h : RepC G Z w (.po t) (some x) [v]) : ∃ b o cs, v = .pointer (some ⟨b, o, none⟩) ∧ cs.length = G.csz t ∧ (∀ (j : Nat) (u : Value), cs[j]? = some u → Z b (o + j) ∧ w.cell? ⟨b, o + j, none⟩ = some u) ∧ RepC G Z w t x cs := by
  generalize hv : [v] = vs at h
  generalize hy : (some x : G.D (.po t)) = y at h
  cases h with
  | pn => cases hy
  | ps _ x' b o cs hl hz h =>
    injection hv with hv
    injection hy with hy
    subst hy
    exact ⟨b, o, cs, hv, hl, hz, h⟩
theorem po_nil {t : Ty} {v : Value} (h : RepC G Z w (.po t) none [v]) : v = .pointer none := by
  generalize hv : [v] = vs at h
  generalize hy : (none : G.D (.po t)) = y at h
  cases h with
  | pn => injection hv
  | ps _ x' b o cs hl hz h => cases hy
theorem op_nilCheck {x : Operand} (ho : o.op = .nilCheck x) (h : semOp E o L K = some r) (S : Sat E.N W w0 Z pl L a w) (hK : Then E W w0 K r next) : o.pu P a w next := by
  simp only [semOp, ho] at h
  split at h
  · rename_i i off hx
    have := evalO_ok S hx
    obtain ⟨⟨_, b, _, hv⟩, _⟩ := this
    exact op_pure (fun w' => by unfold execOp; rw [ho]; simp only [hv]; rfl) h S (show DVOK _ _ _ _ (DV.sv (SV.one (Leaf.ptr i off))) (a.eval x) from evalO_ok S hx |> fun q => by exact q) hK |> fun q => by first | exact q | (rw [hv] at q; exact q)
  · rename_i t v hx
    have q := evalO_ok S hx
    obtain ⟨⟨b, off, cs, hv, _⟩, _⟩ := q
    have q := evalO_ok S hx
    exact op_pure (u := a.eval x) (fun w' => by unfold execOp; rw [ho]; simp only [hv]; rfl) h S q hK
  · rename_i i n z off hx
    have q := evalO_ok S hx
    obtain ⟨⟨_, b, n', c, _, _, hv⟩, _⟩ := q
    have q := evalO_ok S hx
    exact op_pure (u := a.eval x) (fun w' => by unfold execOp; rw [ho]; simp only [hv]; rfl) h S q hK
  · rename_i f caps hx
    have q := evalO_ok S hx
    obtain ⟨⟨_, hv⟩, _⟩ := q
    have q := evalO_ok S hx
    exact op_pure (u := a.eval x) (fun w' => by unfold execOp; rw [ho]; simp only [hv]; rfl) h S q hK
  · rename_i t y hx
    have q := evalO_ok S hx
    have h : (show Option (G.D t) from y).bind (fun y => out E o (.sv (.one (.rptr t y))) L K) = some r := h
    obtain ⟨z, hz, h⟩ := Option.bind_eq_some_iff.1 h
    have q1 : RepC G Z w (.po t) (show Option (G.D t) from y) [a.eval x] := q.1
    rw [hz] at q1
    obtain ⟨b, off, cs, hv, hl, hc, hr⟩ := po_val q1
    exact op_pure (u := a.eval x) (fun w' => by unfold execOp; rw [ho]; simp only [hv]; rfl) h S (show LfOK _ _ _ _ _ _ from ⟨⟨b, off, cs, hv, hl, hc, hr⟩, q.2⟩) hK
  · cases h

theorem kn_eq {k k' : IntKind} (h : Nat.beq (kn k) (kn k') = true) : k = k' := kn_inj (Nat.eq_of_beq_eq_true h)
theorem int_val {nx : Nat} {k : IntKind} {x : Int} {v : Value} (h : LfOK Z w pl nx (Leaf.val (G := G) (.int k) x) v) : v = .int k x := by
  have h1 : RepC G Z w (.int k) x [v] := h.1
  cases h1 with | int => rfl
theorem str_val {nx : Nat} {x : ByteArray} {v : Value} (h : LfOK Z w pl nx (Leaf.val (G := G) .str x) v) : v = .string x := by
  have h1 : RepC G Z w .str x [v] := h.1
  cases h1 with | str => rfl
theorem bool_val {nx : Nat} {x : Bool} {v : Value} (h : LfOK Z w pl nx (Leaf.val (G := G) .bool x) v) : v = .bool x := by
  have h1 : RepC G Z w .bool x [v] := h.1
  cases h1 with | bool => rfl
theorem val_int {nx : Nat} (k : IntKind) (x : Int) : LfOK Z w pl nx (Leaf.val (G := G) (.int k) x) (.int k x) := ⟨.int k x, rfl⟩
theorem val_str {nx : Nat} (x : ByteArray) : LfOK Z w pl nx (Leaf.val (G := G) .str x) (.string x) := ⟨.str x, rfl⟩
theorem prop_val {nx : Nat} (p : Prop) (d : Decidable p) : LfOK Z w pl nx (Leaf.prop (G := G) p d) (.bool (@decide p d)) := ⟨rfl, rfl⟩
theorem bval_ok {nx : Nat} {l : Leaf G} {b : Bool} (h : bval l = some b) {v : Value} (hv : LfOK Z w pl nx l v) : v = .bool b := by
  cases l with
  | kb b' => injection h with h; subst h; exact hv.1
  | prop p d => injection h with h; subst h; exact hv.1
  | val t x =>
    cases t with
    | bool => injection h with h; subst h; exact bool_val hv
    | _ => cases h
  | _ => cases h
theorem run_eqGuard {op : BinOp} {t : TypeId} {x y : Operand} {u v : Value} (h1 : u.oneCell' = true) (h2 : u ≠ .nilIface) : (eqGuard op t x y u v).run P w = .ok () w := by
  cases op <;> cases u <;> first | rfl | (exact absurd rfl h2) | cases h1
theorem beq_dec (x y : List UInt8) : (x == y) = decide (x = y) := Bool.eq_iff_iff.2 (by simp)
theorem run_bin {op : BinOp} {t t' : TypeId} {x y : Operand} {v : Value} (ho : o.op = .binOp op t x y t') (h1 : (a.eval x).oneCell' = true) (h2 : a.eval x ≠ .nilIface) (h : ∀ w', (binOp op t (a.eval x) (a.eval y)).run P w' = .ok v w') : ∀ w', (execOp a.eval o).run P w' = .ok (.value v) w' := by
  intro w'
  unfold execOp
  rw [ho]
  refine run_v _ ?_
  rw [Sem.run_bind, run_eqGuard h1 h2]
  exact h w'
theorem binI_ok {nx : Nat} {op : BinOp} {k : IntKind} {x y : Int} {Kl : Leaf G → Option R} (h : binI op k x y Kl = some r) (t : TypeId) : ∃ l v, Kl l = some r ∧ LfOK Z w pl nx l v ∧ ∀ w', (binOp op t (.int k x) (.int k y)).run P w' = .ok v w' := by
  unfold binI at h
  cases op with
  | add => exact ⟨_, _, h, val_int k _, fun w' => by simp [binOp, Op.intArith]⟩
  | sub => exact ⟨_, _, h, val_int k _, fun w' => by simp [binOp, Op.intArith]⟩
  | mul => exact ⟨_, _, h, val_int k _, fun w' => by simp [binOp, Op.intArith]⟩
  | quo =>
    simp only at h
    split at h
    · cases h
    · rename_i hy; exact ⟨_, _, h, val_int k _, fun w' => by simp [binOp, Op.intDiv, hy]⟩
  | rem =>
    simp only at h
    split at h
    · cases h
    · rename_i hy; exact ⟨_, _, h, val_int k _, fun w' => by simp [binOp, Op.intDiv, hy]⟩
  | xor => exact ⟨_, _, h, val_int k _, fun w' => by simp [binOp, Op.intBits]⟩
  | and => exact ⟨_, _, h, val_int k _, fun w' => by simp [binOp, Op.intBits]⟩
  | or => exact ⟨_, _, h, val_int k _, fun w' => by simp [binOp, Op.intBits]⟩
  | eql => exact ⟨_, _, h, prop_val _ _, fun w' => by simp [binOp, Op.intCmp]; rfl⟩
  | neq => exact ⟨_, _, h, prop_val _ _, fun w' => by simp [binOp, Op.intCmp]; rfl⟩
  | lss => exact ⟨_, _, h, prop_val _ _, fun w' => by simp [binOp, Op.intCmp]⟩
  | leq => exact ⟨_, _, h, prop_val _ _, fun w' => by simp [binOp, Op.intCmp]⟩
  | gtr => exact ⟨_, _, h, prop_val _ _, fun w' => by simp [binOp, Op.intCmp]⟩
  | geq => exact ⟨_, _, h, prop_val _ _, fun w' => by simp [binOp, Op.intCmp]⟩
  | shl => cases h
  | shr => cases h
  | andNot => cases h
theorem binS_ok {nx : Nat} {op : BinOp} {x y : ByteArray} {Kl : Leaf G → Option R} (h : binS op x y Kl = some r) (t : TypeId) : ∃ l v, Kl l = some r ∧ LfOK Z w pl nx l v ∧ ∀ w', (binOp op t (.string x) (.string y)).run P w' = .ok v w' := by
  unfold binS at h
  cases op with
  | add =>
    simp only at h
    split at h
    · rename_i hsz
      refine ⟨_, _, h, val_str _, fun w' => ?_⟩
      have : ¬ ((x.size + y.size : Nat) : Int) > IntKind.i64.max := by
        have : IntKind.i64.max = 9223372036854775807 := by decide
        rw [this]; omega
      simp only [binOp, Op.stringOp]
      rw [if_neg this]
      rfl
    · cases h
  | eql => exact ⟨_, _, h, prop_val _ _, fun w' => by simp only [binOp, Op.stringOp, beq_dec]; rfl⟩
  | neq =>
    refine ⟨_, _, h, prop_val _ _, fun w' => ?_⟩
    simp only [binOp, Op.stringOp, beq_dec, Sem.run_pure]
    congr 2
    by_cases e : x.toList = y.toList <;> simp [e]
  | _ => cases h
theorem run_eql {T : TypeId} {u v : Value} {b : Bool} (hb : binOp .eql T u v = (do pure (.bool (← Op.equal T u v)))) (h : ∀ d, (Op.equalIn (d + 1) T u v).run P w = .ok b w) : (binOp .eql T u v).run P w = .ok (.bool b) w := by
  rw [hb, Sem.run_bind, show (Op.equal T u v).run P w = .ok b w from h 9999]; rfl
theorem run_neq {T : TypeId} {u v : Value} {b : Bool} (hb : binOp .neq T u v = (do pure (.bool (!(← Op.equal T u v))))) (h : ∀ d, (Op.equalIn (d + 1) T u v).run P w = .ok b w) : (binOp .neq T u v).run P w = .ok (.bool !b) w := by
  rw [hb, Sem.run_bind, show (Op.equal T u v).run P w = .ok b w from h 9999]; rfl
theorem eqK_ok (ht : TabOK P G) {nx : Nat} {op : BinOp} {T : TypeId} {x y : SV G} {l : Leaf G} (h : eqK (G.tab T) op x y = some l) {u v : Value} (hu : SVOK Z w pl nx x u) (hv : SVOK Z w pl nx y v) :
    u.oneCell' = true ∧ u ≠ .nilIface ∧ ∃ q, LfOK Z w pl nx l q ∧ ∀ w', (binOp op T u v).run P w' = .ok q w' := by
  unfold eqK at h
  split at h
  · rename_i la lb
    have one := hu.2
    split at h
    · rename_i a1 a2 a3 hT
      have tk := ht T _ hT
      have hb := tk.bool rfl
      split at h
      · rename_i p q hp hq
        have e1 := bval_ok hp hu
        have e2 := bval_ok hq hv
        subst e1 e2
        refine ⟨rfl, (by intro e; cases e), ?_⟩
        split at h
        · injection h with h; subst h
          refine ⟨_, prop_val _ _, fun w' => ?_⟩
          rw [run_eql (b := p == q) rfl (fun d => by simp only [Op.equalIn, Sem.run_bind, run_und hb, Result.andThen_ok, Sem.run_pure])]
          cases p <;> cases q <;> rfl
        · injection h with h; subst h
          refine ⟨_, prop_val _ _, fun w' => ?_⟩
          rw [run_neq (b := p == q) rfl (fun d => by simp only [Op.equalIn, Sem.run_bind, run_und hb, Result.andThen_ok, Sem.run_pure])]
          cases p <;> cases q <;> rfl
        · cases h
      · cases h
    · rename_i a1 a2 a3 _ hT
      obtain ⟨e, hb⟩ := (ht T _ hT).ptr rfl
      split at h
      · have e1 : u = .pointer none := hu.1
        have e2 : v = .pointer none := hv.1
        subst e1 e2
        refine ⟨rfl, (by intro e; cases e), ?_⟩
        split at h
        · injection h with h; subst h
          exact ⟨.bool true, ⟨rfl, rfl⟩, fun w' => run_eql (b := true) rfl (fun d => by simp [Op.equalIn, run_und hb])⟩
        · injection h with h; subst h
          exact ⟨.bool false, ⟨rfl, rfl⟩, fun w' => run_neq (b := true) rfl (fun d => by simp [Op.equalIn, run_und hb])⟩
        · cases h
      · obtain ⟨_, b, _, e1⟩ := hu.1
        have e2 : v = .pointer none := hv.1
        subst e1 e2
        refine ⟨rfl, (by intro e; cases e), ?_⟩
        split at h
        · injection h with h; subst h
          exact ⟨.bool false, ⟨rfl, rfl⟩, fun w' => run_eql (b := false) rfl (fun d => by simp [Op.equalIn, run_und hb])⟩
        · injection h with h; subst h
          exact ⟨.bool true, ⟨rfl, rfl⟩, fun w' => run_neq (b := false) rfl (fun d => by simp [Op.equalIn, run_und hb])⟩
        · cases h
      · obtain ⟨b, off, _, e1, _⟩ := hu.1
        have e2 : v = .pointer none := hv.1
        subst e1 e2
        refine ⟨rfl, (by intro e; cases e), ?_⟩
        split at h
        · injection h with h; subst h
          exact ⟨.bool false, ⟨rfl, rfl⟩, fun w' => run_eql (b := false) rfl (fun d => by simp [Op.equalIn, run_und hb])⟩
        · injection h with h; subst h
          exact ⟨.bool true, ⟨rfl, rfl⟩, fun w' => run_neq (b := false) rfl (fun d => by simp [Op.equalIn, run_und hb])⟩
        · cases h
      · rename_i t y
        have e2 : v = .pointer none := hv.1
        have q1 : RepC G Z w (.po t) (show Option (G.D t) from y) [u] := hu.1
        subst e2
        cases hy : (show Option (G.D t) from y) with
        | none =>
          rw [hy] at q1
          have e1 := po_nil q1
          subst e1
          have hy : y = none := hy
          subst hy
          refine ⟨rfl, (by intro e; cases e), ?_⟩
          split at h
          · injection h with h; subst h
            exact ⟨.bool true, prop_val _ _, fun w' => run_eql (b := true) rfl (fun d => by simp [Op.equalIn, run_und hb])⟩
          · injection h with h; subst h
            exact ⟨.bool false, prop_val _ _, fun w' => run_neq (b := true) rfl (fun d => by simp [Op.equalIn, run_und hb])⟩
          · cases h
        | some z =>
          rw [hy] at q1
          obtain ⟨b, off, _, e1, _⟩ := po_val q1
          subst e1
          have hy : y = some z := hy
          subst hy
          refine ⟨rfl, (by intro e; cases e), ?_⟩
          split at h
          · injection h with h; subst h
            exact ⟨.bool false, prop_val _ _, fun w' => run_eql (b := false) rfl (fun d => by simp [Op.equalIn, run_und hb])⟩
          · injection h with h; subst h
            exact ⟨.bool true, prop_val _ _, fun w' => run_neq (b := false) rfl (fun d => by simp [Op.equalIn, run_und hb])⟩
          · cases h
      · cases h
    · rename_i a1 a2 a3 _ hT
      obtain ⟨_, _, _, hb⟩ := (ht T _ hT).fn rfl
      split at h
      · have e1 : u = .nilFunc := hu.1
        have e2 : v = .nilFunc := hv.1
        subst e1 e2
        refine ⟨rfl, (by intro e; cases e), ?_⟩
        split at h
        · injection h with h; subst h
          exact ⟨.bool true, ⟨rfl, rfl⟩, fun w' => run_eql (b := true) rfl (fun d => by simp [Op.equalIn, run_und hb])⟩
        · injection h with h; subst h
          exact ⟨.bool false, ⟨rfl, rfl⟩, fun w' => run_neq (b := true) rfl (fun d => by simp [Op.equalIn, run_und hb])⟩
        · cases h
      · have e1 := hu.1.2
        have e2 : v = .nilFunc := hv.1
        subst e1 e2
        refine ⟨rfl, (by intro e; cases e), ?_⟩
        split at h
        · injection h with h; subst h
          exact ⟨.bool false, ⟨rfl, rfl⟩, fun w' => run_eql (b := false) rfl (fun d => by simp [Op.equalIn, run_und hb])⟩
        · injection h with h; subst h
          exact ⟨.bool true, ⟨rfl, rfl⟩, fun w' => run_neq (b := false) rfl (fun d => by simp [Op.equalIn, run_und hb])⟩
        · cases h
      · cases h
    · cases h
  · cases h
theorem op_binOp (ht : TabOK P G) {op : BinOp} {T T' : TypeId} {x y : Operand} (ho : o.op = .binOp op T x y T') (h : semOp E o L K = some r) (S : Sat E.N W w0 Z pl L a w) (hK : Then E W w0 K r next) : o.pu P a w next := by
  simp only [semOp, ho] at h
  split at h
  · rename_i s s' hx hy
    have qx := evalO_ok S hx
    have qy := evalO_ok S hy
    unfold binK at h
    split at h
    · split at h
      · rename_i k m k' n hk
        have e := kn_eq hk
        subst e
        obtain ⟨l, v, h1, h2, h3⟩ := binI_ok (P := P) (w := w) (Z := Z) (pl := pl) (nx := L.nx) h T
        have ex := int_val qx
        have ey := int_val qy
        exact op_pure (run_bin ho (by rw [ex]; rfl) (by rw [ex]; intro e; cases e) (by rw [ex, ey]; exact h3)) h1 S h2 hK
      · cases h
    · obtain ⟨l, v, h1, h2, h3⟩ := binS_ok (P := P) (w := w) (Z := Z) (pl := pl) (nx := L.nx) h T
      have ex := str_val qx
      have ey := str_val qy
      exact op_pure (run_bin ho (by rw [ex]; rfl) (by rw [ex]; intro e; cases e) (by rw [ex, ey]; exact h3)) h1 S h2 hK
    · split at h
      · rename_i l hl
        obtain ⟨h1, h2, q, h3, h4⟩ := eqK_ok ht hl qx qy
        exact op_pure (run_bin ho h1 h2 h4) h S h3 hK
      · cases h
  · cases h
theorem op_unOp {op : UnOp} {T : TypeId} {x : Operand} (ho : o.op = .unOp op T x) (h : semOp E o L K = some r) (S : Sat E.N W w0 Z pl L a w) (hK : Then E W w0 K r next) : o.pu P a w next := by
  have exe : ∀ u, (∀ w', (Op.unary op (a.eval x)).run P w' = .ok u w') → ∀ w', (execOp a.eval o).run P w' = .ok (.value u) w' := by
    intro u hu w'; unfold execOp; rw [ho]; exact run_v _ (hu w')
  cases op with
  | not =>
    simp only [semOp, ho] at h
    split at h
    · rename_i b hx
      have e : a.eval x = .bool b := (evalO_ok S hx).1
      exact op_pure (exe (.bool !b) (fun w' => by rw [e]; rfl)) h S ⟨by cases b <;> rfl, rfl⟩ hK
    · rename_i p d hx
      have e : a.eval x = .bool (@decide p d) := (evalO_ok S hx).1
      refine op_pure (exe (.bool !(@decide p d)) (fun w' => by rw [e]; rfl)) h S ⟨?_, rfl⟩ hK
      show Value.bool _ = Value.bool _
      congr 1
      cases d with
      | isTrue hp => rfl
      | isFalse hp => rfl
    · rename_i b hx
      have e := bool_val (evalO_ok S hx)
      refine op_pure (exe (.bool !b) (fun w' => by rw [e]; rfl)) h S ⟨?_, rfl⟩ hK
      show Value.bool _ = Value.bool _
      congr 1
      have : ∀ b : Bool, (!b) = decide (¬ b = true) := by intro b; cases b <;> rfl
      exact this b
    · cases h
  | neg =>
    simp only [semOp, ho] at h
    split at h
    · rename_i k n hx
      have e := int_val (evalO_ok S hx)
      exact op_pure (exe (.int k (k.wrap (0 - (show Int from n)))) (fun w' => by rw [e]; rfl)) h S (val_int k _) hK
    · cases h
  | _ => simp [semOp, ho] at h
theorem run_conv {T T' : TypeId} {x : Operand} (ho : o.op = .convert T T' x) {u : Value} (hu : (convert T T' (a.eval x)).run P w = .ok u w') : (execOp a.eval o).run P w = .ok (.value u) w' := by
  unfold execOp; rw [ho]; exact run_v _ hu
theorem op_convert {T T' : TypeId} {x : Operand} (ht : TabOK P G) (hk : ∃ l1 l2 l3 k, G.tab T = some ⟨l1, l2, l3, some (.int k)⟩) (ho : o.op = .convert T T' x) (h : semOp E o L K = some r) (S : Sat E.N W w0 Z pl L a w) (hK : Then E W w0 K r next) : o.pu P a w next := by
  obtain ⟨l1, l2, l3, k0, hk⟩ := hk
  simp only [semOp, ho] at h
  split at h
  · rename_i k n hx
    split at h
    · rename_i k1 _ _ _ k2 e1 e2
      have e := int_val (evalO_ok S hx)
      have i1 := (ht T _ e1).int k1 rfl
      have i2 := (ht T' _ e2).int k2 rfl
      exact op_pure (fun w' => run_conv ho (u := .int k2 (k2.wrap n)) (by rw [e]; simp [convert, run_und i1, run_und i2, Conv.intToInt])) h S (val_int k2 _) hK
    · cases h
  · rename_i s hx
    rw [hk] at h
    split at h
    · rename_i e1 e2; cases e1
    · rename_i e1 e2; cases e1
    · cases h
  · rw [hk] at h
    split at h
    · rename_i e1 e2; cases e1
    · cases h
  · cases h
theorem bytesOf_length (s : ByteArray) : (bytesOf s).length = s.size := by simp [bytesOf]
theorem cap_le (w : World) (n : Nat) (e : TypeId) : n ≤ grownCap w n 0 e := by unfold grownCap; simp [Question.cut]
theorem bytes_rep (w : World) (el : TypeId) (s : ByteArray) (Z : Nat → Nat → Prop) : RepC G (fun b i => Z b i ∨ b = w.heap.size) (Lib.bytesWorld w el s) (.sl el (.int .u8)) (bytesOf s) [.slice (some ⟨w.heap.size, 0, none⟩) s.size (grownCap w s.size 0 el)] := by
  have hlen := bytesOf_length s
  have key : RepC G (fun b i => Z b i ∨ b = w.heap.size) (Lib.bytesWorld w el s) (.sl el (.int .u8)) (bytesOf s) [.slice (some ⟨w.heap.size, 0, none⟩) (bytesOf s).length (grownCap w s.size 0 el)] := by
    refine .sl el (.int .u8) _ _ _ w.heap.size 0 (fun i => [.int .u8 ((bytesOf s).getD i 0)]) ?_ (.inr rfl) (fun i hi => rfl) (fun i j v hi hj => ?_) (fun i hi => ?_)
    · show (bytesOf s).length ≤ _
      rw [hlen]
      exact cap_le w _ el
    · have hi : i < (bytesOf s).length := hi
      rw [hlen] at hi
      cases j with
      | zero =>
        simp only [List.getElem?_cons_zero, Option.some.injEq] at hj
        subst hj
        refine ⟨.inr rfl, ?_⟩
        have := Lib.bytesWorld_cell w el s i hi
        simp only [Sig.csz, Nat.mul_one, Nat.zero_add, Nat.add_zero]
        rw [this]
        have hd : i < s.data.size := hi
        simp only [bytesOf, List.getD, List.getElem?_map, Array.getElem?_toList, Option.some.injEq, Value.int.injEq, true_and]
        rw [Array.getElem?_eq_getElem hd]
        rfl
      | succ j => simp at hj
    · have hi : i < (bytesOf s).length := hi
      have e : (bytesOf s)[i] = (bytesOf s).getD i 0 := by simp [List.getD, hi]
      show RepC G _ _ (.int .u8) ((bytesOf s)[i] : Int) _
      rw [e]
      exact .int .u8 _
  rw [hlen] at key
  exact key
theorem intOf_ok (S : Sat N W w0 Z pl L a w) {x : Operand} {n : Int} (h : intOf (evalO L x) = some n) : ∃ k, a.eval x = .int k n := by
  unfold intOf at h
  split at h
  · rename_i k m hx
    injection h with h
    subst h
    exact ⟨k, int_val (evalO_ok S hx)⟩
  · cases h
theorem bt_eq (s : ByteArray) (n : Int) (h : n.toNat < s.size) : s[n.toNat]? = some (s.data.getD n.toNat 0) := by
  have hd : n.toNat < s.data.size := h
  show (if _h : n.toNat < s.size then some (s.data[n.toNat]) else none) = _
  rw [dif_pos h]
  congr 1
  simp only [Array.getD, hd, dif_pos]
  rfl
theorem op_index (ht : TabOK P G) {T : TypeId} {x i : Operand} (ho : o.op = .index T x i) (h : semOp E o L K = some r) (S : Sat E.N W w0 Z pl L a w) (hK : Then E W w0 K r next) : o.pu P a w next := by
  have exe : ∀ u, (∀ w', (Instr.index T (a.eval x) (a.eval i)).run P w' = .ok u w') → ∀ w', (execOp a.eval o).run P w' = .ok (.value u) w' := by
    intro u hu w'; unfold execOp; rw [ho]; exact run_v _ (hu w')
  simp only [semOp, ho] at h
  split at h
  · rename_i n hn
    obtain ⟨k, hi⟩ := intOf_ok S hn
    split at h
    · rename_i s hTT hx
      have hT := (ht T _ hTT).str rfl
      have e := str_val (evalO_ok S hx)
      split at h
      · rename_i h0
        split at h
        · rename_i h1
          have h1' : n.toNat < s.size := by omega
          refine op_pure (exe (.int .u8 (bt s n)) (fun w' => ?_)) h S (val_int .u8 _) hK
          rw [e, hi]
          simp only [Instr.index, asIntOf, Sem.run_bind, Sem.run_pure, Result.andThen_ok, run_und hT]
          rw [if_pos h0, bt_eq s n h1']
          rfl
        · cases h
      · cases h
    · cases h
  · cases h
end Go.Proofs.YtmcbhnbemhfifaaDoor.RX
