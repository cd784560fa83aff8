/- Operations in a row, code, functions: what the evaluator answers the function answers. Conditions: SigOK, TabOK, the contracts of what is called, the places told by patterns. -/
import Derived.Test.YtmcbhnbemhfifaaDoorRx17
import Derived.Test.YtmcbhnbemhfifaaDoorRxV6
namespace Go.Proofs.YtmcbhnbemhfifaaDoor.RX
open Go Go.RowKit
set_option autoImplicit false
variable {G : Sig} {R : Type} {P : Program} {W : Rights} {w0 w w' : World} {Z Z' : Nat → Nat → Prop} {pl pl' : Nat → Value} {N : Nat}
variable {E : Env G R} {o : Oper} {L : St G} {K : St G → Option R} {r : R} {a : Act} {next : Act → World → Prop} {Q : Exit → Act → World → Prop}

theorem toList_one {α : Type} {xs : Array α} {x : α} (h : xs.toList = [x]) : xs = #[x] := by cases xs; simpa using h
theorem toList_two {α : Type} {xs : Array α} {x y : α} (h : xs.toList = [x, y]) : xs = #[x, y] := by cases xs; simpa using h
theorem run_builtin {c : Call} {b : Builtin} (hc : c.callee = .builtin b) (ho : o.op = .call c) : ∃ cs, ∀ w, (execOp a.eval o).run P w = (builtin b c.argTypes o.type cs (c.args.map a.eval)).run P w := by
  refine ⟨c.args.map (fun | .const _ => true | _ => false), fun w => ?_⟩
  unfold execOp
  rw [ho]
  simp only [resolve, hc, Sem.run_bind, Sem.run_pure, Result.andThen_ok, invoke]
  rfl
theorem op_len (ht : TabOK P G) {c : Call} (ho : o.op = .call c) (hc : c.callee = .builtin .len) (h : semOp E o L K = some r) (S : Sat E.N W w0 Z pl L a w) (hK : Then E W w0 K r next) : o.pu P a w next := by
  obtain ⟨cs, exe⟩ := run_builtin (P := P) (a := a) hc ho
  simp only [semOp, ho, hc] at h
  split at h
  · rename_i x T h1 h2
    have e1 := toList_one h1
    have e2 := toList_one h2
    split at h
    · rename_i s hx
      split at h
      · rename_i n hn
        refine op_pure (u := .int .i64 n) (fun w' => ?_) h S (val_int .i64 n) hK
        rw [exe, e1, e2]
        have := run_len (P := P) (T' := o.type) ht S hx hn
        simp only [builtin, List.map_toArray, List.map_cons, List.map_nil]
        exact run_v _ (this w')
      · cases h
    · cases h
  · cases h
theorem op_call (hs : SigOK G) (ht : TabOK P G) (hct : ∀ f c, E.ct f = some c → c.Holds P f) {c : Call} (ho : o.op = .call c) (h : semOp E o L K = some r) (S : Sat E.N W w0 Z pl L a w) (hK : Then E W w0 K r next) : o.wp P a w next Q := by
  cases hc : c.callee with
  | invoke x m => simp [semOp, ho, hc] at h
  | builtin b =>
    obtain ⟨cs, exe⟩ := run_builtin (P := P) (a := a) hc ho
    cases b with
    | len => exact rd_wp (pu_rd (op_len ht ho hc h S hK))
    | append =>
      simp only [semOp, ho, hc] at h
      split at h
      · rename_i x y T T' h1 h2
        have e1 := toList_two h1
        have e2 := toList_two h2
        split at h
        · rename_i hTT
          have hTT := Nat.eq_of_beq_eq_true hTT
          subst hTT
          split at h
          · rename_i e t hT
            split at h
            · split at h
              · rename_i s i hx hy
                refine op_appendT hs ht hT S hx hy h (ty := o.type) (fun u w' hu => ?_) hK
                rw [exe, e1, e2]
                simp only [builtin, List.map_toArray, List.map_cons, List.map_nil]
                exact run_v _ hu
              · cases h
            split at h
            · rename_i s i hx hy
              split at h
              · rename_i ys xs L' hi hg
                split at h
                · rename_i hcap
                  refine op_append hs ht hT S hx hy hi hg hcap h (ty := o.type) (fun u w' hu => ?_) hK
                  rw [exe, e1, e2]
                  simp only [builtin, List.map_toArray, List.map_cons, List.map_nil]
                  exact run_v _ hu
                · cases h
              · cases h
            · cases h
          · cases h
        · cases h
      · cases h
    | _ => simp [semOp, ho, hc] at h
  | value x =>
    cases x with
    | func f =>
      simp only [semOp, ho, hc] at h
      split at h
      · rename_i ct hctf
        split at h
        · rename_i l hl
          obtain ⟨k1, k2⟩ := argsK_ok S hl
          have hrun : (execOp a.eval o).run P w = (callFunc f (c.args.toList.map a.eval).toArray).run P w := by
            unfold execOp
            rw [ho]
            have : c.args.map a.eval = (c.args.toList.map a.eval).toArray := by cases c.args; simp
            simp only [resolve, hc, Deferred.ofValue, Act.eval, Sem.run_bind, Sem.run_pure, Result.andThen_ok, invoke]
            rw [← this]
            simp only [Array.empty_append, Array.append_empty]
          exact op_callK hs (hct f ct hctf) (vals := c.args.toList.map a.eval) (by rw [k1, List.length_map]) (fun t d hg => by have := (k2 t d hg).2.2; rwa [Nat.sub_zero] at this) h S (fun v w' hh => by rw [hrun]; exact hh) (fun hh => by rw [hrun]; exact hh) hK
        · cases h
      · cases h
    | tmp t =>
      simp only [semOp, ho, hc] at h
      split at h
      · rename_i f caps hg
        split at h
        · rename_i ct hctf
          split at h
          · rename_i l hl
            obtain ⟨k1, k2⟩ := argsK_ok S hl
            obtain ⟨⟨q1, q2⟩, _⟩ := S.tm t _ hg
            obtain ⟨m1, m2⟩ := capsK_ok (G := G) (Z := Z) (w := w) (caps := caps) (j := len l) q1
            have hrun : (execOp a.eval o).run P w = (callFunc f (c.args.toList.map a.eval ++ caps.map pl).toArray).run P w := by
              unfold execOp
              rw [ho]
              have : c.args.map a.eval = (c.args.toList.map a.eval).toArray := by cases c.args; simp
              simp only [resolve, hc, Act.eval, q2, Deferred.ofValue, Sem.run_bind, Sem.run_pure, Result.andThen_ok, invoke]
              have e : (#[] : Array Value) ++ c.args.map a.eval ++ (caps.map pl).toArray = (c.args.toList.map a.eval ++ caps.map pl).toArray := by rw [this]; simp
              show (callFunc f (#[] ++ c.args.map a.eval ++ (caps.map pl).toArray)).run P w = _
              rw [e]
            refine op_callK hs (hct f ct hctf) (vals := c.args.toList.map a.eval ++ caps.map pl) (by rw [List.length_append, List.length_append, k1, m1, List.length_map, List.length_map]) (fun t' d hg' => ?_) h S (fun v w' hh => by rw [hrun]; exact hh) (fun hh => by rw [hrun]; exact hh) hK
            rcases get_app hg' with hg' | hg'
            · obtain ⟨_, n2, n3⟩ := k2 t' d hg'
              rw [Nat.sub_zero] at n3
              rw [List.getD_eq_getElem?_getD] at n3 ⊢
              rw [List.getElem?_append_left (by rw [List.length_map]; omega)]
              exact n3
            · obtain ⟨n1, n2⟩ := m2 t' d hg'
              rw [len_eq, k1] at n1 n2
              rw [List.getD_eq_getElem?_getD] at n2 ⊢
              rw [List.getElem?_append_right (by rw [List.length_map]; exact n1), List.length_map]
              exact n2
          · cases h
        · cases h
      · cases h
    | const v => simp [semOp, ho, hc] at h
    | global g => simp [semOp, ho, hc] at h
theorem semOp_ok (hs : SigOK G) (ht : TabOK P G) (hct : ∀ f c, E.ct f = some c → c.Holds P f) (h : semOp E o L K = some r) (S : Sat E.N W w0 Z pl L a w) (hK : Then E W w0 K r next) : o.wp P a w next Q := by
  cases ho : o.op with
  | move x => exact rd_wp (pu_rd (op_move (by simp only [semOp, ho] at h; exact h) (.inl ho) S hK))
  | assign x => exact rd_wp (pu_rd (op_move (by simp only [semOp, ho] at h; exact h) (.inr ho) S hK))
  | pick c x y => exact rd_wp (pu_rd (op_pick ho h S hK))
  | alloc T => exact op_alloc hs ht ho h S hK
  | box T x => exact op_box ho h S hK
  | makeSlice T l c => exact op_makeSlice hs ht ho h S hK
  | build T ps => exact rd_wp (pu_rd (op_build ht ho h S hK))
  | buildSlice T n ps => exact op_buildSlice hs ht ho h S hK
  | load T x => exact rd_wp (op_load hs ht ho h S hK)
  | store T x v => exact op_store hs ht ho h S hK
  | nilCheck x => exact rd_wp (pu_rd (op_nilCheck ho h S hK))
  | binOp op T x y T' => exact rd_wp (pu_rd (op_binOp ht ho h S hK))
  | unOp op T x => exact rd_wp (pu_rd (op_unOp ho h S hK))
  | convert T T' x => exact op_convert_any hs ht ho h S hK
  | makeFunc fn fst caps =>
    cases fn with
    | func f => exact op_makeFunc ho h S hK
    | _ => simp [semOp, ho] at h
  | slice T x lo hi mx => exact rd_wp (pu_rd (op_slice ht ho h S hK))
  | fieldAddr T x f => exact rd_wp (pu_rd (op_fieldAddr hs ht ho h S hK))
  | field T x f => exact rd_wp (pu_rd (op_field ht ho h S hK))
  | indexAddr T x i => exact rd_wp (pu_rd (op_indexAddr hs ht ho h S hK))
  | index T x i => exact rd_wp (pu_rd (op_index ht ho h S hK))
  | extract x i => exact rd_wp (pu_rd (op_extract ho h S hK))
  | call c => exact op_call hs ht hct ho h S hK
  | _ => simp [semOp, ho] at h
theorem semOp_pu (ht : TabOK P G) (hs : SigOK G) (hk : Nat.beq (kd G o.op) 2 = true) (h : semOp E o L K = some r) (S : Sat E.N W w0 Z pl L a w) (hK : Then E W w0 K r next) : o.pu P a w next := by
  cases ho : o.op with
  | move x => exact op_move (by simp only [semOp, ho] at h; exact h) (.inl ho) S hK
  | assign x => exact op_move (by simp only [semOp, ho] at h; exact h) (.inr ho) S hK
  | slice T x lo hi mx => exact op_slice ht ho h S hK
  | fieldAddr T x f => exact op_fieldAddr hs ht ho h S hK
  | pick c x y => exact op_pick ho h S hK
  | nilCheck x => exact op_nilCheck ho h S hK
  | binOp op T x y T' => exact op_binOp ht ho h S hK
  | unOp op T x => exact op_unOp ho h S hK
  | field T x f => exact op_field ht ho h S hK
  | indexAddr T x i => exact op_indexAddr hs ht ho h S hK
  | index T x i => exact op_index ht ho h S hK
  | extract x i => exact op_extract ho h S hK
  | build T ps => exact op_build ht ho h S hK
  | call c =>
    rw [ho] at hk
    simp only [kd] at hk
    split at hk
    · rename_i hc; exact op_len ht ho hc h S hK
    · cases hk
  | convert T T' x =>
    rw [ho] at hk
    simp only [kd] at hk
    split at hk
    · rename_i e; exact op_convert ht ⟨_, _, _, _, e⟩ ho h S hK
    · cases hk
  | _ => rw [ho] at hk; cases hk
theorem semOp_rd (ht : TabOK P G) (hs : SigOK G) (hk : Nat.ble 1 (kd G o.op) = true) (h : semOp E o L K = some r) (S : Sat E.N W w0 Z pl L a w) (hK : Then E W w0 K r next) : o.rd P a w next := by
  by_cases h2 : Nat.beq (kd G o.op) 2 = true
  · exact pu_rd (semOp_pu ht hs h2 h S hK)
  cases ho : o.op with
  | load T x => exact op_load hs ht ho h S hK
  | call c =>
    rw [ho] at hk h2
    simp only [kd] at hk h2
    split at hk
    · rename_i hc; simp [hc] at h2
    · cases hk
  | convert T T' x =>
    rw [ho] at hk h2
    simp only [kd] at hk h2
    split at hk
    · rename_i e; simp [e] at h2
    · cases hk
  | _ => first | (rw [ho] at hk; cases hk; done) | (rw [ho] at h2; exact absurd rfl h2)
end Go.Proofs.YtmcbhnbemhfifaaDoor.RX
