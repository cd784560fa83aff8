/- More operations: a store; what only computes. Conditions: SigOK, TabOK. -/
import Derived.Test.YtmcbhnbemhfifaaDoorRx9
namespace Go.Proofs.YtmcbhnbemhfifaaDoor.RX
open Go Go.RowKit
set_option autoImplicit false
variable {G : Sig} {R : Type} {P : Program} {W : Rights} {w0 w w' : World} {Z Z' : Nat → Nat → Prop} {pl pl' : Nat → Value} {N : Nat}
variable {E : Env G R} {o : Oper} {L : St G} {K : St G → Option R} {r : R} {a : Act} {next : Act → World → Prop} {Q : Exit → Act → World → Prop}

theorem setAt_length {α : Type} : ∀ (l : List α) (n : Nat) (ys : List α), (setAt l n ys).length = l.length
  | [], _, _ => rfl
  | _ :: _, 0, [] => rfl
  | _ :: _, _ + 1, [] => rfl
  | _ :: r, 0, _ :: ys => by simp [setAt, setAt_length r 0 ys]
  | _ :: r, n + 1, y :: ys => by simp [setAt, setAt_length r n (y :: ys)]
theorem setAt_get {α : Type} : ∀ (l : List α) (n : Nat) (ys : List α) (j : Nat), n + ys.length ≤ l.length → (setAt l n ys)[j]? = if n ≤ j ∧ j < n + ys.length then ys[j - n]? else l[j]?
  | [], n, ys, j, h => by
    have : ys = [] := List.eq_nil_of_length_eq_zero (by rw [List.length_nil] at h; omega)
    subst this
    simp [setAt]
  | _ :: _, 0, [], j, _ => by rw [if_neg (by simp)]; rfl
  | _ :: _, n + 1, [], j, _ => by rw [if_neg (by simp <;> omega)]; rfl
  | a :: r, 0, y :: ys, 0, _ => by simp [setAt]
  | a :: r, 0, y :: ys, j + 1, h => by
    simp only [setAt, List.getElem?_cons_succ]
    rw [setAt_get r 0 ys j (by simp at h ⊢; omega)]
    simp only [Nat.zero_le, true_and, Nat.zero_add, Nat.sub_zero, List.length_cons]
    by_cases hj : j < ys.length
    · rw [if_pos hj, if_pos (by omega)]; simp
    · rw [if_neg hj, if_neg (by omega)]
  | a :: r, n + 1, y :: ys, 0, _ => by simp [setAt]
  | a :: r, n + 1, y :: ys, j + 1, h => by
    simp only [setAt, List.getElem?_cons_succ]
    rw [setAt_get r n (y :: ys) j (by simp at h ⊢; omega)]
    by_cases hj : n ≤ j ∧ j < n + (y :: ys).length
    · rw [if_pos hj, if_pos (by omega), Nat.add_sub_add_right]
    · rw [if_neg hj, if_neg (by omega)]
theorem LsOK.intro {nx : Nat} : ∀ {ls : List (Leaf G)} {vs : List Value}, vs.length = ls.length → (∀ (j : Nat) (l : Leaf G) (u : Value), ls[j]? = some l → vs[j]? = some u → LfOK Z w pl nx l u) → LsOK Z w pl nx ls vs
  | [], vs, h, _ => List.eq_nil_of_length_eq_zero h
  | l :: ls, [], h, _ => by cases h
  | l :: ls, v :: vs, h, hj => ⟨v, vs, rfl, hj 0 l v rfl rfl, LsOK.intro (by simpa using h) (fun j l u h1 h2 => hj (j + 1) l u (by simpa using h1) (by simpa using h2))⟩
theorem LsOK.setAt {nx : Nat} {ls ys : List (Leaf G)} {vs us : List Value} (h : LsOK Z w pl nx ls vs) (k : LsOK Z w pl nx ys us) {n : Nat} (hn : n + ys.length ≤ ls.length) : LsOK Z w pl nx (RX.setAt ls n ys) (RX.setAt vs n us) := by
  have h1 := h.length
  have h2 := k.length
  refine LsOK.intro (by rw [setAt_length, setAt_length, h1]) (fun j l u hl hu => ?_)
  rw [setAt_get _ _ _ _ hn] at hl
  rw [setAt_get _ _ _ _ (by omega), h2] at hu
  split at hl
  · rename_i hj
    rw [if_pos hj] at hu
    obtain ⟨l', e, q⟩ := k.get _ _ hu
    rw [hl] at e
    injection e with e
    subst e
    exact q
  · rename_i hj
    rw [if_neg hj] at hu
    obtain ⟨l', e, q⟩ := h.get _ _ hu
    rw [hl] at e
    injection e with e
    subst e
    exact q
theorem setAt_row {α : Type} (l ys : List α) (n : Nat) (h : n + ys.length ≤ l.length) : l.take n ++ ys ++ l.drop (n + ys.length) = RX.setAt l n ys := by
  apply List.ext_getElem?
  intro j
  rw [setAt_get _ _ _ _ h]
  by_cases h1 : j < n
  · rw [if_neg (by omega), List.append_assoc, List.getElem?_append_left (by rw [List.length_take]; omega), List.getElem?_take, if_pos h1]
  · by_cases h2 : j < n + ys.length
    · rw [if_pos (by omega), List.append_assoc, List.getElem?_append_right (by rw [List.length_take]; omega), List.length_take, Nat.min_eq_left (by omega), List.getElem?_append_left (by omega)]
    · rw [if_neg (by omega), List.getElem?_append_right (by rw [List.length_append, List.length_take]; omega), List.getElem?_drop]
      congr 1
      rw [List.length_append, List.length_take, Nat.min_eq_left (by omega)]
      omega
theorem okRange_ok {ro : List Nat} : ∀ {n off : Nat}, okRange ro off n = true → ∀ j, j < n → off + j ∉ ro
  | 0, _, _, j, hj => by omega
  | n + 1, off, h, j, hj => by
    simp only [okRange] at h
    split at h
    · cases h
    · rename_i hh
      cases j with
      | zero => intro hm; rw [Nat.add_zero] at hm; rw [(hasN_iff ro off).2 hm] at hh; cases hh
      | succ j => have := okRange_ok h j (by omega); rwa [show off + (j + 1) = off + 1 + j by omega]
/-- A store into a variable. -/
theorem run_storeAt (t : TI) {T : TypeId} (tk : TOK P G T t) {b off : Nat} {T' : TypeId} {cs : List Value} (hg : w.heap[b]? = some (.cells cs.toArray T' (0, 0))) {u : Value} (hu : ∀ x ∈ u.cells.toList, x.oneCell' = true)
    (hn : u.cells.toList.length = t.leaves.length) (hle : off + t.leaves.length ≤ cs.length) :
    (Instr.storeAt T (.pointer (some ⟨b, off, none⟩)) u).run P w = .ok () (w.setRow b (RX.setAt cs off u.cells.toList).toArray) := by
  obtain ⟨i, hi, hsz, _⟩ := tk.size
  unfold Instr.storeAt
  simp only [Instr.sureAddr, Sem.run_bind, Sem.run_pure, Result.andThen_ok, storeVar, run_size hi]
  rw [if_neg (by rw [hsz, ← hn]; simp)]
  rw [run_storeCells_at P b off T' u.cells.toList 0 cs.toArray w hg (by simp only [List.size_toArray]; omega) hu]
  rw [← setAt_row cs u.cells.toList off (by omega)]
  simp only [Nat.add_zero]
theorem own_fr (S : Sat N W w0 Z pl L a w) {i : Nat} {ob : Ob G} {b : Nat} (hg : get L.objs i = some ob) (hl : live ob = true) (hb : bk (pl i) = some b) {T : TypeId} {cs cs' : List Value} (hc : w.heap[b]? = some (.cells cs.toArray T (0, 0)))
    (hlen : cs'.length = cs.length) (hw : ∀ ro ls, ob = .cells ro ls → ∀ j, (j < ls.length → j ∉ ro → False) → cs'[j]? = cs[j]?) : Fr W w0.heap.size w (w.setRow b cs'.toArray) := by
  have same : ∀ ro ls, ob = .cells ro ls → (∀ j, ¬ W b j) → b < w0.heap.size → cs' = cs := by
    intro ro ls hob hW hlt
    apply List.ext_getElem?
    intro j
    refine hw ro ls hob j (fun h1 h2 => ?_)
    subst hob
    rcases S.mem.own i _ b hg hl hb with h | h
    · omega
    · exact hW j (h j (Nat.le_of_lt h1) (.inr h2))
  refine ⟨rfl, rfl, rfl, by simp, fun k hk hW => ?_, fun k ds T' fr hk hn hd => ?_⟩
  · by_cases e : k = b
    · subst e
      cases ob with
      | cells ro ls => rw [same ro ls rfl hW hk, setRow_self w k _ _ _ hc]
      | arr e t xs =>
        rcases S.mem.own i _ k hg hl hb with h | h
        · omega
        · exact absurd (h 0) (hW 0)
      | frz => cases hl
      | dead => cases hl
    · exact setRow_other w b k _ e
  · by_cases e : k = b
    · subst e
      rw [hc] at hd
      injection hd with hd
      injection hd with e1 e2 e3
      have e1 : cs = ds := by simpa using e1
      subst e1 e2 e3
      refine ⟨cs', setRow_heap w k _ _ _ _ hc, hlen, fun j hj => ?_⟩
      rcases S.mem.own i _ k hg hl hb with h | h
      · omega
      · cases ob with
        | cells ro ls => exact hw ro ls rfl j (fun h1 h2 => hj (h j (Nat.le_of_lt h1) (.inr h2)))
        | arr e t xs => exact absurd (h j) hj
        | frz => cases hl
        | dead => cases hl
    · exact ⟨ds, by rw [setRow_other w b k _ e]; exact hd, rfl, fun _ _ => rfl⟩
/-- An object's block is written anew. -/
theorem Sat.write (S : Sat N W w0 Z pl L a w) {i : Nat} {ob ob' : Ob G} {b : Nat} (hg : get L.objs i = some ob) (hl : live ob = true) (hb : bk (pl i) = some b) (hw : ∀ k, k ≠ b → w'.heap[k]? = w.heap[k]?) (hf : Fr W w0.heap.size w w')
    (hown : ∀ base, Own base W ob b → Own base W ob' b) (hob : Ext Z w pl L.nx Z w' pl L.nx → ObOK Z w' pl L.nx i ob') : Sat N W w0 Z pl ⟨L.tmps, (i, ob') :: L.objs, L.nx⟩ a w' := by
  have hzb : ∀ k j, Z k j → k ≠ b := by intro k j hz e; subst e; exact S.mem.zfar i ob k hg hl hb j hz
  have X : Ext Z w pl L.nx Z w' pl L.nx := Ext.of_chg (fun k j hz => hw k (hzb k j hz))
  have hlt := S.mem.lt i ob hg
  have M := (S.mem.kill i hlt).keep X (fun o c k hgo hlo hk => by
    have hne : i ≠ o := by intro e; subst e; rw [get_same] at hgo; cases hgo; cases hlo
    rw [get_far _ _ hne] at hgo
    refine ⟨hw k ?_, S.mem.zfar o c k hgo hlo hk⟩
    intro e
    subst e
    exact hne (S.mem.sep i o ob c k hg hl hgo hlo hb hk)) (fun k j hz => Nat.lt_of_lt_of_le (S.mem.zlt k j hz) hf.size) (fun _ _ h => .inl h) hf
  have M2 := M.add i ob' hlt (hob X) (fun hl' k hk => by
    rw [hb] at hk
    injection hk with hk
    subst hk
    refine ⟨hown _ (S.mem.own i ob b hg hl hb), fun j => S.mem.zfar i ob b hg hl hb j, fun o' c ho' hg' hl2 hk' => ?_⟩
    rw [get_far _ _ (Ne.symm ho')] at hg'
    exact ho' (S.mem.sep o' i c ob b hg' hl2 hg hl hk' hb))
  refine S.at X (M2.congr (fun n => ?_)) rfl
  simp only [get_cons]
  split <;> rfl

theorem setAt_append {α : Type} : ∀ (l l' ys : List α), ys.length = l.length → RX.setAt (l ++ l') 0 ys = ys ++ l'
  | [], l', [], _ => by cases l' <;> rfl
  | a :: l, l', y :: ys, h => by simp only [List.cons_append, setAt]; rw [setAt_append l l' ys (by simpa using h)]
theorem setAt_skip {α : Type} : ∀ (l l' ys : List α) (n : Nat), RX.setAt (l ++ l') (l.length + n) ys = l ++ RX.setAt l' n ys
  | [], l', ys, n => by simp
  | a :: l, l', [], n => by cases h : (a :: l ++ l' : List α) with | nil => cases h | cons b r => simp only [setAt]; rw [← h]; cases l' <;> simp [setAt]
  | a :: l, l', y :: ys, n => by
    rw [List.length_cons, show l.length + 1 + n = (l.length + n) + 1 by omega]
    simp only [List.cons_append, setAt]
    rw [setAt_skip l l' (y :: ys) n]
theorem RowC.set {t : Ty} : ∀ {xs : List (G.D t)} {vs : List Value} (n : Nat) {y : G.D t} {cs : List Value}, RowC G Z w t xs vs → n < xs.length → cs.length = G.csz t → RepC G Z w t y cs → RowC G Z w t (xs.set n y) (RX.setAt vs (n * G.csz t) cs)
  | x :: xs, _, 0, y, cs, ⟨c1, vs', e, hl, h1, h2⟩, _, hc, hy => by
    subst e
    rw [Nat.zero_mul, setAt_append _ _ _ (by rw [hc, hl])]
    exact ⟨cs, vs', rfl, hc, hy, h2⟩
  | x :: xs, _, n + 1, y, cs, ⟨c1, vs', e, hl, h1, h2⟩, hn, hc, hy => by
    subst e
    have e : (n + 1) * G.csz t = c1.length + n * G.csz t := by rw [hl, Nat.add_mul, Nat.one_mul, Nat.add_comm]
    rw [e, setAt_skip]
    exact ⟨c1, _, rfl, hl, h1, RowC.set n h2 (by simpa using hn) hc hy⟩
/-- A part of an element written: as the element written. -/
theorem setAt_part {α : Type} (l us : List α) (p z off : Nat) (h : p + z ≤ l.length) (ho : off + us.length ≤ z) : RX.setAt l p (RX.setAt ((l.drop p).take z) off us) = RX.setAt l (p + off) us := by
  have hz : ((l.drop p).take z).length = z := by rw [List.length_take, List.length_drop]; omega
  apply List.ext_getElem?
  intro j
  rw [setAt_get l p _ j (by rw [setAt_length, hz]; exact h), setAt_length, hz, setAt_get l (p + off) us j (by omega)]
  by_cases h1 : p ≤ j ∧ j < p + z
  · rw [if_pos h1, setAt_get _ _ _ _ (by rw [hz]; exact ho)]
    by_cases h2 : off ≤ j - p ∧ j - p < off + us.length
    · rw [if_pos h2, if_pos (by omega)]
      congr 1
      omega
    · rw [if_neg h2, if_neg (by omega), List.getElem?_take, if_pos (by omega), List.getElem?_drop]
      congr 1
      omega
  · rw [if_neg h1, if_neg (by omega)]
theorem setAt_take {α : Type} (l us : List α) (m n : Nat) (h : n + us.length ≤ m) (hm : m ≤ l.length) : (RX.setAt l n us).take m = RX.setAt (l.take m) n us := by
  have hl : (l.take m).length = m := by rw [List.length_take]; omega
  apply List.ext_getElem?
  intro j
  rw [List.getElem?_take, setAt_get _ _ _ _ (by omega), setAt_get _ _ _ _ (by omega)]
  by_cases h1 : j < m
  · rw [if_pos h1]
    split
    · rfl
    · rw [List.getElem?_take, if_pos h1]
  · rw [if_neg h1, if_neg (by omega), List.getElem?_take, if_neg h1]

theorem op_store (hs : SigOK G) (ht : TabOK P G) {T : TypeId} {x v : Operand} (ho : o.op = .store T x v) (h : semOp E o L K = some r) (S : Sat E.N W w0 Z pl L a w) (hK : Then E W w0 K r next) : o.wp P a w next Q := by
  simp only [semOp, ho] at h
  split at h
  · rename_i ti hti
    have tk := ht T ti hti
    have exe : ∀ w1, (Instr.storeAt T (a.eval x) (a.eval v)).run P w = .ok () w1 → (execOp a.eval o).run P w = .ok .skip w1 := by
      intro w1 hu; unfold execOp; rw [ho]; exact run_u _ hu
    split at h
    · rename_i s hsv
      have hv := (evalO_ok S hsv).cells
      split at h
      · rename_i hn
        rw [len_eq, len_eq] at hn
        have hn := Nat.eq_of_beq_eq_true hn
        have hvl := hv.length
        split at h
        · rename_i i off hx
          cases L with
          | mk tm ob nx =>
          simp only at h
          split at h
          · rename_i ro ls hg
            split at h
            · rename_i hle hro
              rw [len_eq, len_eq] at hle
              rw [len_eq] at hro
              have hle := ble_iff.1 hle
              obtain ⟨⟨_, b, hb, hav⟩, _⟩ := evalO_ok S hx
              obtain ⟨b', T', cs, k1, k2, k3⟩ := S.mem.ob i _ hg
              rw [hb] at k1
              injection k1 with k1
              injection k1 with k1
              injection k1 with k1
              subst k1
              have hcl := k3.length
              have hrun := run_storeAt ti tk (off := off) k2 (u := a.eval v) hv.one (by rw [hvl, hn]) (by omega)
              have S' := S.write (w' := w.setRow b (RX.setAt cs off (a.eval v).cells.toList).toArray) (ob' := .cells ro (RX.setAt ls off s.ls)) hg rfl (by rw [hb]; rfl) (fun k hk => setRow_other w b k _ hk)
                (own_fr S hg rfl (by rw [hb]; rfl) k2 (setAt_length _ _ _) (fun ro' ls' e j hj => by
                  injection e with e1 e2
                  subst e1 e2
                  rw [setAt_get cs off _ j (by omega)]
                  split
                  · rename_i hjj
                    have a1 : j < ls.length := by omega
                    have a2 : j - off < ti.leaves.length := by omega
                    have a3 := okRange_ok hro (j - off) a2
                    rw [show off + (j - off) = j by omega] at a3
                    exact (hj a1 a3).elim
                  · rfl))
                (fun base h => by
                  rcases h with h | h
                  · exact .inl h
                  · exact .inr (fun j hj hr => h j (by rw [setAt_length] at hj; exact hj) (by rw [setAt_length] at hr; exact hr)))
                (fun X => ⟨b, T', _, hb, setRow_heap w b _ _ _ _ k2, ((k3.mono X).setAt (hv.mono X) (by rw [hn]; exact hle))⟩)
              refine wp_skip' (exe _ ?_) (out_ok h S' (show DVOK _ _ _ _ DV.und undef from rfl) hK)
              rw [hav]; exact hrun
            · cases h
          · cases h
        · -- a part of an element of a row of ours
          rename_i i n z off hx
          split at h
          · rename_i e t xs hg
            split at h
            · rename_i el hz hsvo
              have hz := Nat.eq_of_beq_eq_true hz
              split at h
              · rename_i hle
                rw [len_eq, len_eq] at hle
                have hle := ble_iff.1 hle
                split at h
                · rename_i y tm ob nx htv
                  split at h
                  · rename_i y' hy
                    split at h
                    · rename_i e2 t2 x2 hg2
                      obtain ⟨⟨_, b, n', c, hb, hnn, hav⟩, _⟩ := evalO_ok S hx
                      obtain ⟨vs, o1, o2⟩ := S.mem.ob i _ hg
                      have hown := o1
                      rcases o1.2 with ⟨e1, _⟩ | ⟨g, cap, cur, e1, e0, e3, e4, e5, e6, e7⟩
                      · rw [hb] at e1; cases e1
                      rw [hb] at e1
                      injection e1 with e1 e1' e1''
                      injection e1 with e1
                      injection e1 with e1
                      subst e1 e1' e1''
                      have hrow := o2.at n hnn
                      have hvl2 := o2.length
                      rw [show xs.getD n (dft G t) = xs[n] from by simp [List.getD, hnn]] at hsvo
                      obtain ⟨u0, q1, q2, q3, q4⟩ := svOf_ok (pl := pl) (nx := L.nx) hsvo hrow
                      have hel := q1.cells
                      rw [q2] at hel
                      have hell := hel.length
                      have hzl : ((vs.drop (n * G.csz t)).take (G.csz t)).length = G.csz t := hrow.length hs
                      -- the element with its part put in
                      have hcomb : ∃ u2, SVOK Z w pl L.nx (match el with | .one _ => s | .agg ls => .agg (RX.setAt ls off s.ls)) u2 ∧ u2.cells.toList = RX.setAt ((vs.drop (n * G.csz t)).take (G.csz t)) off (a.eval v).cells.toList := by
                        cases el with
                        | one l =>
                          have hone : (SV.one l : SV G).ls.length = 1 := rfl
                          rw [hone] at hell hle
                          refine ⟨a.eval v, evalO_ok S hsv, ?_⟩
                          obtain ⟨x0, hx0⟩ : ∃ x0, (vs.drop (n * G.csz t)).take (G.csz t) = [x0] := by
                            cases hh : (vs.drop (n * G.csz t)).take (G.csz t) with
                            | nil => rw [hh] at hell; cases hell
                            | cons x0 r => rw [hh] at hell; cases r with | nil => exact ⟨x0, rfl⟩ | cons _ _ => simp at hell
                          rw [hx0]
                          cases hc : (a.eval v).cells.toList with
                          | nil =>
                            -- nothing is stored: then nothing was to be
                            rw [hc] at hvl
                            have := evalO_ok S hsv
                            cases s with
                            | one l' => rw [cells_one this.2] at hc; cases hc
                            | agg ls' =>
                              -- a value of no cells cannot be taken for one of a type that is no struct
                              exfalso
                              cases t with
                              | st k => have := q3 k rfl; rw [this] at q1; exact absurd q1.2 (by simp [Value.oneCell'])
                              | _ => simp [svTV] at htv
                          | cons u us =>
                            rw [hc] at hvl
                            have h1 : us = [] ∧ off = 0 := by
                              have : (u :: us).length = ti.leaves.length := by rw [hvl, hn]
                              simp only [List.length_cons] at this
                              exact ⟨List.eq_nil_of_length_eq_zero (by omega), by omega⟩
                            obtain ⟨rfl, rfl⟩ := h1
                            rfl
                        | agg ls =>
                          obtain ⟨cs, rfl, hq⟩ := q1
                          have : cs = (vs.drop (n * G.csz t)).take (G.csz t) := by simpa [Value.cells] using q2
                          subst this
                          exact ⟨.agg (RX.setAt ((vs.drop (n * G.csz t)).take (G.csz t)) off (a.eval v).cells.toList).toArray, ⟨_, rfl, hq.setAt hv (by rw [hn]; exact hle)⟩, rfl⟩
                      obtain ⟨u2, hu2, hu2c⟩ := hcomb
                      obtain ⟨Z1, T1, ty, R1⟩ := svTV_ok hs htv S.mem hu2
                      have S1 := T1.sat S
                      have hg1 : get (⟨tm, ob, nx⟩ : St G).objs i = some (.arr e t xs) := by
                        have := svTV_live htv i _ hg2 rfl
                        rw [hg] at this
                        rw [this]
                        exact hg2
                      have R1' := RepC.cast hy R1
                      rw [hu2c] at R1'
                      have hcur : cur.toList.toArray = cur := by simp
                      have hmul : (n + 1) * G.csz t ≤ xs.length * G.csz t := Nat.mul_le_mul_right _ hnn
                      rw [Nat.add_mul, Nat.one_mul] at hmul
                      have hcs : cur.toList.length = c * G.csz t := by rw [← e6]; exact Array.length_toList
                      have hsz : xs.length * G.csz t ≤ cur.toList.length := by rw [hcs]; exact Nat.mul_le_mul_right _ e4
                      subst hz
                      have hoff : off + (a.eval v).cells.toList.length ≤ G.csz t := by rw [hvl, hn]; omega
                      have hrun := run_storeAt ti tk (off := n * G.csz t + off) (cs := cur.toList) (by rw [hcur]; exact e3) (u := a.eval v) hv.one (by rw [hvl, hn]) (by omega)
                      have S2 := S1.write (w' := w.setRow b (RX.setAt cur.toList (n * G.csz t + off) (a.eval v).cells.toList).toArray) (ob' := .arr e t (xs.set n y')) hg1 rfl (by rw [hb]; rfl) (fun k hk => setRow_other w b k _ hk)
                        (own_fr S1 hg1 rfl (by rw [hb]; rfl) (by rw [hcur]; exact e3) (setAt_length _ _ _) (fun ro ls he => by cases he)) (fun base hh => hh)
                        (fun X => by
                          refine ⟨RX.setAt vs (n * G.csz t + off) (a.eval v).cells.toList, ?_, ?_⟩
                          · rw [hb]
                            refine ⟨by rw [setAt_length, List.length_set, hvl2], .inr ⟨b, c, (RX.setAt cur.toList (n * G.csz t + off) (a.eval v).cells.toList).toArray, by rw [List.length_set], Nat.zero_le _, setRow_heap w b _ _ _ _ e3, by rw [List.length_set]; exact e4, e5, ?_, ?_⟩⟩
                            · rw [List.size_toArray, setAt_length, hcs]
                            · show (RX.setAt cur.toList (n * G.csz t + off) (a.eval v).cells.toList).take _ = _
                              rw [List.length_set, setAt_take _ _ _ _ (by omega) hsz, e7]
                          · rw [← setAt_part vs _ (n * G.csz t) (G.csz t) off (by omega) hoff]
                            exact (o2.mono (fun b i hh => X.hZ b i (T1.ext.hZ b i hh)) (fun b i hh => X.hw b i (T1.ext.hZ b i hh))).set n hnn (by rw [setAt_length, hzl]) (R1'.mono X.hZ X.hw))
                      refine wp_skip' (exe _ ?_) (out_ok h S2 (show DVOK _ _ _ _ DV.und undef from rfl) hK)
                      rw [hav]; exact hrun
                    · cases h
                  · cases h
                · cases h
              · cases h
            · cases h
          · cases h
        · cases h
      · cases h
    · cases h
  · cases h
end Go.Proofs.YtmcbhnbemhfifaaDoor.RX
