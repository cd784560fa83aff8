/- A store. Conditions: SigOK; the types' table. -/
import Derived.Test.YtmcbhnbemhfifaaDoorRxV5
namespace Go.Proofs.YtmcbhnbemhfifaaDoor.RX
open Go Go.RowKit
set_option autoImplicit false
variable {G : Sig} {R : Type} {P : Program} {W : Rights} {w0 w w' : World} {Z Z' : Nat → Nat → Prop} {pl pl' : Nat → Value} {N : Nat}
variable {E : Env G R} {o : Oper} {L : St G} {K : St G → Option R} {r : R} {a : Act} {next : Act → World → Prop} {Q : Exit → Act → World → Prop}

theorem evalO_tm {L L' : St G} (h : L'.tmps = L.tmps) {x : Operand} : evalO L' x = evalO L x := by
  cases x with
  | tmp t => simp only [evalO, h]
  | const v => cases v <;> rfl
  | func f => rfl
  | global g => rfl
theorem op_load (hs : SigOK G) (ht : TabOK P G) {T : TypeId} {x : Operand} (ho : o.op = .load T x) (h : semOp E o L K = some r) (S : Sat E.N W w0 Z pl L a w) (hK : Then E W w0 K r next) : o.rd P a w next := by
  simp only [semOp, ho] at h
  split at h
  · rename_i ti hti
    have tk := ht T ti hti
    have exe : ∀ u, (Instr.loadAt T (a.eval x)).run P w = .ok u w → (execOp a.eval o).run P w = .ok (.value u) w := by
      intro u hu; unfold execOp; rw [ho]; exact run_v _ hu
    split at h
    · -- a variable of ours
      rename_i i off hx
      split at h
      · rename_i ro ls hg
        split at h
        · rename_i hle
          split at h
          · rename_i s hsl
            obtain ⟨⟨_, b, hb, hv⟩, _⟩ := evalO_ok S hx
            obtain ⟨b', T', cs, k1, k2, k3⟩ := S.mem.ob i _ hg
            rw [hb] at k1
            injection k1 with k1
            injection k1 with k1
            injection k1 with k1
            subst k1
            rw [len_eq] at hsl hle
            rw [len_eq] at hle
            have hle := ble_iff.1 hle
            have hlen := k3.length
            obtain ⟨u, u1, u2, u3, _⟩ := svLs_ok hsl ((k3.drop off).take ti.leaves.length)
            obtain ⟨u', v1, v2, v3⟩ := run_loadAt (w := w) ti tk (b := b) (off := off) (cs := (cs.drop off).take ti.leaves.length) (fun j v hj => by
              rw [List.getElem?_take] at hj
              split at hj
              · rw [List.getElem?_drop] at hj
                exact row_cells k2 _ _ hj
              · cases hj) (by rw [List.length_take, List.length_drop]; omega)
            have : u' = u := by
              cases hagg : ti.agg with
              | true => rw [v2 hagg, u2 hagg]
              | false => have := (v3 hagg).symm.trans (u3 hagg); injection this
            subst this
            refine op_read (exe _ ?_) h S u1 hK
            rw [hv]; exact v1
          · cases h
        · cases h
      · cases h
    · -- frozen memory
      rename_i t v hx
      split at h
      · rename_i t' hty
        split at h
        · rename_i hb
          split at h
          · rename_i s hsv
            have e := Ty.eq_of_beq hb
            subst e
            obtain ⟨⟨b, off, cs, k1, k2, k3, k4⟩, _⟩ := evalO_ok S hx
            obtain ⟨l1, l2⟩ := tk.lv t' hty
            obtain ⟨u, u1, u2, u3, u4⟩ := svOf_ok (pl := pl) (nx := L.nx) hsv k4
            obtain ⟨u', v1, v2, v3⟩ := run_loadAt (w := w) ti tk (b := b) (off := off) (cs := cs) (fun j v hj => (k3 j v hj).2) (by rw [k2, l1])
            have : u' = u := by
              cases hagg : ti.agg with
              | true =>
                rw [v2 hagg]
                rw [hagg] at l2
                cases t' with
                | st n => rw [u3 n rfl]
                | _ => cases l2
              | false =>
                rw [hagg] at l2
                have := v3 hagg
                have h4 := u4 (fun n e => by have e' : t' = .st n := e; rw [e'] at l2; cases l2)
                rw [this] at h4
                injection h4
            subst this
            refine op_read (exe _ ?_) h S u1 hK
            rw [k1]; exact v1
          · cases h
        · cases h
      · cases h
    · -- an element of a row of ours
      rename_i i n z off hx
      split at h
      · rename_i e t xs hg
        split at h
        · rename_i el hz hsv
          have hz := Nat.eq_of_beq_eq_true hz
          split at h
          · rename_i hle
            rw [len_eq, len_eq] at hle
            have hle := ble_iff.1 hle
            split at h
            · rename_i s hsl
              rw [len_eq] at hsl
              obtain ⟨⟨_, b, n', c, hb, hn, hv⟩, _⟩ := evalO_ok S hx
              obtain ⟨vs, o1, o2⟩ := S.mem.ob i _ hg
              have hn' : n' = xs.length := by
                rcases o1.2 with ⟨e1, _⟩ | ⟨g, cap, cur, e1, _⟩
                · rw [hb] at e1; cases e1
                · rw [hb] at e1; injection e1
              subst hn'
              have hrow := o2.at n hn
              have hvl := o2.length
              rw [show xs.getD n (dft G t) = xs[n] from by simp [List.getD, hn]] at hsv
              obtain ⟨u0, q1, q2, _, _⟩ := svOf_ok (pl := pl) (nx := L.nx) hsv hrow
              have k3 := q1.cells
              rw [q2] at k3
              have hcl := k3.length
              obtain ⟨u, u1, u2, u3, _⟩ := svLs_ok hsl ((k3.drop off).take ti.leaves.length)
              obtain ⟨u', v1, v2, v3⟩ := run_loadAt (w := w) ti tk (b := b) (off := n * z + off) (cs := ((((vs.drop (n * G.csz t)).take (G.csz t))).drop off).take ti.leaves.length) (fun j v hj => by
                rw [List.getElem?_take] at hj
                split at hj
                · rw [List.getElem?_drop, List.getElem?_take] at hj
                  split at hj
                  · rw [List.getElem?_drop] at hj
                    have := o1.cells (g := b) (by rw [hb]; rfl) _ v hj
                    have hadd : (⟨b, 0, none⟩ : Addr).add (n * G.csz t + (off + j)) = ⟨b, n * z + off + j, none⟩ := by rw [hz, ← Nat.add_assoc]; unfold Addr.add; split <;> simp_all
                    rw [hadd] at this
                    exact this
                  · cases hj
                · cases hj) (by rw [List.length_take, List.length_drop]; omega)
              have : u' = u := by
                cases hagg : ti.agg with
                | true => rw [v2 hagg, u2 hagg]
                | false => have := (v3 hagg).symm.trans (u3 hagg); injection this
              subst this
              refine op_read (exe _ ?_) h S u1 hK
              rw [hv]; exact v1
            · cases h
          · cases h
        · cases h
      · rename_i e t xs hg
        exact op_loadT hs tk h S hg (evalO_ok S hx) exe hK
      · split at h
        · rename_i e t xs hg
          have hc := closeT_tm L i
          exact op_loadT hs tk h (S.close i) hg (by rw [hc.2]; exact evalO_ok S hx) exe hK
        · cases h
      · cases h
    · cases h
  · cases h
theorem op_store (hs : SigOK G) (ht : TabOK P G) {T : TypeId} {x v : Operand} (ho : o.op = .store T x v) (h : semOp E o L K = some r) (S : Sat E.N W w0 Z pl L a w) (hK : Then E W w0 K r next) : o.wp P a w next Q := by
  simp only [semOp, ho] at h
  split at h
  · rename_i ti hti
    have tk := ht T ti hti
    have exe : ∀ w1, (Instr.storeAt T (a.eval x) (a.eval v)).run P w = .ok () w1 → (execOp a.eval o).run P w = .ok .skip w1 := by
      intro w1 hu; unfold execOp; rw [ho]; exact run_u _ hu
    split at h
    · rename_i s hsv
      have hv := (evalO_ok S hsv).cells
      split at h
      · rename_i hn
        rw [len_eq, len_eq] at hn
        have hn := Nat.eq_of_beq_eq_true hn
        have hvl := hv.length
        split at h
        · rename_i i off hx
          cases L with
          | mk tm ob nx =>
          simp only at h
          split at h
          · rename_i ro ls hg
            split at h
            · rename_i hle hro
              rw [len_eq, len_eq] at hle
              rw [len_eq] at hro
              have hle := ble_iff.1 hle
              obtain ⟨⟨_, b, hb, hav⟩, _⟩ := evalO_ok S hx
              obtain ⟨b', T', cs, k1, k2, k3⟩ := S.mem.ob i _ hg
              rw [hb] at k1
              injection k1 with k1
              injection k1 with k1
              injection k1 with k1
              subst k1
              have hcl := k3.length
              have hrun := run_storeAt ti tk (off := off) k2 (u := a.eval v) hv.one (by rw [hvl, hn]) (by omega)
              have S' := S.write (w' := w.setRow b (RX.setAt cs off (a.eval v).cells.toList).toArray) (ob' := .cells ro (RX.setAt ls off s.ls)) hg rfl (by rw [hb]; rfl) (fun k hk => setRow_other w b k _ hk)
                (own_fr S hg rfl (by rw [hb]; rfl) k2 (setAt_length _ _ _) (fun ro' ls' e j hj => by
                  injection e with e1 e2
                  subst e1 e2
                  rw [setAt_get cs off _ j (by omega)]
                  split
                  · rename_i hjj
                    have a1 : j < ls.length := by omega
                    have a2 : j - off < ti.leaves.length := by omega
                    have a3 := okRange_ok hro (j - off) a2
                    rw [show off + (j - off) = j by omega] at a3
                    exact (hj a1 a3).elim
                  · rfl))
                (fun base h => by
                  rcases h with h | h
                  · exact .inl h
                  · exact .inr (fun j hj hr => h j (by rw [setAt_length] at hj; exact hj) (by rw [setAt_length] at hr; exact hr)))
                (fun X => ⟨b, T', _, hb, setRow_heap w b _ _ _ _ k2, ((k3.mono X).setAt (hv.mono X) (by rw [hn]; exact hle))⟩)
              refine wp_skip' (exe _ ?_) (out_ok h S' (show DVOK _ _ _ _ DV.und undef from rfl) hK)
              rw [hav]; exact hrun
            · cases h
          · cases h
        · -- a part of an element of a row of ours
          rename_i i n z off hx
          split at h
          · rename_i e t xs hg
            split at h
            · rename_i el hz hsvo
              have hz := Nat.eq_of_beq_eq_true hz
              split at h
              · rename_i hle
                rw [len_eq, len_eq] at hle
                have hle := ble_iff.1 hle
                split at h
                · rename_i y tm ob nx htv
                  split at h
                  · rename_i y' hy
                    split at h
                    · rename_i e2 t2 x2 hg2
                      obtain ⟨⟨_, b, n', c, hb, hnn, hav⟩, _⟩ := evalO_ok S hx
                      obtain ⟨vs, o1, o2⟩ := S.mem.ob i _ hg
                      have hown := o1
                      rcases o1.2 with ⟨e1, _⟩ | ⟨g, cap, cur, e1, e0, e3, e4, e5, e6, e7⟩
                      · rw [hb] at e1; cases e1
                      rw [hb] at e1
                      injection e1 with e1 e1' e1''
                      injection e1 with e1
                      injection e1 with e1
                      subst e1 e1' e1''
                      have hrow := o2.at n hnn
                      have hvl2 := o2.length
                      rw [show xs.getD n (dft G t) = xs[n] from by simp [List.getD, hnn]] at hsvo
                      obtain ⟨u0, q1, q2, q3, q4⟩ := svOf_ok (pl := pl) (nx := L.nx) hsvo hrow
                      have hel := q1.cells
                      rw [q2] at hel
                      have hell := hel.length
                      have hzl : ((vs.drop (n * G.csz t)).take (G.csz t)).length = G.csz t := hrow.length hs
                      -- the element with its part put in
                      have hcomb : ∃ u2, SVOK Z w pl L.nx (match el with | .one _ => s | .agg ls => .agg (RX.setAt ls off s.ls)) u2 ∧ u2.cells.toList = RX.setAt ((vs.drop (n * G.csz t)).take (G.csz t)) off (a.eval v).cells.toList := by
                        cases el with
                        | one l =>
                          have hone : (SV.one l : SV G).ls.length = 1 := rfl
                          rw [hone] at hell hle
                          refine ⟨a.eval v, evalO_ok S hsv, ?_⟩
                          obtain ⟨x0, hx0⟩ : ∃ x0, (vs.drop (n * G.csz t)).take (G.csz t) = [x0] := by
                            cases hh : (vs.drop (n * G.csz t)).take (G.csz t) with
                            | nil => rw [hh] at hell; cases hell
                            | cons x0 r => rw [hh] at hell; cases r with | nil => exact ⟨x0, rfl⟩ | cons _ _ => simp at hell
                          rw [hx0]
                          cases hc : (a.eval v).cells.toList with
                          | nil =>
                            -- nothing is stored: then nothing was to be
                            rw [hc] at hvl
                            have := evalO_ok S hsv
                            cases s with
                            | one l' => rw [cells_one this.2] at hc; cases hc
                            | agg ls' =>
                              -- a value of no cells cannot be taken for one of a type that is no struct
                              exfalso
                              cases t with
                              | st k => have := q3 k rfl; rw [this] at q1; exact absurd q1.2 (by simp [Value.oneCell'])
                              | _ => simp [svTV] at htv
                          | cons u us =>
                            rw [hc] at hvl
                            have h1 : us = [] ∧ off = 0 := by
                              have : (u :: us).length = ti.leaves.length := by rw [hvl, hn]
                              simp only [List.length_cons] at this
                              exact ⟨List.eq_nil_of_length_eq_zero (by omega), by omega⟩
                            obtain ⟨rfl, rfl⟩ := h1
                            rfl
                        | agg ls =>
                          obtain ⟨cs, rfl, hq⟩ := q1
                          have : cs = (vs.drop (n * G.csz t)).take (G.csz t) := by simpa [Value.cells] using q2
                          subst this
                          exact ⟨.agg (RX.setAt ((vs.drop (n * G.csz t)).take (G.csz t)) off (a.eval v).cells.toList).toArray, ⟨_, rfl, hq.setAt hv (by rw [hn]; exact hle)⟩, rfl⟩
                      obtain ⟨u2, hu2, hu2c⟩ := hcomb
                      obtain ⟨Z1, T1, ty, R1⟩ := svTV_ok hs htv S.mem hu2
                      have S1 := T1.sat S
                      have hg1 : get (⟨tm, ob, nx⟩ : St G).objs i = some (.arr e t xs) := by
                        have := svTV_live htv i _ hg2 rfl
                        rw [hg] at this
                        rw [this]
                        exact hg2
                      have R1' := RepC.cast hy R1
                      rw [hu2c] at R1'
                      have hcur : cur.toList.toArray = cur := by simp
                      have hmul : (n + 1) * G.csz t ≤ xs.length * G.csz t := Nat.mul_le_mul_right _ hnn
                      rw [Nat.add_mul, Nat.one_mul] at hmul
                      have hcs : cur.toList.length = c * G.csz t := by rw [← e6]; exact Array.length_toList
                      have hsz : xs.length * G.csz t ≤ cur.toList.length := by rw [hcs]; exact Nat.mul_le_mul_right _ e4
                      subst hz
                      have hoff : off + (a.eval v).cells.toList.length ≤ G.csz t := by rw [hvl, hn]; omega
                      have hrun := run_storeAt ti tk (off := n * G.csz t + off) (cs := cur.toList) (by rw [hcur]; exact e3) (u := a.eval v) hv.one (by rw [hvl, hn]) (by omega)
                      have S2 := S1.write (w' := w.setRow b (RX.setAt cur.toList (n * G.csz t + off) (a.eval v).cells.toList).toArray) (ob' := .arr e t (xs.set n y')) hg1 rfl (by rw [hb]; rfl) (fun k hk => setRow_other w b k _ hk)
                        (own_fr S1 hg1 rfl (by rw [hb]; rfl) (by rw [hcur]; exact e3) (setAt_length _ _ _) (fun ro ls he => by cases he)) (fun base hh => hh)
                        (fun X => by
                          refine ⟨RX.setAt vs (n * G.csz t + off) (a.eval v).cells.toList, ?_, ?_⟩
                          · rw [hb]
                            refine ⟨by rw [setAt_length, List.length_set, hvl2], .inr ⟨b, c, (RX.setAt cur.toList (n * G.csz t + off) (a.eval v).cells.toList).toArray, by rw [List.length_set], Nat.zero_le _, setRow_heap w b _ _ _ _ e3, by rw [List.length_set]; exact e4, e5, ?_, ?_⟩⟩
                            · rw [List.size_toArray, setAt_length, hcs]
                            · show (RX.setAt cur.toList (n * G.csz t + off) (a.eval v).cells.toList).take _ = _
                              rw [List.length_set, setAt_take _ _ _ _ (by omega) hsz, e7]
                          · rw [← setAt_part vs _ (n * G.csz t) (G.csz t) off (by omega) hoff]
                            exact (o2.mono (fun b i hh => X.hZ b i (T1.ext.hZ b i hh)) (fun b i hh => X.hw b i (T1.ext.hZ b i hh))).set n hnn (by rw [setAt_length, hzl]) (R1'.mono X.hZ X.hw))
                      refine wp_skip' (exe _ ?_) (out_ok h S2 (show DVOK _ _ _ _ DV.und undef from rfl) hK)
                      rw [hav]; exact hrun
                    · cases h
                  · cases h
                · cases h
              · cases h
            · cases h
          · rename_i e t xs hg
            exact op_storeT hs tk hsv hn h S hg (evalO_ok S hx) exe hK
          · split at h
            · rename_i e t xs hg
              have hc := closeT_tm L i
              refine op_storeT hs tk (L := closeT L i) (by rw [← hsv]; exact evalO_tm hc.1) hn h (S.close i) hg (by rw [hc.2]; exact evalO_ok S hx) exe hK
            · cases h
          · cases h
        · cases h
      · cases h
    · cases h
  · cases h
end Go.Proofs.YtmcbhnbemhfifaaDoor.RX
