/- More operations: places of fields and elements, parts, lengths, functions. Conditions: SigOK, TabOK. -/
import Derived.Test.YtmcbhnbemhfifaaDoorRx11
namespace Go.Proofs.YtmcbhnbemhfifaaDoor.RX
open Go Go.RowKit
set_option autoImplicit false
variable {G : Sig} {R : Type} {P : Program} {W : Rights} {w0 w w' : World} {Z Z' : Nat → Nat → Prop} {pl pl' : Nat → Value} {N : Nat}
variable {E : Env G R} {o : Oper} {L : St G} {K : St G → Option R} {r : R} {a : Act} {next : Act → World → Prop} {Q : Exit → Act → World → Prop}

theorem add_at (b off n : Nat) : (⟨b, off, none⟩ : Addr).add n = ⟨b, off + n, none⟩ := by unfold Addr.add; split <;> simp_all
theorem cut1_at : ∀ {ts : List Ty} {h : Fs G.S ts} {cs : List Value} {f : Nat} {v : TV G}, RepF G Z w ts h cs → nth (cut1 ts h) f = some v →
    nth ts f = some v.t ∧ RepC G Z w v.t v.x ((cs.drop (sumSz G (ts.take f))).take (G.csz v.t)) := by
  intro ts
  induction ts with
  | nil => intro h cs f v _ hf; simp [cut1, nth] at hf
  | cons t ts ih =>
    intro h cs f v H hf
    cases H with
    | cons _ _ _ cs cs' hl h1 h2 =>
      cases f with
      | zero =>
        injection hf with hf
        subst hf
        refine ⟨rfl, ?_⟩
        show RepC G Z w t h.1 (((cs ++ cs').drop 0).take (G.csz t))
        rw [List.drop_zero, ← hl, List.take_left]
        exact h1
      | succ f =>
        obtain ⟨k1, k2⟩ := ih h2 (f := f) hf
        refine ⟨k1, ?_⟩
        have e : (cs ++ cs').drop (sumSz G ((t :: ts).take (f + 1))) = cs'.drop (sumSz G (ts.take f)) := by
          show (cs ++ cs').drop (G.csz t + sumSz G (ts.take f)) = _
          rw [← hl, ← List.drop_drop, List.drop_left]
        rw [e]
        exact k2
theorem sumSz_le : ∀ {ts : List Ty} {f : Nat} {t : Ty}, nth ts f = some t → sumSz G (ts.take f) + G.csz t ≤ sumSz G ts := by
  intro ts
  induction ts with
  | nil => intro f t h; simp [nth] at h
  | cons a ts ih =>
    intro f t h
    cases f with
    | zero => injection h with h; subst h; simp [sumSz]
    | succ f => have := ih (f := f) h; simp only [List.take_succ_cons, sumSz]; omega

theorem op_fieldAddr (hs : SigOK G) (ht : TabOK P G) {T : TypeId} {x : Operand} {f : Nat} (ho : o.op = .fieldAddr T x f) (h : semOp E o L K = some r) (S : Sat E.N W w0 Z pl L a w) (hK : Then E W w0 K r next) : o.pu P a w next := by
  simp only [semOp, ho] at h
  split at h
  · rename_i ti hti
    have tk := ht T ti hti
    split at h
    · rename_i d n hfl
      split at h
      · cases h
      · rename_i n
        obtain ⟨fs, fd, hu, hfd, hoff, hle, i, hi, hsz, _⟩ := tk.flds f d (n + 1) hfl
        have exe : ∀ b off, a.eval x = .pointer (some ⟨b, off, none⟩) → ∀ w', (execOp a.eval o).run P w' = .ok (.value (.pointer (some ⟨b, off + d, none⟩))) w' := by
          intro b off e w'
          unfold execOp
          rw [ho]
          refine run_v _ ?_
          simp only [Instr.fieldAt, Sem.run_bind, run_und hu, Result.andThen_ok, hfd, e, Instr.sureAddr, Sem.run_pure, fieldPlace, run_size hi, hsz]
          rw [if_neg (Nat.succ_ne_zero n)]
          simp only [Sem.run_pure, Result.andThen_ok, hoff, add_at]
        split at h
        · rename_i i' off hx
          obtain ⟨⟨h1, b, hb, hv⟩, _⟩ := evalO_ok S hx
          exact op_pure (exe b off hv) h S ⟨⟨h1, b, hb, rfl⟩, rfl⟩ hK
        · rename_i i' m z off hx
          obtain ⟨⟨h1, b, n', c, hb, hn, hv⟩, _⟩ := evalO_ok S hx
          exact op_pure (exe b _ hv) h S ⟨⟨h1, b, n', c, hb, hn, by rw [Nat.add_assoc]⟩, rfl⟩ hK
        · rename_i s v hx
          split at h
          · rename_i s' hty
            split at h
            · rename_i hb
              have e := Nat.eq_of_beq_eq_true hb
              subst e
              split at h
              · rename_i wv hwv
                obtain ⟨⟨b, off, cs, hv, hlen, hz, hr⟩, _⟩ := evalO_ok S hx
                cases hr with
                | st _ _ _ hr =>
                  obtain ⟨k1, k2⟩ := cut1_at hr hwv
                  obtain ⟨k3, k4⟩ := tk.stf s hty f d (n + 1) wv.t hfl k1
                  have hle2 := sumSz_le (G := G) k1
                  rw [hs] at hle2
                  have hlen : cs.length = G.sz s := hlen
                  refine op_pure (exe b off hv) h S ⟨⟨b, off + d, _, rfl, ?_, fun j u hj => ?_, k2⟩, rfl⟩ hK
                  · rw [List.length_take, List.length_drop]; omega
                  · rw [List.getElem?_take] at hj
                    split at hj
                    · rw [List.getElem?_drop] at hj
                      have := hz _ u hj
                      rw [← k3] at this
                      rw [Nat.add_assoc]
                      exact this
                    · cases hj
              · cases h
            · cases h
          · cases h
        · cases h
    · cases h
  · cases h

theorem op_field (ht : TabOK P G) {T : TypeId} {x : Operand} {f : Nat} (ho : o.op = .field T x f) (h : semOp E o L K = some r) (S : Sat E.N W w0 Z pl L a w) (hK : Then E W w0 K r next) : o.pu P a w next := by
  simp only [semOp, ho] at h
  split at h
  · rename_i ti hti
    have tk := ht T ti hti
    split at h
    · rename_i d n hfl
      split at h
      · rename_i ls hx
        split at h
        · rename_i hle hn
          rw [len_eq] at hle
          have hle := ble_iff.1 hle
          have hn := Nat.eq_of_beq_eq_true hn
          subst hn
          split at h
          · rename_i l hl
            obtain ⟨fs, fd, hu, hfd, hoff, _, i, hi, hsz, hag⟩ := tk.flds f d 1 hfl
            obtain ⟨dd, hdd, hda⟩ := hag rfl
            obtain ⟨cs, hv, hcs⟩ := evalO_ok S hx
            have h1 := (hcs.drop d).take 1
            rw [hl] at h1
            obtain ⟨u, us, e, hu1, hu2⟩ := h1
            have hcu : cs[d]? = some u := by
              have : ((cs.drop d).take 1)[0]? = some u := by rw [e]; rfl
              rw [List.getElem?_take, if_pos (by decide), List.getElem?_drop] at this
              exact this
            refine op_pure (fun w' => ?_) h S hu1 hK
            unfold execOp
            rw [ho]
            refine run_v _ ?_
            simp only [Instr.field, Sem.run_bind, run_und hu, Result.andThen_ok, hfd, hv, asAgg, Sem.run_pure, part, run_isAgg hdd, hda, hoff]
            rw [if_neg (by decide)]
            simp only [List.getElem?_toArray, hcu, Sem.run_pure]
          · cases h
        · cases h
      · cases h
    · cases h
  · cases h
theorem run_indexAt {T e : TypeId} {i : TypeInfo} (hT : P.underlying T = some (.slice e)) (hi : P.info? e = some i) {A : Addr} {len c : Nat} {k : IntKind} {n : Int} (h0 : 0 ≤ n) (h1 : n < (len : Int)) :
    (Instr.indexAt T (.slice (some A) len c) (.int k n)).run P w = .ok (.pointer (some (A.add (n.toNat * i.size)))) w := by
  simp only [Instr.indexAt, asIntOf, Sem.run_bind, Sem.run_pure, Result.andThen_ok, run_und hT]
  rw [if_pos ⟨h0, h1⟩, Sem.run_bind, run_size hi]
  rfl
theorem rdAt_at {α : Type} (d : α) (xs : List α) (n : Int) (h : n.toNat < xs.length) : rdAt d xs n = xs[n.toNat] := by simp [rdAt, List.getD, h]
theorem rowOf_ok (S : Sat N W w0 Z pl L a w) {l : Leaf G} {u : Value} (hu : LfOK Z w pl L.nx l u) {e : TypeId} {t : Ty} {xs : List (G.D t)} (h : rowOf L l = some ⟨e, t, xs⟩) :
    (∃ c, u = .slice none 0 c ∧ xs = []) ∨ ∃ A c, u = .slice A xs.length c := by
  cases l with
  | val t' x =>
    cases t' with
    | sl e' t' =>
      cases h
      have := hu.1
      cases this with
      | sl _ _ _ A c => exact .inr ⟨A, c, rfl⟩
    | _ => cases h
  | full e' t' x =>
    cases h
    obtain ⟨A, hA⟩ := hu.1.2
    exact .inr ⟨A, _, hA⟩
  | aref o' =>
    simp only [rowOf] at h
    split at h
    · rename_i e' t' x hg
      cases h
      obtain ⟨vs, o1, _⟩ := S.mem.ob o' _ hg
      rw [hu.1.2]
      rcases o1.2 with ⟨e1, e2⟩ | ⟨g, cap, cur, e1, _⟩
      · exact .inl ⟨0, e1, List.eq_nil_of_length_eq_zero e2⟩
      · exact .inr ⟨_, _, e1⟩
    · rename_i e' t' x hg
      cases h
      have := S.mem.ob o' _ hg
      have hR : RepC G Z w (.sl e t) xs [pl o'] := this
      rw [hu.1.2]
      generalize pl o' = q at hR
      cases hR with
      | sl _ _ _ A c => exact .inr ⟨A, c, rfl⟩
    · cases h
  | _ => cases h
/-- A row that is read, whoever has it: its cells at a moment. -/
theorem row_reads (hs : SigOK G) (S : Sat N W w0 Z pl L a w) {l : Leaf G} {u : Value} (hu : LfOK Z w pl L.nx l u) {e : TypeId} {t : Ty} {xs : List (G.D t)} (h : rowOf L l = some ⟨e, t, xs⟩) :
    ∃ A c, u = .slice A xs.length c ∧ (xs.length = 0 ∨ ∃ b off, A = some ⟨b, off, none⟩ ∧ ∃ vs, RowC G Z w t xs vs ∧ ∀ j v, vs[j]? = some v → w.cell? ⟨b, off + j, none⟩ = some v) := by
  have hrep : ∀ (q : Value), RepC G Z w (.sl e t) xs [q] → ∃ A c, q = .slice A xs.length c ∧ (xs.length = 0 ∨ ∃ b off, A = some ⟨b, off, none⟩ ∧ ∃ vs, RowC G Z w t xs vs ∧ ∀ j v, vs[j]? = some v → w.cell? ⟨b, off + j, none⟩ = some v) := by
    intro q hR
    cases hR with
    | sl _ _ _ A c b o cs hc hA hl hz hr =>
      refine ⟨A, c, rfl, ?_⟩
      rcases hA with hA | hA
      · exact .inl hA
      · refine .inr ⟨b, o, hA, ?_⟩
        -- the rows' cells, one behind the other
        have key : ∀ (ys : List (G.D t)) (k : Nat), (∀ i (hi : i < ys.length), k + i < xs.length ∧ RepC G Z w t ys[i] (cs (k + i))) → ∃ vs, RowC G Z w t ys vs ∧ ∀ j v, vs[j]? = some v → w.cell? ⟨b, o + k * G.csz t + j, none⟩ = some v := by
          intro ys
          induction ys with
          | nil => exact fun k _ => ⟨[], rfl, fun j v hj => by cases hj⟩
          | cons y ys ih =>
            intro k hk
            obtain ⟨vs, v1, v2⟩ := ih (k + 1) (fun i hi => by
              have := hk (i + 1) (by simpa using hi)
              rw [show k + (i + 1) = k + 1 + i by omega] at this
              exact this)
            have h0 := hk 0 (by simp)
            refine ⟨cs k ++ vs, ⟨cs k, vs, rfl, hl k h0.1, h0.2, v1⟩, fun j v hj => ?_⟩
            by_cases hjj : j < (cs k).length
            · rw [List.getElem?_append_left hjj] at hj
              exact (hz k j v h0.1 hj).2
            · rw [List.getElem?_append_right (by omega)] at hj
              have := v2 _ v hj
              rw [hl k h0.1] at this hjj
              rw [Nat.add_mul, Nat.one_mul] at this
              rw [show o + k * G.csz t + j = o + (k * G.csz t + G.csz t) + (j - G.csz t) by omega]
              exact this
        obtain ⟨vs, v1, v2⟩ := key xs 0 (fun i hi => ⟨by omega, by rw [Nat.zero_add]; exact hr i hi⟩)
        refine ⟨vs, v1, fun j v hj => ?_⟩
        have := v2 j v hj
        rw [Nat.zero_mul, Nat.add_zero] at this
        exact this
  cases l with
  | val t' x =>
    cases t' with
    | sl e' t' =>
      cases h
      exact hrep u hu.1
    | _ => cases h
  | full e' t' x =>
    cases h
    exact hrep u hu.1.1
  | aref o' =>
    simp only [rowOf] at h
    split at h
    · rename_i e' t' x hg
      cases h
      obtain ⟨vs, o1, o2⟩ := S.mem.ob o' _ hg
      rw [hu.1.2]
      rcases o1.2 with ⟨e1, e2⟩ | ⟨g, cap, cur, e1, _⟩
      · exact ⟨none, 0, by rw [e1, e2], .inl e2⟩
      · refine ⟨_, _, e1, .inr ⟨g, 0, rfl, vs, o2, fun j v hj => ?_⟩⟩
        have := o1.cells (g := g) (by rw [e1]; rfl) j v hj
        rw [add_at] at this
        exact this
    · rename_i e' t' x hg
      cases h
      rw [hu.1.2]
      exact hrep (pl o') (S.mem.ob o' _ hg)
    · cases h
  | _ => cases h
theorem op_indexAddr (hs : SigOK G) (ht : TabOK P G) {T : TypeId} {x i : Operand} (ho : o.op = .indexAddr T x i) (h : semOp E o L K = some r) (S : Sat E.N W w0 Z pl L a w) (hK : Then E W w0 K r next) : o.pu P a w next := by
  simp only [semOp, ho] at h
  split at h
  · rename_i n hn
    obtain ⟨k, hi⟩ := intOf_ok S hn
    split at h
    · rename_i e t hT
      obtain ⟨hu, ie, z, hie, hsz, _⟩ := (ht T _ hT).sl e t rfl
      have exe : ∀ A len c, a.eval x = .slice (some A) len c → 0 ≤ n → n < (len : Int) → ∀ w', (execOp a.eval o).run P w' = .ok (.value (.pointer (some (A.add (n.toNat * G.csz t))))) w' := by
        intro A len c e1 h0 h1 w'
        unfold execOp
        rw [ho]
        refine run_v _ ?_
        rw [e1, hi, run_indexAt hu hie h0 h1, hsz]
      -- an element of what is written no more
      have rd : ∀ (q : Value) (e' : TypeId) (t' : Ty) (xs : List (G.D t')), RepC G Z w (.sl e' t') xs [q] → a.eval x = q → Ty.beq (.sl e t) (.sl e' t') = true → 0 ≤ n → n < (xs.length : Int) →
          out E o (.sv (.one (.rptr t' (rdAt (dft G t') xs n)))) L K = some r → o.pu P a w next := by
        intro q e' t' xs hR hq hb h0 h1 hout
        have he := Ty.eq_of_beq hb
        injection he with he1 he2
        subst he1 he2
        cases hR with
        | sl _ _ _ A c b off cs hc hA hl hz hr =>
          have hlt : n.toNat < xs.length := by omega
          rcases hA with hA | hA
          · omega
          · subst hA
            refine op_pure (exe _ _ _ hq h0 h1) hout S ⟨⟨b, off + n.toNat * G.csz t, cs n.toNat, by rw [add_at], hl _ hlt, fun j v hj => hz _ j v hlt hj, ?_⟩, rfl⟩ hK
            rw [rdAt_at _ _ _ hlt]
            exact hr _ hlt
      have wr : ∀ (o' : Nat) (e' : TypeId) (t' : Ty) (xs : List (G.D t')), o' < L.nx → Weak (pl o') (a.eval x) → (∃ vs, w.ownsRow 0 e' (G.csz t') (pl o') xs.length vs) → Ty.beq (.sl e t) (.sl e' t') = true → 0 ≤ n → n < (xs.length : Int) →
          out E o (.sv (.one (.aptr o' n.toNat (G.csz t') 0))) L K = some r → o.pu P a w next := by
        intro o' e' t' xs hlt hv ⟨vs, o1⟩ hb h0 h1 h
        have he := Ty.eq_of_beq hb
        injection he with he1 he2
        subst he1 he2
        rcases o1.2 with ⟨e1, e2⟩ | ⟨g, cap, cur, e1, _⟩
        · omega
        · have hv : a.eval x = pl o' := by
            rcases hv with hv | ⟨hv, _⟩
            · exact hv
            · rw [e1] at hv; cases hv
          exact op_pure (exe ⟨g, 0, none⟩ _ _ (hv.trans e1) h0 h1) h S ⟨⟨hlt, g, xs.length, cap, e1, by omega, by rw [add_at, Nat.zero_add, Nat.add_zero]⟩, rfl⟩ hK
      have row : ∀ (o' : Nat), o' < L.nx → Weak (pl o') (a.eval x) → (match get L.objs o' with
          | some (.arr e' t' xs) => match Ty.beq (.sl e t) (.sl e' t') with
            | true => if 0 ≤ n then if n < (xs.length : Int) then out E o (.sv (.one (.aptr o' n.toNat (G.csz t') 0))) L K else none else none
            | false => none
          | some (.tr e' t' xs) => match Ty.beq (.sl e t) (.sl e' t') with
            | true => if 0 ≤ n then if n < (xs.length : Int) then out E o (.sv (.one (.aptr o' n.toNat (G.csz t') 0))) L K else none else none
            | false => none
          | some (.fo e' t' xs _ _ _) => match Ty.beq (.sl e t) (.sl e' t') with
            | true => if 0 ≤ n then if n < (xs.length : Int) then out E o (.sv (.one (.aptr o' n.toNat (G.csz t') 0))) L K else none else none
            | false => none
          | some (.frz e' t' xs) => match Ty.beq (.sl e t) (.sl e' t') with
            | true => if 0 ≤ n then if n < (xs.length : Int) then out E o (.sv (.one (.rptr t' (rdAt (dft G t') xs n)))) L K else none else none
            | false => none
          | _ => none) = some r → o.pu P a w next := by
        intro o' hlt hv h
        split at h
        · rename_i e' t' xs hg
          split at h
          · rename_i hb
            split at h
            · rename_i h0
              split at h
              · rename_i h1
                obtain ⟨vs, o1, _⟩ := S.mem.ob o' _ hg
                exact wr o' e' t' xs hlt hv ⟨vs, o1⟩ hb h0 h1 h
              · cases h
            · cases h
          · cases h
        · rename_i e' t' xs hg
          split at h
          · rename_i hb
            split at h
            · rename_i h0
              split at h
              · rename_i h1
                exact wr o' e' t' xs hlt hv (S.mem.ob o' _ hg) hb h0 h1 h
              · cases h
            · cases h
          · cases h
        · rename_i e' t' xs _ _ _ hg
          split at h
          · rename_i hb
            split at h
            · rename_i h0
              split at h
              · rename_i h1
                exact wr o' e' t' xs hlt hv (S.mem.ob o' _ hg) hb h0 h1 h
              · cases h
            · cases h
          · cases h
        · rename_i e' t' xs hg
          split at h
          · rename_i hb
            split at h
            · rename_i h0
              split at h
              · rename_i h1
                exact rd (a.eval x) e' t' xs (RepC.weak (S.mem.ob o' _ hg) hv) rfl hb h0 h1 h
              · cases h
            · cases h
          · cases h
        · cases h
      split at h
      · rename_i o' hx
        exact row o' (evalO_ok S hx).1.1 (.inl (evalO_ok S hx).1.2) h
      · rename_i o' hx
        exact row o' (evalO_ok S hx).1.1 (evalO_ok S hx).1.2 h
      · rename_i l hnot hnot2 hx
        split at h
        · rename_i e' t' xs hro
          split at h
          · rename_i hb
            split at h
            · rename_i h0
              split at h
              · rename_i h1
                have hl := evalO_ok S hx
                cases l with
                | val t'' x' =>
                  cases t'' with
                  | sl e'' t'' =>
                    cases hro
                    exact rd _ _ _ _ hl.1 rfl hb h0 h1 h
                  | _ => cases hro
                | full e'' t'' x' =>
                  cases hro
                  exact rd _ _ _ _ hl.1.1 rfl hb h0 h1 h
                | aref o' => exact absurd rfl (hnot o')
                | _ => cases hro
              · cases h
            · cases h
          · cases h
        · cases h
      · cases h
    · cases h
  · cases h
theorem op_extract {x : Operand} {i : Nat} (ho : o.op = .extract x i) (h : semOp E o L K = some r) (S : Sat E.N W w0 Z pl L a w) (hK : Then E W w0 K r next) : o.pu P a w next := by
  simp only [semOp, ho] at h
  split at h
  · rename_i t
    split at h
    · rename_i l hl
      split at h
      · rename_i s hs
        obtain ⟨vs, hv, hvs⟩ := S.tm t _ hl
        have key : ∀ (l : List (SV G)) (vs : List Value) (i : Nat) (s : SV G), SVsOK Z w pl L.nx l vs → nth l i = some s → ∃ u, vs[i]? = some u ∧ SVOK Z w pl L.nx s u := by
          intro l
          induction l with
          | nil => intro vs i s _ h; simp [nth] at h
          | cons x l ih =>
            intro vs i s ⟨u, us, e, h1, h2⟩ h
            subst e
            cases i with
            | zero => injection h with h; subst h; exact ⟨u, rfl, h1⟩
            | succ i => obtain ⟨u', k1, k2⟩ := ih us i s h2 h; exact ⟨u', by simpa using k1, k2⟩
        obtain ⟨u, k1, k2⟩ := key l vs i s hvs hs
        refine op_pure (fun w' => ?_) h S k2 hK
        unfold execOp
        rw [ho]
        refine run_v _ ?_
        rw [show a.eval (.tmp t) = .tuple vs.toArray from hv]
        simp [Instr.extract, k1]
      · cases h
    · cases h
  · cases h
theorem ownsRow_len {e : TypeId} {z n : Nat} {v u : Value} {vs : List Value} (h : w.ownsRow 0 e z v n vs) (hw : Weak v u) : ∃ A c, u = .slice A n c := by
  rcases h.2 with ⟨e1, e2⟩ | ⟨g, cap, cur, e1, _⟩
  · rcases hw with hw | ⟨_, A, c, hw⟩
    · exact ⟨none, 0, by rw [hw, e1, e2]⟩
    · exact ⟨A, c, by rw [hw, e2]⟩
  · rcases hw with hw | ⟨hw, _⟩
    · exact ⟨_, cap, hw.trans e1⟩
    · rw [e1] at hw; cases hw
theorem repRow_len {e : TypeId} {t : Ty} {xs : List (G.D t)} {v : Value} (h : RepC G Z w (.sl e t) xs [v]) : ∃ A c, v = .slice A xs.length c := by
  generalize hq : [v] = q at h
  cases h with
  | sl _ _ _ A c b o cs hc hA hl hz hr => injection hq with hq _; exact ⟨A, c, hq⟩
theorem lenO_ok (M : Mem W w0 Z pl L.objs L.nx w) {l : Leaf G} {u : Value} (hu : LfOK Z w pl L.nx l u) {n : Int} (h : lenO L l = some n) : ∃ A k c, u = .slice A k c ∧ n = (k : Int) := by
  unfold lenO at h
  split at h
  · injection h with h
    obtain ⟨A, c, hu⟩ := hu.1
    exact ⟨A, 0, c, hu, h.symm⟩
  · rename_i o
    have hw : Weak (pl o) u := .inl hu.1.2
    split at h
    · rename_i hg; injection h with h; obtain ⟨vs, h1⟩ := M.ob o _ hg; obtain ⟨A, c, e⟩ := ownsRow_len h1 hw; exact ⟨A, _, c, e, h.symm⟩
    · rename_i hg; injection h with h; obtain ⟨vs, h1⟩ := M.ob o _ hg; obtain ⟨A, c, e⟩ := ownsRow_len h1 hw; exact ⟨A, _, c, e, h.symm⟩
    · cases h
  · rename_i o
    have hw : Weak (pl o) u := hu.1.2
    split at h
    · rename_i hg; injection h with h; obtain ⟨vs, h1, _⟩ := M.ob o _ hg; obtain ⟨A, c, e⟩ := ownsRow_len h1 hw; exact ⟨A, _, c, e, h.symm⟩
    · rename_i hg; injection h with h; obtain ⟨A, c, e⟩ := repRow_len (RepC.weak (M.ob o _ hg) hw); exact ⟨A, _, c, e, h.symm⟩
    · rename_i hg; injection h with h; obtain ⟨vs, h1⟩ := M.ob o _ hg; obtain ⟨A, c, e⟩ := ownsRow_len h1 hw; exact ⟨A, _, c, e, h.symm⟩
    · rename_i hg; injection h with h; obtain ⟨vs, h1⟩ := M.ob o _ hg; obtain ⟨A, c, e⟩ := ownsRow_len h1 hw; exact ⟨A, _, c, e, h.symm⟩
    · cases h
  · cases h
theorem run_len (ht : TabOK P G) {x : Operand} {T T' : TypeId} (S : Sat N W w0 Z pl L a w) {s : SV G} (hx : evalO L x = some s) {n : Int} (hn : lenK (G.tab T) L s = some n) : ∀ w', (Builtin.len_ #[T] T' #[a.eval x]).run P w' = .ok (.int .i64 n) w' := by
  intro w'
  have q := evalO_ok S hx
  unfold lenK at hn
  split at hn
  · rename_i y hT
    injection hn with hn
    subst hn
    rw [str_val q]
    simp [Builtin.len_, run_und ((ht T _ hT).str rfl), goInt]
  · rename_i e t hT
    injection hn with hn
    subst hn
    rw [show a.eval x = .slice none 0 0 from q.1]
    simp [Builtin.len_, run_und ((ht T _ hT).sl e t rfl).1, goInt]
  · rename_i e t l hnn hT
    split at hn
    · rename_i e' t' xs hro
      injection hn with hn
      subst hn
      rcases rowOf_ok S q hro with ⟨c, h1, h2⟩ | ⟨A, c, h1⟩
      · subst h2
        rw [h1]
        simp [Builtin.len_, run_und ((ht T _ hT).sl e t rfl).1, goInt]
      · rw [h1]
        simp [Builtin.len_, run_und ((ht T _ hT).sl e t rfl).1, goInt]
    · obtain ⟨A, k, c, h1, h2⟩ := lenO_ok S.mem q hn
      rw [h1, h2]
      simp [Builtin.len_, run_und ((ht T _ hT).sl e t rfl).1, goInt]
  · cases hn
end Go.Proofs.YtmcbhnbemhfifaaDoor.RX
