/- Append. Conditions: SigOK, TabOK. -/
import Derived.Test.YtmcbhnbemhfifaaDoorRxN
namespace Go.Proofs.YtmcbhnbemhfifaaDoor.RX
open Go Go.RowKit
set_option autoImplicit false
variable {G : Sig} {R : Type} {P : Program} {W : Rights} {w0 w w' : World} {Z Z' : Nat → Nat → Prop} {pl pl' : Nat → Value} {N : Nat}
variable {E : Env G R} {o : Oper} {L : St G} {K : St G → Option R} {r : R} {a : Act} {next : Act → World → Prop} {Q : Exit → Act → World → Prop}

theorem run_append_none {t ty e : TypeId} {i : TypeInfo} {size : Nat} (ht : P.underlying t = some (.slice e)) (hi : P.info? e = some i)
    {v : Value} {n : Nat} {xs : List Value} (hown : w.ownsRow 0 e size v n xs) (c : Nat) : (Builtin.append_ #[t, t] ty #[v, .slice none 0 c]).run P w = .ok v w := by
  rcases hown.2 with ⟨rfl, rfl⟩ | ⟨g, cap, cur, rfl, _, _, hnc, _⟩
  · simp [Builtin.append_, run_und ht, sizeOf, typeInfo, hi, Builtin.lenOf, Builtin.firstCells]
  · simp [Builtin.append_, run_und ht, sizeOf, typeInfo, hi, Builtin.lenOf, Builtin.firstCells, hnc, storeCells]
theorem itemsK_ok (hs : SigOK G) (S : Sat N W w0 Z pl L a w) {x : Operand} {s : SV G} (hx : evalO L x = some s) {e : TypeId} {t : Ty} {ys : List (G.D t)} (h : itemsK L e t s = some ys) :
    ∃ A c, a.eval x = .slice A ys.length c ∧ (ys.length = 0 ∨ ∃ b off, A = some ⟨b, off, none⟩ ∧ ∃ vs, RowC G Z w t ys vs ∧ ∀ j v, vs[j]? = some v → w.cell? ⟨b, off + j, none⟩ = some v) := by
  have q := evalO_ok S hx
  unfold itemsK at h
  split at h
  · injection h with h
    subst h
    exact ⟨none, 0, q.1, .inl rfl⟩
  · rename_i l _
    split at h
    · rename_i e' t' xs hro
      split at h
      · rename_i y hy
        injection h with h
        subst h
        have he := castTo_eq hy
        injection he with he1 he2
        injection he1 with he1 he3
        subst he1 he3
        have he2 := eq_of_heq he2
        subst he2
        exact row_reads hs S q hro
      · cases h
    · cases h
  · cases h
theorem RowC.append {t : Ty} : ∀ {xs ys : List (G.D t)} {vs us : List Value}, RowC G Z w t xs vs → RowC G Z w t ys us → RowC G Z w t (xs ++ ys) (vs ++ us)
  | [], _, _, _, h, k => by rw [show _ = _ from h]; exact k
  | _ :: _, _, _, _, ⟨cs, vs', e, hl, h1, h2⟩, k => by rw [e, List.append_assoc]; exact ⟨cs, _, rfl, hl, h1, RowC.append h2 k⟩
theorem RowC.one {t : Ty} : ∀ {xs : List (G.D t)} {vs : List Value}, RowC G Z w t xs vs → ∀ u ∈ vs, u.oneCell' = true
  | [], _, h, u, hu => by rw [show _ = _ from h] at hu; cases hu
  | _ :: _, _, ⟨cs, vs', e, hl, h1, h2⟩, u, hu => by
    rw [e] at hu
    rcases List.mem_append.1 hu with hu | hu
    · exact h1.one u hu
    · exact RowC.one h2 u hu
theorem op_append (hs : SigOK G) (ht : TabOK P G) {x y : Operand} {T ty : TypeId} {e : TypeId} {t : Ty} {l1 : List LTy} {l2 : List (Nat × Nat)} {l3 : Bool} (hT : G.tab T = some ⟨l1, l2, l3, some (.sl e t)⟩) (S : Sat E.N W w0 Z pl L a w)
    {s i : SV G} (hx : evalO L x = some s) (hy : evalO L y = some i) {ys xs : List (G.D t)} {L' : St G} (hi : itemsK L e t i = some ys) (hg : growK L e t s = some (xs, L')) (hc : xs.length + ys.length ≤ G.cap e)
    (h : (newOb (.arr e t (xs ++ ys)) L' fun n L'' => out E o (.sv (.one (.aref n))) L'' K) = some r) (exe : ∀ u w', (Builtin.append_ #[T, T] ty #[a.eval x, a.eval y]).run P w = .ok u w' → (execOp a.eval o).run P w = .ok (.value u) w')
    (hK : Then E W w0 K r next) : o.wp P a w next Q := by
  obtain ⟨hu, ie, z, hie, hsz, hzr, hzs, hpos, hcap, hcm⟩ := (ht T _ hT).sl e t rfl
  have hbytes : (xs.length + ys.length) * ie.bytes ≤ 140737488355328 := Nat.le_trans (Nat.mul_le_mul_right _ hc) hcap
  have h63 : xs.length + ys.length ≤ maxLen := Nat.le_trans hc hcm
  -- what is appended to
  have hsrc : ∃ vs, w.ownsRow 0 e (G.csz t) (a.eval x) xs.length vs ∧ RowC G Z w t xs vs ∧ L'.tmps = L.tmps ∧ L'.nx = L.nx ∧ Mem W w0 Z pl L'.objs L'.nx w ∧
      (∀ k, (a.eval x).ownBlock = some k → Own w0.heap.size W (.arr e t xs) k ∧ (∀ j, ¬ Z k j) ∧ k < w.heap.size ∧ ∀ o' b', get L'.objs o' = some b' → live b' = true → bk (pl o') ≠ some k) ∧
      ∃ f, TrOK W w0.heap.size Z pl L'.objs L'.nx w f ∧ ∀ k, (a.eval x).ownBlock = some k → ∀ o', k ∉ f o' := by
    unfold growK at hg
    split at hg
    · simp only [Option.some.injEq, Prod.mk.injEq] at hg
      obtain ⟨rfl, rfl⟩ := hg
      have := (evalO_ok S hx).1
      rw [show a.eval x = .slice none 0 0 from this]
      exact ⟨[], World.ownsRow_nil w 0 e _, rfl, rfl, rfl, S.mem, (fun k hk => by cases hk), S.mem.tr.elim fun f T => ⟨f, T, fun k hk => by cases hk⟩⟩
    · rename_i o'
      cases L with
      | mk tm ob nx =>
      simp only at hg
      split at hg
      · rename_i e' t' xs' hgo
        split at hg
        · rename_i y' hy'
          simp only [Option.some.injEq, Prod.mk.injEq] at hg
          obtain ⟨rfl, rfl⟩ := hg
          have he := castTo_eq hy'
          injection he with he1 he2
          injection he1 with he1 he3
          subst he1 he3
          have he2 := eq_of_heq he2
          subst he2
          obtain ⟨vs, o1, o2⟩ := S.mem.ob o' _ hgo
          obtain ⟨q1, q2⟩ := (evalO_ok S hx).1
          rw [q2]
          have hbk : ∀ k, (pl o').ownBlock = some k → bk (pl o') = some k := by
            intro k hk
            generalize pl o' = q at hk
            cases q with
            | slice ad n c => cases ad with | some ad => exact hk | none => cases hk
            | _ => cases hk
          refine ⟨vs, o1, o2, rfl, rfl, S.mem.kill o' q1, fun k hk => ?_, S.mem.tr.elim fun f T => ⟨f, T.kill o', fun k hk o2 hm => T.root o2 k o' _ hm hgo rfl (hbk k hk)⟩⟩
          have hbk := hbk k hk
          refine ⟨?_, S.mem.zfar o' _ k hgo rfl hbk, S.mem.blt hgo rfl hbk, fun o2 b2 hg2 hl2 hk2 => ?_⟩
          · exact S.mem.own o' _ k hgo rfl hbk
          · have hne : o' ≠ o2 := by intro ee; subst ee; rw [get_same] at hg2; cases hg2; cases hl2
            have hg2' : get ob o2 = some b2 := by
              have hg2 : get ((o', Ob.dead) :: ob) o2 = some b2 := hg2
              rwa [get_far _ _ hne] at hg2
            exact hne (S.mem.sep o' o2 _ b2 k hgo rfl hg2' hl2 hbk hk2)
        · cases hg
      · cases hg
    · cases hg
  obtain ⟨vs, o1, o2, ltm, lnx, M, hblk, f, TF, hfT⟩ := hsrc
  -- the run
  have hrun : ∃ v' w' us, (Builtin.append_ #[T, T] ty #[a.eval x, a.eval y]).run P w = .ok v' w' ∧ w'.ownsRow 0 e (G.csz t) v' (xs.length + ys.length) (vs ++ us) ∧ w.grownBy w' (a.eval x).ownBlock ∧ RowC G Z w t ys us ∧
      (v'.ownBlock = (a.eval x).ownBlock ∨ v'.ownBlock = some w.heap.size) := by
    obtain ⟨A, c, hv, hrows⟩ := itemsK_ok hs S hy hi
    rcases hrows with h0 | ⟨b, off, hA, us, r1, r2⟩
    · have hys : ys = [] := List.eq_nil_of_length_eq_zero h0
      subst hys
      rw [hv]
      cases A with
      | none =>
        refine ⟨a.eval x, w, [], run_append_none hu hie o1 c, ?_, World.grownBy.refl w _, rfl, .inl rfl⟩
        rw [List.append_nil]; exact o1
      | some ad =>
        obtain ⟨v', w', k1, k2, k3, _, k4⟩ := run_append_own_at (P := P) w 0 T ty e ie z (G.csz t) ie.bytes hu hie hzr hsz rfl hzs hpos (a.eval x) xs.length vs o1 ad 0 c [] (by simp) (fun j u hj => by cases hj) (fun u hu => by cases hu) (by simpa using h63) (by simpa using hbytes) (Nat.zero_le _)
        exact ⟨v', w', [], k1, k2, k3, rfl, k4⟩
    · subst hA
      rw [hv]
      obtain ⟨v', w', k1, k2, k3, _, k4⟩ := run_append_own_at (P := P) w 0 T ty e ie z (G.csz t) ie.bytes hu hie hzr hsz rfl hzs hpos (a.eval x) xs.length vs o1 ⟨b, off, none⟩ ys.length c us r1.length (fun j u hj => by rw [add_at]; exact r2 j u hj) r1.one h63 hbytes (Nat.zero_le _)
      exact ⟨v', w', us, k1, k2, k3, r1, k4⟩
  obtain ⟨v', w', us, k1, k2, k3, r1, k4⟩ := hrun
  cases L' with
  | mk tm ob nx =>
  simp only [newOb] at h
  have hfr : Fr W w0.heap.size w w' := Fr.of_grown k3 M.fr.size (fun k hk => by
    rcases (hblk k hk).1 with hh | hh
    · exact .inl hh
    · exact .inr hh)
  have hzs' : ∀ k j, Z k j → w'.heap[k]? = w.heap[k]? := fun k j hz => k3.block k (M.zlt k j hz) (fun ee => (hblk k ee.symm).2.1 j hz)
  have X0 : Ext Z w pl nx Z w' pl nx := Ext.of_chg hzs'
  have X := X0.upd rfl v'
  have M1 := M.keep X (fun o' b k hgo hl hk => ⟨k3.block k (M.blt hgo hl hk) (fun ee => (hblk k ee.symm).2.2.2 o' b hgo hl hk), M.zfar o' b k hgo hl hk⟩) (fun k j hz => Nat.lt_of_lt_of_le (M.zlt k j hz) hfr.size) (fun _ _ h => .inl h) hfr
    ⟨f, TF, fun o k hk => ⟨k3.block k (TF.lt o k hk) (fun ee => hfT k ee.symm o hk), TF.zfar o k hk⟩⟩
  have T1 := TF.keep (pl' := upd pl nx v') (nx' := nx + 1) (w' := w') (Z' := Z) M.lt (Nat.le_succ _) X.hp (fun o' b k hgo hl hk => k3.block k (M.blt hgo hl hk) (fun ee => (hblk k ee.symm).2.2.2 o' b hgo hl hk)) (fun o k hk => ⟨k3.block k (TF.lt o k hk) (fun ee => hfT k ee.symm o hk), TF.zfar o k hk⟩) hfr.size
  have hpl : upd pl nx v' nx = v' := upd_same _ _ _
  have M2 := M1.add nx (.arr e t (xs ++ ys)) (Nat.lt_succ_self _) ⟨vs ++ us, by rw [hpl, List.length_append]; exact k2, (o2.mono X.hZ X.hw).append (r1.mono X.hZ X.hw)⟩ (fun _ k hk => by
    rw [hpl] at hk
    have hown : v'.ownBlock = some k := by
      rcases k2.2 with ⟨e1, _⟩ | ⟨g, cap, cur, e1, _⟩
      · rw [e1] at hk; cases hk
      · rw [e1] at hk ⊢; exact hk
    rcases k4 with k4 | k4
    · rw [hown] at k4
      obtain ⟨m1, m2, m3, m4⟩ := hblk k k4.symm
      refine ⟨m1, m2, fun o' b' ho' hg' hl' hk' => ?_⟩
      rw [upd_far pl v' ho'] at hk'
      exact m4 o' b' hg' hl' hk'
    · rw [hown] at k4
      injection k4 with k4
      subst k4
      refine ⟨.inl M.fr.size, fun j hz => Nat.lt_irrefl _ (M.zlt _ j hz), fun o' b' ho' hg' hl' hk' => ?_⟩
      rw [upd_far pl v' ho'] at hk'
      exact Nat.lt_irrefl _ (M.blt hg' hl' hk'))
    ⟨f, T1.put nx _ trivial fun _ k hk o' hm => by
      rw [hpl] at hk
      have hown : v'.ownBlock = some k := by
        rcases k2.2 with ⟨e1, _⟩ | ⟨g, cap, cur, e1, _⟩
        · rw [e1] at hk; cases hk
        · rw [e1] at hk ⊢; exact hk
      rcases k4 with k4 | k4
      · rw [hown] at k4
        exact hfT k k4.symm o' hm
      · rw [hown] at k4
        injection k4 with k4
        subst k4
        exact Nat.lt_irrefl _ (TF.lt o' _ hm)⟩
  have ltm : tm = L.tmps := ltm
  have lnx : nx = L.nx := lnx
  have S' : Sat E.N W w0 Z (upd pl nx v') ⟨tm, (nx, .arr e t (xs ++ ys)) :: ob, nx + 1⟩ a w' := S.at (L' := ⟨tm, (nx, .arr e t (xs ++ ys)) :: ob, nx + 1⟩) (by rw [← lnx]; exact X) M2 ltm
  exact op_value (exe v' w' k1) h S' ⟨⟨Nat.lt_succ_self _, hpl.symm⟩, by
    rcases k2.2 with ⟨e1, _⟩ | ⟨g, cap, cur, e1, _⟩ <;> rw [e1] <;> rfl⟩ hK
end Go.Proofs.YtmcbhnbemhfifaaDoor.RX
