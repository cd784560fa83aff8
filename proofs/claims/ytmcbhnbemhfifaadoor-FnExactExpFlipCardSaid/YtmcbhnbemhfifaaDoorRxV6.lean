/- A row that owns what it leads to, appended to. Conditions: SigOK; the types' table. -/
import Derived.Test.YtmcbhnbemhfifaaDoorRx14
namespace Go.Proofs.YtmcbhnbemhfifaaDoor.RX
open Go Go.RowKit
set_option autoImplicit false
variable {G : Sig} {R : Type} {P : Program} {W : Rights} {w0 w w' : World} {Z Z' : Nat → Nat → Prop} {pl pl' : Nat → Value} {N : Nat} {objs : List (Nat × Ob G)} {nx : Nat} {f : Nat → List Nat}
variable {E : Env G R} {o : Oper} {L : St G} {K : St G → Option R} {r : R} {a : Act} {next : Act → World → Prop} {Q : Exit → Act → World → Prop}

theorem takeT_ok {tm : List (Nat × DV G)} {ob : List (Nat × Ob G)} {e : TypeId} {t : Ty} {s : SV G} {xs : List (G.D t)} {L' : St G} (h : takeT ⟨tm, ob, nx⟩ e t s = some (xs, L')) (M : Mem W w0 Z pl ob nx w) (T : TrOK W w0.heap.size Z pl ob nx w f) {D : List Nat} (hD : Det W w0.heap.size Z pl ob w f D)
    {u : Value} (hu : SVOK Z w pl nx s u) : ∃ ob' f' fq vs fp, L' = ⟨tm, ob', nx⟩ ∧ Mem W w0 Z pl ob' nx w ∧ TrOK W w0.heap.size Z pl ob' nx w f' ∧ Det W w0.heap.size Z pl ob' w f' (D ++ fq) ∧ w.ownsRow 0 e (G.csz t) u xs.length vs ∧ OwnR G w t xs vs fp ∧
      ((bk u = none ∧ fp = [] ∧ fq = []) ∨ ∃ b, bk u = some b ∧ fq = b :: fp) := by
  unfold takeT at h
  split at h
  · simp only [Option.some.injEq, Prod.mk.injEq] at h
    obtain ⟨rfl, rfl⟩ := h
    have hu : u = .slice none 0 0 := hu.1
    subst hu
    exact ⟨ob, f, [], [], [], rfl, M, T, by rw [List.append_nil]; exact hD, World.ownsRow_nil w 0 e _, .nil t, .inl ⟨rfl, rfl, rfl⟩⟩
  · rename_i o'
    simp only at h
    split at h
    · rename_i e' t' xs' hg
      split at h
      · rename_i y hy
        simp only [Option.some.injEq, Prod.mk.injEq] at h
        obtain ⟨rfl, rfl⟩ := h
        have he := castTo_eq hy
        injection he with he1 he2
        injection he1 with he1 he3
        subst he1 he3
        have he2 := eq_of_heq he2
        subst he2
        obtain ⟨q1, q2⟩ := hu.1
        obtain ⟨fq, _, _, T', D', vs, fp, o1, o2, o3⟩ := T.take M hD (.inr hg)
        rw [← q2] at o1 o3
        exact ⟨_, _, fq, vs, fp, rfl, M.kill o' q1, T', D', o1, o2, o3⟩
      · cases h
    · cases h
  · cases h
theorem OwnR.append {t : Ty} : ∀ {xs ys : List (G.D t)} {vs us : List Value} {fp fq : List Nat}, OwnR G w t xs vs fp → OwnR G w t ys us fq → OwnR G w t (xs ++ ys) (vs ++ us) (fp ++ fq) := by
  intro xs
  induction xs with
  | nil => intro ys vs us fp fq h k; cases h; exact k
  | cons x xs ih =>
    intro ys vs us fp fq h k
    cases h with
    | cons _ _ _ cs vs fp fp' hl h1 h2 =>
      rw [List.append_assoc, List.append_assoc]
      exact .cons t x (xs ++ ys) cs _ fp _ hl h1 (ih h2 k)
theorem op_appendT (hs : SigOK G) (ht : TabOK P G) {x y : Operand} {T ty : TypeId} {e : TypeId} {t : Ty} {l1 : List LTy} {l2 : List (Nat × Nat)} {l3 : Bool} (hT : G.tab T = some ⟨l1, l2, l3, some (.sl e t)⟩) (S : Sat E.N W w0 Z pl L a w)
    {s i : SV G} (hx : evalO L x = some s) (hy : evalO L y = some i) (h : appendT E o e t s i L K = some r)
    (exe : ∀ u w', (Builtin.append_ #[T, T] ty #[a.eval x, a.eval y]).run P w = .ok u w' → (execOp a.eval o).run P w = .ok (.value u) w') (hK : Then E W w0 K r next) : o.wp P a w next Q := by
  obtain ⟨hu, ie, z, hie, hsz, hzr, hzs, hpos, hcap, hcm⟩ := (ht T _ hT).sl e t rfl
  unfold appendT at h
  split at h
  · rename_i xs L1 h1
    split at h
    · rename_i ys L2 h2
      split at h
      · rename_i hc
        cases L with
        | mk tm ob nx =>
        obtain ⟨f, T0⟩ := S.mem.tr
        obtain ⟨ob1, f1, fq1, vs, fp1, rfl, M1, T1, D1, o1, r1, q1⟩ := takeT_ok h1 S.mem T0 Det.nil (evalO_ok S hx)
        obtain ⟨ob2, f2, fq2, us, fp2, rfl, M2, T2, D2, o2, r2, q2⟩ := takeT_ok h2 M1 T1 D1 (evalO_ok S hy)
        rw [List.nil_append] at D2
        have hbytes : (xs.length + ys.length) * ie.bytes ≤ 140737488355328 := Nat.le_trans (Nat.mul_le_mul_right _ hc) hcap
        have h63 : xs.length + ys.length ≤ maxLen := Nat.le_trans hc hcm
        have hul : us.length = ys.length * G.csz t := o2.1
        have hone : ∀ u ∈ us, u.oneCell' = true := (r2.row (Z := fun _ _ => True) fun _ _ _ => trivial).one
        have hrun : ∃ v' w', (Builtin.append_ #[T, T] ty #[a.eval x, a.eval y]).run P w = .ok v' w' ∧ w'.ownsRow 0 e (G.csz t) v' (xs.length + ys.length) (vs ++ us) ∧ w.grownBy w' (a.eval x).ownBlock ∧ (v'.ownBlock = (a.eval x).ownBlock ∨ v'.ownBlock = some w.heap.size) := by
          rcases o2.2 with ⟨e1, e2⟩ | ⟨g, cap, cur, e1, _⟩
          · have hys : ys = [] := List.eq_nil_of_length_eq_zero e2
            subst hys
            have hus : us = [] := List.eq_nil_of_length_eq_zero (by rw [hul]; simp)
            subst hus
            rw [e1]
            refine ⟨a.eval x, w, run_append_none hu hie o1 0, ?_, World.grownBy.refl w _, .inl rfl⟩
            rw [List.append_nil]; exact o1
          · have hcell := fun j u hj => o2.cells (g := g) (by rw [e1]; rfl) j u hj
            rw [e1]
            obtain ⟨v', w', k1, k2, k3, _, k4⟩ := run_append_own_at (P := P) w 0 T ty e ie z (G.csz t) ie.bytes hu hie hzr hsz rfl hzs hpos (a.eval x) xs.length vs o1 ⟨g, 0, none⟩ ys.length cap us hul (fun j u hj => hcell j u hj) hone h63 hbytes (Nat.zero_le _)
            exact ⟨v', w', k1, k2, k3, k4⟩
        obtain ⟨v', w', k1, k2, k3, k4⟩ := hrun
        simp only [newOb] at h
        have bkx : ∀ k, (a.eval x).ownBlock = some k → k ∈ fq1 := by
          intro k hk
          rw [← bk_own (b := k) o1] at hk
          rcases q1 with ⟨e1, _⟩ | ⟨b, e1, e2⟩
          · rw [e1] at hk; cases hk
          · rw [e1] at hk; injection hk with hk; subst hk; rw [e2]; exact List.mem_cons_self
        have hmem := fun k (hk : k ∈ fq1) => D2.mem k (List.mem_append_left _ hk)
        have hfr : Fr W w0.heap.size w w' := Fr.of_grown k3 M2.fr.size (fun k hk => (hmem k (bkx k hk)).2.2.1)
        -- which blocks stay
        have stay : ∀ k, k < w.heap.size → (∀ b, (a.eval x).ownBlock = some b → k ≠ b) → w'.heap[k]? = w.heap[k]? := fun k hk hne => k3.block k hk (fun ee => hne k ee.symm rfl)
        have stayB : ∀ o' b k, get ob2 o' = some b → live b = true → bk (pl o') = some k → w'.heap[k]? = w.heap[k]? := fun o' b k hg hl hk => stay k (M2.blt hg hl hk) (fun b' hb' ee => by subst ee; exact (hmem k (bkx k hb')).2.1 o' b hg hl hk)
        have stayF : ∀ o' k, k ∈ f2 o' → w'.heap[k]? = w.heap[k]? := fun o' k hk => stay k (T2.lt o' k hk) (fun b' hb' ee => by subst ee; exact (hmem k (bkx k hb')).1 o' hk)
        have hsub1 : ∀ k, k ∈ fp1 → k ∈ fq1 := fun k hk => by
          rcases q1 with ⟨_, e1, _⟩ | ⟨b, _, e1⟩
          · rw [e1] at hk; cases hk
          · rw [e1]; exact List.mem_cons_of_mem _ hk
        have hsub2 : ∀ k, k ∈ fp2 → k ∈ fq2 := fun k hk => by
          rcases q2 with ⟨_, e1, _⟩ | ⟨b, _, e1⟩
          · rw [e1] at hk; cases hk
          · rw [e1]; exact List.mem_cons_of_mem _ hk
        have nd := D2.nd
        have nd1 : fp1.Nodup := by
          rw [List.nodup_append] at nd
          rcases q1 with ⟨_, e1, _⟩ | ⟨b, _, e1⟩
          · rw [e1]; exact List.nodup_nil
          · have := nd.1; rw [e1] at this; exact (List.nodup_cons.1 this).2
        have nd2 : fp2.Nodup := by
          rw [List.nodup_append] at nd
          rcases q2 with ⟨_, e1, _⟩ | ⟨b, _, e1⟩
          · rw [e1]; exact List.nodup_nil
          · have := nd.2.1; rw [e1] at this; exact (List.nodup_cons.1 this).2
        have ndd : (fp1 ++ fp2).Nodup := by
          rw [List.nodup_append] at nd ⊢
          exact ⟨nd1, nd2, fun a ha b hb => nd.2.2 a (hsub1 a ha) b (hsub2 b hb)⟩
        have inD : ∀ k, k ∈ fp1 ++ fp2 → k ∈ fq1 ++ fq2 := fun k hk => by
          rcases List.mem_append.1 hk with hk | hk
          · exact List.mem_append_left _ (hsub1 k hk)
          · exact List.mem_append_right _ (hsub2 k hk)
        have notroot : ∀ k, k ∈ fp1 ++ fp2 → ∀ b, (a.eval x).ownBlock = some b → k ≠ b := by
          intro k hk b hb ee
          subst ee
          rw [← bk_own (b := k) o1] at hb
          rcases q1 with ⟨e1, _⟩ | ⟨b', e1, e2⟩
          · rw [e1] at hb; cases hb
          · rw [e1] at hb
            injection hb with hb
            subst hb
            rw [List.nodup_append] at nd
            rcases List.mem_append.1 hk with hk | hk
            · have := nd.1; rw [e2] at this; exact (List.nodup_cons.1 this).1 hk
            · exact nd.2.2 b' (by rw [e2]; exact List.mem_cons_self) b' (hsub2 b' hk) rfl
        have hO : OwnR G w' t (xs ++ ys) (vs ++ us) (fp1 ++ fp2) := (r1.append r2).mono fun k hk => stay k (D2.mem k (inD k hk)).2.2.2.2 (notroot k hk)
        have hzs' : ∀ k j, Z k j → w'.heap[k]? = w.heap[k]? := fun k j hz => stay k (M2.zlt k j hz) (fun b' hb' ee => by subst ee; exact (hmem k (bkx k hb')).2.2.2.1 j hz)
        have X := (Ext.of_chg (Z := Z) (pl := pl) (nx := nx) (w' := w') hzs').upd rfl v'
        have hpl : upd pl nx v' nx = v' := upd_same _ _ _
        have hrow : w'.ownsRow 0 e (G.csz t) (upd pl nx v' nx) (xs ++ ys).length (vs ++ us) := by rw [hpl, List.length_append]; exact k2
        have K1 := M2.keep X (fun o' b k hg hl hk => ⟨stayB o' b k hg hl hk, M2.zfar o' b k hg hl hk⟩) (fun k j hz => Nat.lt_of_lt_of_le (M2.zlt k j hz) hfr.size) (fun _ _ h => .inl h) hfr ⟨f2, T2, fun o' k hk => ⟨stayF o' k hk, T2.zfar o' k hk⟩⟩
        have T3 := T2.keep (pl' := upd pl nx v') (nx' := nx + 1) (w' := w') (Z' := Z) M2.lt (Nat.le_succ _) X.hp (fun o' b k hg hl hk => stayB o' b k hg hl hk) (fun o' k hk => ⟨stayF o' k hk, T2.zfar o' k hk⟩) hfr.size
        have hnone : ∀ b, get ob2 nx = some b → False := fun b hb => Nat.lt_irrefl _ (M2.lt nx b hb)
        have T4 := T3.set nx (fp1 ++ fp2) (fun b hb => (hnone b hb).elim) ndd (fun k hk => by
          obtain ⟨a1, a2, a3, a4, a5⟩ := D2.mem k (inD k hk)
          exact .inr ⟨a1, fun o' b hgb hl hb => a2 o' b hgb hl (by rw [← X.hp o' (M2.lt o' b hgb)]; exact hb), a3, a4, Nat.lt_of_lt_of_le a5 hfr.size⟩)
        -- the new row's own block
        have hroot : ∀ k, bk v' = some k → (a.eval x).ownBlock = some k ∨ k = w.heap.size := by
          intro k hk
          rw [bk_own (b := k) k2] at hk
          rcases k4 with k4 | k4
          · rw [hk] at k4; exact .inl k4.symm
          · rw [hk] at k4; injection k4 with k4; exact .inr k4
        have T5 := T4.put nx (.tr e t (xs ++ ys)) (by
          show ∃ vs, _ ∧ OwnR G w' t (xs ++ ys) vs (if nx = nx then fp1 ++ fp2 else f2 nx)
          rw [if_pos rfl]
          exact ⟨_, hrow, hO⟩) (fun _ k hk o' hm => by
          rw [hpl] at hk
          have hm : k ∈ (if o' = nx then fp1 ++ fp2 else f2 o') := hm
          rcases hroot k hk with h | h
          · split at hm
            · exact notroot k hm k h rfl
            · exact (hmem k (bkx k h)).1 o' hm
          · subst h
            split at hm
            · exact Nat.lt_irrefl _ (D2.mem _ (inD _ hm)).2.2.2.2
            · exact Nat.lt_irrefl _ (T2.lt o' _ hm))
        have M : Mem W w0 Z (upd pl nx v') ((nx, .tr e t (xs ++ ys)) :: ob2) (nx + 1) w' := K1.add nx (.tr e t (xs ++ ys)) (Nat.lt_succ_self _) ⟨_, hrow⟩ (fun _ k hk => by
          rw [hpl] at hk
          rcases hroot k hk with h | h
          · obtain ⟨a1, a2, a3, a4, a5⟩ := hmem k (bkx k h)
            refine ⟨a3, a4, fun o' b' ho' hg' hl' hk' => ?_⟩
            rw [upd_far pl v' ho'] at hk'
            exact a2 o' b' hg' hl' hk'
          · subst h
            refine ⟨.inl M2.fr.size, fun j hz => Nat.lt_irrefl _ (M2.zlt _ j hz), fun o' b' ho' hg' hl' hk' => ?_⟩
            rw [upd_far pl v' ho'] at hk'
            exact Nat.lt_irrefl _ (M2.blt hg' hl' hk')) ⟨_, T5⟩
        exact op_value (exe v' w' k1) h (S.at (L' := ⟨tm, _, nx + 1⟩) X M rfl) ⟨⟨Nat.lt_succ_self _, hpl.symm⟩, by
          rcases k2.2 with ⟨e1, _⟩ | ⟨g, cap, cur, e1, _⟩ <;> rw [e1] <;> rfl⟩ hK
      · cases h
    · cases h
  · cases h
end Go.Proofs.YtmcbhnbemhfifaaDoor.RX
