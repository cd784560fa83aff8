/- What was taken out of a row that owns what it leads to is put back; a store into such a row. Conditions: SigOK; the types' table. -/
import Derived.Test.YtmcbhnbemhfifaaDoorRxV3
namespace Go.Proofs.YtmcbhnbemhfifaaDoor.RX
open Go Go.RowKit
set_option autoImplicit false
variable {G : Sig} {R : Type} {P : Program} {W : Rights} {w0 w w' : World} {Z Z' : Nat → Nat → Prop} {pl pl' : Nat → Value} {N : Nat} {objs : List (Nat × Ob G)} {nx : Nat} {f : Nat → List Nat}
variable {E : Env G R} {o : Oper} {L : St G} {K : St G → Option R} {r : R} {a : Act} {next : Act → World → Prop} {Q : Exit → Act → World → Prop}

theorem dft_eq (G : Sig) (t : Ty) : dftT G t = dft G t := by cases t <;> rfl
theorem closeT_tm (L : St G) (o : Nat) : (closeT L o).tmps = L.tmps ∧ (closeT L o).nx = L.nx := by
  cases L with
  | mk tm ob nx =>
    simp only [closeT]
    split
    · split
      · split <;> exact ⟨rfl, rfl⟩
      · split <;> exact ⟨rfl, rfl⟩
      · exact ⟨rfl, rfl⟩
    · exact ⟨rfl, rfl⟩
theorem setAt_one {α : Type} (l : List α) (n : Nat) (y : α) : RX.setAt l n [y] = l.set n y := by
  induction l generalizing n with
  | nil => cases n <;> rfl
  | cons a l ih => cases n with
    | zero => cases l <;> rfl
    | succ n => simp only [RX.setAt, List.set_cons_succ, ih]
/-- What was taken out is put back. -/
theorem closeT_ok (M : Mem W w0 Z pl L.objs L.nx w) (o : Nat) : Mem W w0 Z pl (closeT L o).objs L.nx w := by
  cases L with
  | mk tm ob nx =>
    have M : Mem W w0 Z pl ob nx w := M
    have fin : ∀ (e : TypeId) (t : Ty) (xs : List (G.D t)) (i off o2 : Nat) (e' : TypeId) (t' : Ty) (ys : List (G.D t')) (y : G.D t), get ob o = some (.fo e t xs i off o2) →
        ((get ob o2 = some (.arr e' t' ys) ∧ ∃ n, flatN G n [t'] = true) ∨ get ob o2 = some (.tr e' t' ys)) → putL t (xs.getD i (dftT G t)) off ⟨.sl e' t', ys⟩ = some y → Mem W w0 Z pl ((o, .tr e t (xs.set i y)) :: (o2, .dead) :: ob) nx w := by
      intro e t xs i off o2 e' t' ys y hg hg2 hy
      obtain ⟨f, T⟩ := M.tr
      have hne : o2 ≠ o := by intro ee; subst ee; rcases hg2 with ⟨h, _⟩ | h <;> (rw [hg] at h; cases h)
      obtain ⟨vs, k1, k2, k3, k4, ⟨vc, k5, kw⟩, A, B, k6, k7⟩ := T.rep o _ hg
      obtain ⟨fq, q1, q2, q3, q4, _⟩ := T.take M Det.nil hg2
      have hrow := k7 w (fun _ _ => rfl) (.sl e' t') ys vc fq y (q1.weak kw) hy
      have hvs : vs.set (i * G.csz t + off) vc = vs := by
        obtain ⟨hl, hv⟩ := List.getElem?_eq_some_iff.1 k5
        rw [← hv]; exact List.set_getElem_self hl
      rw [hvs] at hrow
      have MK := M.kill o2 k4
      have hgo : get ((o2, Ob.dead) :: ob) o = some (.fo e t xs i off o2) := by rw [get_far _ _ hne]; exact hg
      have hfo : gone f o2 o = A ++ B := by rw [← k6]; show (if o = o2 then [] else f o) = f o; rw [if_neg (Ne.symm hne)]
      have nAB : (A ++ B).Nodup := by rw [← k6]; exact T.nd o
      have hD := q4.mem
      rw [List.nil_append] at hD
      have nq : fq.Nodup := by have := q4.nd; rwa [List.nil_append] at this
      have hnd : (A ++ fq ++ B).Nodup := by
        rw [List.append_assoc]
        rw [List.nodup_append] at nAB ⊢
        refine ⟨nAB.1, List.nodup_append.2 ⟨nq, nAB.2.1, fun x hx b hb e => ?_⟩, fun x hx b hb e => ?_⟩
        · subst e; exact (hD x hx).1 o (by rw [hfo]; exact List.mem_append_right _ hb)
        · subst e
          rcases List.mem_append.1 hb with hb | hb
          · exact (hD x hb).1 o (by rw [hfo]; exact List.mem_append_left _ hx)
          · exact nAB.2.2 x hx x hb rfl
      have T3 := (q3.kill o).set o (A ++ fq ++ B) (fun b hb => by rw [get_same] at hb; cases hb; trivial) hnd (fun k hk => by
        rw [List.append_assoc] at hk
        have live' : ∀ o' b, get ((o, Ob.dead) :: (o2, Ob.dead) :: ob) o' = some b → live b = true → get ((o2, Ob.dead) :: ob) o' = some b := by
          intro o' b hgb hl
          have hne' : o ≠ o' := by intro ee; subst ee; rw [get_same] at hgb; cases hgb; cases hl
          rwa [get_far _ _ hne'] at hgb
        rcases List.mem_append.1 hk with hk | hk
        · exact .inl (by rw [hfo]; exact List.mem_append_left _ hk)
        rcases List.mem_append.1 hk with hk | hk
        · obtain ⟨a1, a2, a3⟩ := hD k hk
          exact .inr ⟨a1, fun o' b hgb hl hb => a2 o' b (live' o' b hgb hl) hl hb, a3⟩
        · exact .inl (by rw [hfo]; exact List.mem_append_right _ hk))
      have hroot : ∀ k, bk (pl o) = some k → ∀ o', k ∉ (fun n => if n = o then A ++ fq ++ B else gone f o2 n) o' := by
        intro k hk o' hm
        have hm : k ∈ (if o' = o then A ++ fq ++ B else gone f o2 o') := hm
        split at hm
        · rw [List.append_assoc] at hm
          rcases List.mem_append.1 hm with hm | hm
          · exact T.root o k o _ (by rw [k6]; exact List.mem_append_left _ hm) hg rfl hk
          rcases List.mem_append.1 hm with hm | hm
          · exact (hD k hm).2.1 o _ hgo rfl hk
          · exact T.root o k o _ (by rw [k6]; exact List.mem_append_right _ hm) hg rfl hk
        · exact T.root o' k o _ (gone_mem hm).1 hg rfl hk
      have T4 := T3.put o (.tr e t (xs.set i y)) (by
        show ∃ vs, _ ∧ OwnR G w t (xs.set i y) vs (if o = o then A ++ fq ++ B else _)
        rw [if_pos rfl]
        exact ⟨vs, by rw [List.length_set]; exact k1, hrow⟩) (fun _ k hk => hroot k hk)
      refine MK.add o (.tr e t (xs.set i y)) (M.lt o _ hg) ⟨vs, by rw [List.length_set]; exact k1⟩ (fun _ k hk => ?_) ⟨_, T4.congr fun n => by simp only [get_cons]; split <;> rfl⟩
      exact ⟨MK.own o (.fo e t xs i off o2) k hgo rfl hk, MK.zfar o _ k hgo rfl hk, fun o' b' ho' hg' hl' hk' => ho' (MK.sep o' o b' _ k hg' hl' hgo rfl hk' hk)⟩
    show Mem W w0 Z pl (closeT ⟨tm, ob, nx⟩ o).objs nx w
    simp only [closeT]
    split
    · rename_i e t xs i off o2 hg
      split
      · rename_i e' t' ys hg2
        split
        · rename_i y hf hy
          exact fin e t xs i off o2 e' t' ys y hg (.inl ⟨hg2, 99, hf⟩) hy
        · exact M
      · rename_i e' t' ys hg2
        split
        · rename_i y hy
          exact fin e t xs i off o2 e' t' ys y hg (.inr hg2) hy
        · exact M
      · exact M
    · exact M
theorem Sat.close0 (S : Sat N W w0 Z pl L a w) (o : Nat) : Sat N W w0 Z pl (closeT L o) a w := by
  obtain ⟨h1, h2⟩ := closeT_tm L o
  refine S.at (L' := closeT L o) (by rw [h2]; exact Ext.refl _ _ _ _) (by rw [h2]; exact closeT_ok S.mem o) h1
theorem closeL_tm : ∀ (l : List (Nat × Ob G)) (L : St G), (closeL l L).tmps = L.tmps ∧ (closeL l L).nx = L.nx
  | [], _ => ⟨rfl, rfl⟩
  | (o, _) :: r, L => by
    obtain ⟨a, b⟩ := closeL_tm r (closeT L o)
    obtain ⟨c, d⟩ := closeT_tm L o
    exact ⟨a.trans c, b.trans d⟩
theorem closeAll_tm (L : St G) : (closeAll L).tmps = L.tmps ∧ (closeAll L).nx = L.nx := by
  cases L with
  | mk tm ob nx =>
    simp only [closeAll]
    split
    · exact closeL_tm _ _
    · exact ⟨rfl, rfl⟩
theorem Sat.closeL : ∀ (l : List (Nat × Ob G)) {L : St G}, Sat N W w0 Z pl L a w → Sat N W w0 Z pl (RX.closeL l L) a w
  | [], _, S => S
  | (o, _) :: r, _, S => Sat.closeL r (S.close0 o)
theorem Sat.closeAll (S : Sat N W w0 Z pl L a w) : Sat N W w0 Z pl (RX.closeAll L) a w := by
  cases L with
  | mk tm ob nx =>
    simp only [RX.closeAll]
    split
    · exact Sat.closeL _ S
    · exact S
theorem Sat.close (S : Sat N W w0 Z pl L a w) (o : Nat) : Sat N W w0 Z pl (closeT L o) a w := by
  obtain ⟨h1, h2⟩ := closeT_tm L o
  refine S.at (L' := closeT L o) (by rw [h2]; exact Ext.refl _ _ _ _) (by rw [h2]; exact closeT_ok S.mem o) h1

/-- A store into an element of a row that owns what it leads to. -/
theorem op_storeT (hs : SigOK G) {ti : TI} {T : TypeId} (tk : TOK P G T ti) {x v : Operand} {s : SV G} (hsv : evalO L v = some s) (hn : s.ls.length = ti.leaves.length) {i n z off : Nat} {e : TypeId} {t : Ty} {xs : List (G.D t)}
    (h : storeT E o s L i n z off e t xs K = some r) (S : Sat E.N W w0 Z pl L a w) (hg : get L.objs i = some (.tr e t xs)) (hx : LfOK Z w pl L.nx (.aptr i n z off : Leaf G) (a.eval x))
    (exe : ∀ w1, (Instr.storeAt T (a.eval x) (a.eval v)).run P w = .ok () w1 → (execOp a.eval o).run P w = .ok .skip w1) (hK : Then E W w0 K r next) : o.wp P a w next Q := by
  have hv := (evalO_ok S hsv).cells
  unfold storeT at h
  split at h
  · rename_i els ls' L1 gs hz hsvo habs
    have hz := Nat.eq_of_beq_eq_true hz
    subst hz
    split at h
    · rename_i hle
      rw [len_eq, len_eq] at hle
      have hle := ble_iff.1 hle
      split at h
      · rename_i y L2 htv
        split at h
        · rename_i y' tm ob nx hy
          split at h
          · rename_i e2 t2 x2 hg2
            obtain ⟨hgs, h⟩ := gdK_some h
            cases L with
            | mk tm0 ob0 nx0 =>
            have M0 : Mem W w0 Z pl ob0 nx0 w := S.mem
            have hg : get ob0 i = some (.tr e t xs) := hg
            obtain ⟨f, T0⟩ := M0.tr
            obtain ⟨fps, f1, l1, l2, lv, M1, T1, D1, b1, c1⟩ := absLs_ok s.ls habs hgs M0 T0 Det.nil hv
            have l1 : tm = tm0 := l1
            have l2 : nx = nx0 := l2
            subst l1 l2
            have M1 : Mem W w0 Z pl ob nx w := M1
            have T1 : TrOK W w0.heap.size Z pl ob nx w f1 := T1
            rw [List.nil_append] at D1
            have D1 : Det W w0.heap.size Z pl ob w f1 fps.flatten := D1
            have hg1 : get ob i = some (.tr e t xs) := by
              have := b1 i _ hg2 rfl
              rw [hg] at this
              rw [this]; exact hg2
            have S1 : Sat E.N W w0 Z pl ⟨tm, ob, nx⟩ a w := S.at (L' := ⟨tm, ob, nx⟩) (Ext.refl _ _ _ _) M1 rfl
            obtain ⟨vs, o1, o2⟩ := T1.rep i _ hg1
            obtain ⟨⟨_, b, n', c, hb, hnn, hav⟩, _⟩ := hx
            rcases o1.2 with ⟨e1, _⟩ | ⟨g, cap, cur, e1, e0, e3, e4, e5, e6, e7⟩
            · rw [hb] at e1; cases e1
            rw [hb] at e1
            injection e1 with e1 e1' e1''
            injection e1 with e1
            injection e1 with e1
            subst e1 e1' e1''
            have hll := lv.length.1
            have hlsl : ls'.length = s.ls.length := by have := hv.length; omega
            obtain ⟨hel, A, B, fpo, k6, k7, k8⟩ := o2.part hs (m := ls'.length) hnn hsvo hle
            have hvl2 : vs.length = xs.length * G.csz t := o1.1
            have hcur : cur.toList.toArray = cur := by simp
            have hmul : (n + 1) * G.csz t ≤ xs.length * G.csz t := Nat.mul_le_mul_right _ hnn
            rw [Nat.add_mul, Nat.one_mul] at hmul
            have hcs : cur.toList.length = c * G.csz t := by rw [← e6]; exact Array.length_toList
            have hsz : xs.length * G.csz t ≤ cur.toList.length := by rw [hcs]; exact Nat.mul_le_mul_right _ e4
            have hvl := hv.length
            have hoff : off + (a.eval v).cells.toList.length ≤ G.csz t := by rw [hvl, ← hlsl, ← hel]; exact hle
            have hrun := run_storeAt ti tk (off := n * G.csz t + off) (cs := cur.toList) (by rw [hcur]; exact e3) (u := a.eval v) hv.one (by rw [hvl, hn]) (by rw [← hn, ← hvl]; omega)
            have hbi : bk (pl i) = some b := by rw [hb]; rfl
            have hroot1 : ∀ k, k ∈ fps.flatten → k ≠ b := fun k hk ee => (D1.mem k hk).2.1 i _ hg1 rfl (by rw [ee]; exact hbi)
            have hroot2 : ∀ o' k, k ∈ f1 o' → k ≠ b := fun o' k hk ee => T1.root o' k i _ hk hg1 rfl (by rw [ee]; exact hbi)
            have hAB : ∀ k, k ∈ A ++ B → k ∈ f1 i := fun k hk => by
              rw [k6]
              rcases List.mem_append.1 hk with hk | hk
              · exact List.mem_append_left _ hk
              · exact List.mem_append_right _ (List.mem_append_right _ hk)
            let w' := w.setRow b (RX.setAt cur.toList (n * G.csz t + off) (a.eval v).cells.toList).toArray
            have hother : ∀ k, k ≠ b → w'.heap[k]? = w.heap[k]? := fun k hk => setRow_other w b k _ hk
            have hfr : Fr W w0.heap.size w w' := own_fr S1 hg1 rfl hbi (by rw [hcur]; exact e3) (setAt_length _ _ _) (fun ro ls he => by cases he)
            have hrow : ∃ vs', w'.ownsRow 0 e (G.csz t) (pl i) (xs.set n y').length vs' ∧ vs' = RX.setAt vs (n * G.csz t + off) (a.eval v).cells.toList := by
              refine ⟨_, ?_, rfl⟩
              rw [hb]
              refine ⟨by rw [setAt_length, List.length_set, hvl2], .inr ⟨b, c, (RX.setAt cur.toList (n * G.csz t + off) (a.eval v).cells.toList).toArray, by rw [List.length_set], Nat.zero_le _, setRow_heap w b _ _ _ _ e3, by rw [List.length_set]; exact e4, e5, ?_, ?_⟩⟩
              · rw [List.size_toArray, setAt_length, hcs]
              · show (RX.setAt cur.toList (n * G.csz t + off) (a.eval v).cells.toList).take _ = _
                rw [List.length_set, setAt_take _ _ _ _ (by omega) hsz, e7]
            obtain ⟨vs', hrow, rfl⟩ := hrow
            obtain ⟨_, hown⟩ := k8 w' (fun k hk => hother k (hroot2 i k (hAB k hk))) ls' _ fps _ _ _ (lv.mono fun k hk => hother k (hroot1 k hk)) rfl htv y' hy
            have nold : (A ++ (fpo.flatten ++ B)).Nodup := by rw [← k6]; exact T1.nd i
            have hnd : (A ++ (fps.flatten ++ B)).Nodup := by
              rw [List.nodup_append] at nold ⊢
              obtain ⟨n1, n2, n3⟩ := nold
              rw [List.nodup_append] at n2
              refine ⟨n1, List.nodup_append.2 ⟨D1.nd, n2.2.1, fun x hx b' hb' ee => ?_⟩, fun x hx b' hb' ee => ?_⟩
              · subst ee; exact (D1.mem x hx).1 i (hAB x (List.mem_append_right _ hb'))
              · subst ee
                rcases List.mem_append.1 hb' with hb' | hb'
                · exact (D1.mem x hb').1 i (hAB x (List.mem_append_left _ hx))
                · exact n3 x hx x (List.mem_append_right _ hb') rfl
            have S2 := S1.writeF (w' := w') (ob' := .tr e t (xs.set n y')) T1 hg1 rfl hbi hother hfr (fun base hh => hh) (fun X => ⟨_, hrow⟩)
              (fun T' hnb => by
                have T3 := T'.set i (A ++ (fps.flatten ++ B)) (fun b hb => by rw [get_same] at hb; cases hb; trivial) hnd (fun k hk => by
                  have live' : ∀ o' b, get ((i, Ob.dead) :: ob) o' = some b → live b = true → get ob o' = some b := by
                    intro o' b hgb hl
                    have hne' : i ≠ o' := by intro ee; subst ee; rw [get_same] at hgb; cases hgb; cases hl
                    rwa [get_far _ _ hne'] at hgb
                  rcases List.mem_append.1 hk with hk | hk
                  · exact .inl (hAB k (List.mem_append_left _ hk))
                  rcases List.mem_append.1 hk with hk | hk
                  · obtain ⟨a1, a2, a3, a4, a5⟩ := D1.mem k hk
                    exact .inr ⟨a1, fun o' b hgb hl hb => a2 o' b (live' o' b hgb hl) hl hb, a3, a4, Nat.lt_of_lt_of_le a5 hfr.size⟩
                  · exact .inl (hAB k (List.mem_append_right _ hk)))
                refine ⟨_, T3.put i (.tr e t (xs.set n y')) ?_ (fun _ k hk o' hm => ?_)⟩
                · show ∃ vs, _ ∧ OwnR G w' t (xs.set n y') vs (if i = i then A ++ (fps.flatten ++ B) else _)
                  rw [if_pos rfl]
                  exact ⟨_, hrow, hown⟩
                · rw [hbi] at hk
                  injection hk with hk
                  subst hk
                  have hm : b ∈ (if o' = i then A ++ (fps.flatten ++ B) else f1 o') := hm
                  split at hm
                  · rcases List.mem_append.1 hm with hm | hm
                    · exact hroot2 i b (hAB b (List.mem_append_left _ hm)) rfl
                    rcases List.mem_append.1 hm with hm | hm
                    · exact hroot1 b hm rfl
                    · exact hroot2 i b (hAB b (List.mem_append_right _ hm)) rfl
                  · exact hroot2 o' b hm rfl)
            refine wp_skip' (exe _ ?_) (out_ok h S2 (show DVOK _ _ _ _ DV.und undef from rfl) hK)
            rw [hav]; exact hrun
          · cases h
        · cases h
      · cases h
    · cases h
  · cases h
theorem wkL_ok {ob : List (Nat × Ob G)} (M : Mem W w0 Z pl ob nx w) {p : PLeaf} {l : Leaf G} {u : Value} (hg : ∀ n, (wkL ob p l).2 = some n → n = 0) (hu : LfOK Z w pl nx l u) : LfOK Z w pl nx (wkL ob p l).1 u := by
  have nil : ∀ (e : TypeId) (t : Ty) (xs : List (G.D t)) (v : Value), RepC G Z w (.sl e t) xs [v] → xs.length = 0 → ∃ A c, v = .slice A 0 c := by
    intro e t xs v h h0
    generalize hq : [v] = q at h
    cases h with
    | sl _ _ _ A c b o cs hc hA hl hz hr => injection hq with hq _; rw [h0] at hq; exact ⟨A, c, hq⟩
  cases p with
  | warr j =>
    cases l with
    | val t x =>
      cases t with
      | sl e t => exact ⟨nil e t _ u hu.1 (hg _ rfl), hu.2⟩
      | _ => exact hu
    | aref o =>
      simp only [wkL] at hg ⊢
      split
      · rename_i e t xs hgo
        rw [hgo] at hg
        have h1 : RepC G Z w (.sl e t) xs [pl o] := M.ob o _ hgo
        rw [← hu.1.2] at h1
        exact ⟨nil e t xs u h1 (hg _ rfl), hu.2⟩
      · exact hu
    | wref o =>
      simp only [wkL] at hg ⊢
      split
      · rename_i e t xs hgo
        rw [hgo] at hg
        have h1 : RepC G Z w (.sl e t) xs [pl o] := M.ob o _ hgo
        exact ⟨nil e t xs u (h1.weak hu.1.2) (hg _ rfl), hu.2⟩
      · exact hu
    | _ => exact hu
  | _ => exact hu
theorem wkLs_ok {ob : List (Nat × Ob G)} (M : Mem W w0 Z pl ob nx w) : ∀ {ps : List PLeaf} {ls : List (Leaf G)} {us : List Value}, (∀ n, n ∈ (wkLs ob ps ls).2 → n = 0) → LsOK Z w pl nx ls us → LsOK Z w pl nx (wkLs ob ps ls).1 us
  | [], ls, us, _, hu => by simpa only [wkLs] using hu
  | _ :: _, [], us, _, hu => by simpa only [wkLs] using hu
  | p :: ps, l :: ls, _, hg, ⟨u, us, e, h1, h2⟩ => by
    subst e
    simp only [wkLs] at hg ⊢
    obtain ⟨g1, g2⟩ := gdCons_mem hg
    exact ⟨u, us, rfl, wkL_ok M g1 h1, wkLs_ok M g2 h2⟩
theorem wkD_ok {ob : List (Nat × Ob G)} (M : Mem W w0 Z pl ob nx w) {p : PSV} {d : DV G} {u : Value} (hg : ∀ n, n ∈ (wkD ob p d).2 → n = 0) (hu : DVOK Z w pl nx d u) : DVOK Z w pl nx (wkD ob p d).1 u := by
  unfold wkD at hg ⊢
  split
  · rename_i p l
    simp only at hg
    obtain ⟨g1, _⟩ := gdCons_mem hg
    exact wkL_ok M g1 hu
  · rename_i ps ls
    simp only at hg
    obtain ⟨cs, e, h⟩ := hu
    exact ⟨cs, e, wkLs_ok M hg h⟩
  · exact hu
theorem wkDs_far {ob : List (Nat × Ob G)} (M : Mem W w0 Z pl ob nx w) {val : Nat → Value} {j : Nat} : ∀ {ps : List (Nat × PSV)} {ds : List (Nat × DV G)}, (∀ n, n ∈ (wkDs ob ps ds).2 → n = 0) → (∀ t d, get ds t = some d → t ≠ j → DVOK Z w pl nx d (val t)) → ∀ t d, get (wkDs ob ps ds).1 t = some d → t ≠ j → DVOK Z w pl nx d (val t)
  | [], ds, _, h => by simpa only [wkDs] using h
  | _ :: _, [], _, h => by simpa only [wkDs] using h
  | (_, p) :: ps, (i, d0) :: ds, hg, h => by
    intro t d ht hne
    simp only [wkDs] at hg ht
    rw [get_cons] at ht
    have far : ∀ {ps : List (Nat × PSV)} {ds : List (Nat × DV G)}, (∀ n, n ∈ (wkDs ob ps ds).2 → n = 0) → (∀ d, get ds t = some d → DVOK Z w pl nx d (val t)) → ∀ d, get (wkDs ob ps ds).1 t = some d → DVOK Z w pl nx d (val t) := by
      intro ps
      induction ps with
      | nil => intro ds _ h d hd; exact h d (by simpa only [wkDs] using hd)
      | cons x ps ih =>
        obtain ⟨_, p⟩ := x
        intro ds hg h d hd
        cases ds with
        | nil => exact h d (by simpa only [wkDs] using hd)
        | cons y ds =>
          obtain ⟨k, d1⟩ := y
          simp only [wkDs] at hg hd
          rw [get_cons] at hd
          split at hd
          · rename_i e
            injection hd with hd
            subst hd e
            exact wkD_ok M (fun n hn => hg n (List.mem_append_left _ hn)) (h d1 (get_same _ _ _))
          · rename_i e
            exact ih (fun n hn => hg n (List.mem_append_right _ hn)) (fun d hd => h d (by rw [get_far _ _ e]; exact hd)) d hd
    split at ht
    · rename_i e
      injection ht with ht
      subst ht e
      exact wkD_ok M (fun n hn => hg n (List.mem_append_left _ hn)) (h i d0 (get_same _ _ _) hne)
    · rename_i e
      exact far (fun n hn => hg n (List.mem_append_right _ hn)) (fun d hd => h t d (by rw [get_far _ _ e]; exact hd) hne) d ht
theorem wkDs_ok {ob : List (Nat × Ob G)} (M : Mem W w0 Z pl ob nx w) {val : Nat → Value} : ∀ {ps : List (Nat × PSV)} {ds : List (Nat × DV G)}, (∀ n, n ∈ (wkDs ob ps ds).2 → n = 0) → (∀ t d, get ds t = some d → DVOK Z w pl nx d (val t)) → ∀ t d, get (wkDs ob ps ds).1 t = some d → DVOK Z w pl nx d (val t)
  | [], ds, _, h => by simpa only [wkDs] using h
  | _ :: _, [], _, h => by simpa only [wkDs] using h
  | (_, p) :: ps, (j, d0) :: ds, hg, h => by
    intro t d ht
    simp only [wkDs] at hg ht
    rw [get_cons] at ht
    split at ht
    · rename_i e
      injection ht with ht
      subst ht e
      exact wkD_ok M (fun n hn => hg n (List.mem_append_left _ hn)) (h j d0 (get_same _ _ _))
    · rename_i e
      -- a place told twice is read where it is told first
      exact wkDs_far M (fun n hn => hg n (List.mem_append_right _ hn)) (j := j) (fun t d ht hne => h t d (by rw [get_far _ _ (Ne.symm hne)]; exact ht)) t d ht (Ne.symm e)
end Go.Proofs.YtmcbhnbemhfifaaDoor.RX
