/- A load out of an element of a row that owns what it leads to: a row of the element is taken out. Conditions: SigOK; the types' table. -/
import Derived.Test.YtmcbhnbemhfifaaDoorRxV4
namespace Go.Proofs.YtmcbhnbemhfifaaDoor.RX
open Go Go.RowKit
set_option autoImplicit false
variable {G : Sig} {R : Type} {P : Program} {W : Rights} {w0 w w' : World} {Z Z' : Nat → Nat → Prop} {pl pl' : Nat → Value} {N : Nat} {objs : List (Nat × Ob G)} {nx : Nat} {f : Nat → List Nat}
variable {E : Env G R} {o : Oper} {L : St G} {K : St G → Option R} {r : R} {a : Act} {next : Act → World → Prop} {Q : Exit → Act → World → Prop}

/-- A row of a value: as an object, weakly told. -/
theorem OwnC.asRow {e : TypeId} {t : Ty} {ys : List (G.D t)} {v : Value} {fp : List Nat} (h : OwnC G w (.sl e t) ys [v] fp) : ∃ hdr vs fq, Weak hdr v ∧ w.ownsRow 0 e (G.csz t) hdr ys.length vs ∧ OwnR G w t ys vs fq ∧
    ((bk hdr = none ∧ fq = [] ∧ fp = []) ∨ ∃ b, bk hdr = some b ∧ fp = b :: fq) := by
  generalize hq : [v] = q at h
  cases h with
  | sl0 _ _ A c =>
    injection hq with hq _
    exact ⟨.slice none 0 0, [], [], .inr ⟨rfl, A, c, hq⟩, World.ownsRow_nil w 0 e _, .nil t, .inl ⟨rfl, rfl, rfl⟩⟩
  | sl _ _ _ v' vs b fq ho hb hr =>
    injection hq with hq _
    subst hq
    exact ⟨v, vs, fq, .inl rfl, ho, hr, .inr ⟨b, by rw [bk_own (b := b) ho]; exact hb, rfl⟩⟩
theorem op_loadT (hs : SigOK G) {ti : TI} {T : TypeId} (tk : TOK P G T ti) {x : Operand} {i n z off : Nat} {e : TypeId} {t : Ty} {xs : List (G.D t)}
    (h : loadT E o ti L i n z off e t xs K = some r) (S : Sat E.N W w0 Z pl L a w) (hg : get L.objs i = some (.tr e t xs)) (hx : LfOK Z w pl L.nx (.aptr i n z off : Leaf G) (a.eval x))
    (exe : ∀ u, (Instr.loadAt T (a.eval x)).run P w = .ok u w → (execOp a.eval o).run P w = .ok (.value u) w) (hK : Then E W w0 K r next) : o.rd P a w next := by
  unfold loadT at h
  split at h
  · rename_i els hz hsvo hagg
    have hz := Nat.eq_of_beq_eq_true hz
    subst hz
    obtain ⟨f, T0⟩ := S.mem.tr
    obtain ⟨vs, o1, o2⟩ := T0.rep i _ hg
    obtain ⟨⟨hix, b, n', c, hb, hnn, hav⟩, _⟩ := hx
    have hn' : n' = xs.length := by
      rcases o1.2 with ⟨e1, _⟩ | ⟨g, cap, cur, e1, _⟩
      · rw [hb] at e1; cases e1
      · rw [hb] at e1; injection e1
    subst hn'
    obtain ⟨l0, hl0⟩ := tk.one hagg
    -- the cell
    have cell : ∀ t' (x' : G.D t'), nth els off = some (.val t' x') → off < els.length ∧ ∃ v A B fp1, f i = A ++ (fp1 ++ B) ∧ vs[n * G.csz t + off]? = some v ∧ OwnC G w t' x' [v] fp1 ∧ v.oneCell' = true ∧ HoleOK G w t xs vs n off (A ++ B) ∧ off < G.csz t ∧
        (Instr.loadAt T (a.eval x)).run P w = .ok v w := by
      intro t' x' hl
      rw [nth_eq] at hl
      obtain ⟨hlt, hlv⟩ := List.getElem?_eq_some_iff.1 hl
      obtain ⟨hel, A, B, fps, k6, k7, k8⟩ := o2.part hs (off := off) (m := 1) hnn hsvo (by omega)
      have e1 : (els.drop off).take 1 = [.val t' x'] := by
        rw [List.drop_eq_getElem_cons hlt, List.take_succ_cons, List.take_zero, hlv]
      rw [e1] at k7
      obtain ⟨v, vs', fp, fps', q1, q2, ⟨q3, q4⟩, q5, q6⟩ := k7
      subst q5 q6 q2
      have hvv : vs[n * G.csz t + off]? = some v := by
        have := congrArg (fun l => l[0]?) q1
        simpa [List.getElem?_take, List.getElem?_drop] using this
      refine ⟨hlt, v, A, B, fp, by simpa using k6, hvv, q3, q4, ?_, by rw [← hel]; exact hlt, ?_⟩
      · refine ⟨A, B, rfl, fun w' hw t'' x'' v' fq y hO hy => ?_⟩
        unfold putL at hy
        rw [dft_eq, hsvo] at hy
        simp only at hy
        split at hy
        · rename_i y0 L0 hsv0
          have hone : v'.oneCell' = true := OwnC.one hO v' (List.mem_singleton.2 rfl)
          have := (k8 w' hw [.val t'' x''] [v'] [fq] _ _ _ ⟨v', [], fq, [], rfl, rfl, ⟨hO, hone⟩, rfl, rfl⟩ rfl hsv0 y hy).2
          rw [setAt_one] at this
          simpa [List.append_assoc] using this
        · cases hy
      · obtain ⟨u', v1, _, v3⟩ := run_loadAt (w := w) ti tk (b := b) (off := n * G.csz t + off) (cs := [v]) (fun j u hj => by
          cases j with
          | zero =>
            injection hj with hj
            subst hj
            have := o1.cells (g := b) (by rw [hb]; rfl) _ v hvv
            have hadd : (⟨b, 0, none⟩ : Addr).add (n * G.csz t + off) = ⟨b, n * G.csz t + off, none⟩ := by unfold Addr.add; split <;> simp_all
            rw [hadd] at this
            exact this
          | succ j => simp at hj) (by rw [hl0]; rfl)
        have := v3 hagg
        injection this with this _
        rw [hav, this]; exact v1
    split at h
    · -- a row
      rename_i e' t' ys hl
      obtain ⟨_, v, A, B, fp1, k6, hvv, q3, q4, hole, hofz, hrun⟩ := cell _ _ hl
      obtain ⟨hdr, vs2, fq, hw, r1, r2, r3⟩ := q3.asRow
      cases L with
      | mk tm ob nx =>
      have M : Mem W w0 Z pl ob nx w := S.mem
      have hg : get ob i = some (.tr e t xs) := hg
      have hix : i < nx := hix
      have hne : i ≠ nx := Nat.ne_of_lt hix
      have hne' : nx ≠ i := Ne.symm hne
      let pl' := upd pl nx hdr
      have X : Ext Z w pl nx Z w pl' (nx + 1) := (Ext.refl Z w pl nx).upd rfl hdr
      have hpi : pl' i = pl i := upd_far pl hdr hne
      have hpn : pl' nx = hdr := upd_same pl nx hdr
      have M0 : Mem W w0 Z pl' ob (nx + 1) w := M.keep X (fun o b k hg hl hk => ⟨rfl, M.zfar o b k hg hl hk⟩) M.zlt (fun _ _ h => .inl h) (Fr.refl _ _ _) ⟨f, T0, fun o k hk => ⟨rfl, T0.zfar o k hk⟩⟩
      have T1 : TrOK W w0.heap.size Z pl' ob (nx + 1) w f := T0.keep M.lt (Nat.le_succ _) X.hp (fun _ _ _ _ _ _ => rfl) (fun o k hk => ⟨rfl, T0.zfar o k hk⟩) (Nat.le_refl _)
      have nold : (A ++ (fp1 ++ B)).Nodup := by rw [← k6]; exact T0.nd i
      have hfp1 : ∀ k, k ∈ fp1 → k ∈ f i := fun k hk => by rw [k6]; exact List.mem_append_right _ (List.mem_append_left _ hk)
      have hABf : ∀ k, k ∈ A ++ B → k ∈ f i := fun k hk => by
        rw [k6]
        rcases List.mem_append.1 hk with hk | hk
        · exact List.mem_append_left _ hk
        · exact List.mem_append_right _ (List.mem_append_right _ hk)
      have nAB : (A ++ B).Nodup ∧ fp1.Nodup ∧ ∀ k, k ∈ fp1 → k ∉ A ++ B := by
        rw [List.nodup_append] at nold
        obtain ⟨n1, n2, n3⟩ := nold
        rw [List.nodup_append] at n2
        refine ⟨List.nodup_append.2 ⟨n1, n2.2.1, fun x hx y hy => n3 x hx y (List.mem_append_right _ hy)⟩, n2.1, fun k hk hk' => ?_⟩
        rcases List.mem_append.1 hk' with h | h
        · exact n3 k h k (List.mem_append_left _ hk) rfl
        · exact n2.2.2 k hk k h rfl
      have live' : ∀ o' b, get ((i, Ob.dead) :: ob) o' = some b → live b = true → get ob o' = some b := by
        intro o' b hgb hl
        have hne' : i ≠ o' := by intro ee; subst ee; rw [get_same] at hgb; cases hgb; cases hl
        rwa [get_far _ _ hne'] at hgb
      have T2 := (T1.kill i).set i (A ++ B) (fun b hb => by rw [get_same] at hb; cases hb; trivial) nAB.1 (fun k hk => .inl (hABf k hk))
      let f2 : Nat → List Nat := fun n => if n = i then A ++ B else f n
      have f2i : f2 i = A ++ B := if_pos rfl
      have f2f : ∀ o', o' ≠ i → f2 o' = f o' := fun o' ho => if_neg ho
      have T2 : TrOK W w0.heap.size Z pl' ((i, .dead) :: ob) (nx + 1) w f2 := T2
      have notin : ∀ k, k ∈ fp1 → ∀ o', k ∉ f2 o' := by
        intro k hk o' hm
        by_cases ho : o' = i
        · rw [ho, f2i] at hm; exact nAB.2.2 k hk hm
        · rw [f2f o' ho] at hm; exact ho (T0.sep o' i k hm (hfp1 k hk))
      have fqfp : ∀ k, k ∈ fq → k ∈ fp1 := fun k hk => by
        rcases r3 with ⟨_, e1, _⟩ | ⟨b2, _, e1⟩
        · rw [e1] at hk; cases hk
        · rw [e1]; exact List.mem_cons_of_mem _ hk
      have fqnd : fq.Nodup := by
        rcases r3 with ⟨_, e1, _⟩ | ⟨b2, _, e1⟩
        · rw [e1]; exact List.nodup_nil
        · have := nAB.2.1; rw [e1] at this; exact (List.nodup_cons.1 this).2
      have T3 := T2.set nx fq (fun b hb => by rw [get_far _ _ hne] at hb; exact absurd (M.lt nx b hb) (Nat.lt_irrefl _)) fqnd (fun k hk => by
        have hk1 := hfp1 k (fqfp k hk)
        exact .inr ⟨notin k (fqfp k hk), fun o' b hgb hl hb => T1.root i k o' b hk1 (live' o' b hgb hl) hl hb, T1.own i k hk1, T1.zfar i k hk1, T1.lt i k hk1⟩)
      let f3 : Nat → List Nat := fun n => if n = nx then fq else f2 n
      have T3 : TrOK W w0.heap.size Z pl' ((i, .dead) :: ob) (nx + 1) w f3 := T3
      have f3n : f3 nx = fq := if_pos rfl
      have f3i : f3 i = A ++ B := by show (if i = nx then fq else f2 i) = _; rw [if_neg hne]; exact f2i
      have rootn : ∀ k, bk hdr = some k → k ∈ fp1 ∧ ∀ o', k ∉ f3 o' := by
        intro k hk
        rcases r3 with ⟨e1, _⟩ | ⟨b2, e1, e2⟩
        · rw [e1] at hk; cases hk
        · rw [e1] at hk
          injection hk with hk
          subst hk
          have hmem : b2 ∈ fp1 := by rw [e2]; exact List.mem_cons_self
          refine ⟨hmem, fun o' hm => ?_⟩
          have hm : b2 ∈ (if o' = nx then fq else f2 o') := hm
          split at hm
          · have := nAB.2.1; rw [e2] at this; exact (List.nodup_cons.1 this).1 hm
          · exact notin b2 hmem o' hm
      have rooti : ∀ k, bk (pl i) = some k → ∀ o', k ∉ f3 o' := by
        intro k hk o' hm
        have hm : k ∈ (if o' = nx then fq else f2 o') := hm
        split at hm
        · exact T0.root i k i _ (hfp1 k (fqfp k hm)) hg rfl hk
        · by_cases ho : o' = i
          · rw [ho, f2i] at hm; exact T0.root i k i _ (hABf k hm) hg rfl hk
          · rw [f2f o' ho] at hm; exact T0.root o' k i _ hm hg rfl hk
      have fin : ∀ obN : Ob G, live obN = true → (∀ k, (w0.heap.size ≤ k ∨ ∀ j, W k j) → Own w0.heap.size W obN k) → ObOK Z w pl' (nx + 1) nx obN → TrRep w pl' (nx + 1) fq nx obN → out E o (.sv (.one (.wref nx))) ⟨tm, (i, .fo e t xs n off nx) :: (nx, obN) :: ob, nx + 1⟩ K = some r → o.rd P a w next := by
        intro obN hlN hOw hObN hTN h
        have T4 := T3.put nx obN (by rw [f3n]; exact hTN) (fun _ k hk => by rw [hpn] at hk; exact (rootn k hk).2)
        have hfo : TrRep w pl' (nx + 1) (f3 i) i (.fo e t xs n off nx) := by
          rw [f3i]
          exact ⟨vs, by rw [hpi]; exact o1, hnn, hofz, Nat.lt_succ_self _, ⟨v, hvv, by rw [hpn]; exact hw⟩, hole⟩
        have T5 := T4.put i (.fo e t xs n off nx) hfo (fun _ k hk => by rw [hpi] at hk; exact rooti k hk)
        have hnob : get ob nx = none := by
          cases hq : get ob nx with
          | none => rfl
          | some b => exact absurd (M.lt nx b hq) (Nat.lt_irrefl _)
        have MK := M0.kill i (Nat.lt_succ_of_lt hix)
        have M4 : Mem W w0 Z pl' ((nx, obN) :: (i, .dead) :: ob) (nx + 1) w := MK.add nx obN (Nat.lt_succ_self _) hObN (fun _ k hk => by
          rw [hpn] at hk
          have hk1 := hfp1 k (rootn k hk).1
          refine ⟨hOw k (T1.own i k hk1), T1.zfar i k hk1, fun o' b' ho' hg' hl' hk' => ?_⟩
          exact T1.root i k o' b' hk1 (live' o' b' hg' hl') hl' hk') ⟨f3, T4⟩
        have M5 : Mem W w0 Z pl' ((i, .fo e t xs n off nx) :: (nx, obN) :: (i, .dead) :: ob) (nx + 1) w := M4.add i (.fo e t xs n off nx) (Nat.lt_succ_of_lt hix) ⟨vs, by rw [hpi]; exact o1⟩ (fun _ k hk => by
          refine ⟨M0.own i (.tr e t xs) k hg rfl hk, M0.zfar i _ k hg rfl hk, fun o' b' ho' hg' hl' hk' => ?_⟩
          rw [get_cons] at hg'
          split at hg'
          · rename_i eo
            injection hg' with hg'
            subst hg' eo
            rw [hpn] at hk'
            rw [hpi] at hk
            exact T0.root i k i _ (hfp1 k (rootn k hk').1) hg rfl hk
          · exact ho' (M0.sep o' i b' _ k (live' o' b' hg' hl') hl' hg rfl hk' hk)) ⟨f3, T5⟩
        have M6 : Mem W w0 Z pl' ((i, .fo e t xs n off nx) :: (nx, obN) :: ob) (nx + 1) w := M5.congr fun m => by
          simp only [get_cons]
          split
          · rfl
          · split
            · rfl
            · rename_i h1 h2; rfl
        refine op_read (exe v hrun) h (S.at (L' := ⟨tm, _, nx + 1⟩) X M6 rfl) ?_ hK
        exact ⟨⟨Nat.lt_succ_self _, by rw [hpn]; exact hw⟩, q4⟩
      simp only at h
      split at h
      · rename_i hf
        exact fin (.arr e' t' ys) rfl (fun k h => h) ⟨vs2, by rw [hpn]; exact r1, r2.row fun k hk i => by
          have hnil : ∀ k, k ∈ fq → False := flat_nil hf r2
          exact (hnil k hk).elim⟩ trivial h
      · exact fin (.tr e' t' ys) rfl (fun k h => h) ⟨vs2, by rw [hpn]; exact r1⟩ ⟨vs2, by rw [hpn]; exact r1, r2⟩ h
    · -- a value
      rename_i t' x' _ hl
      split at h
      · rename_i hsc
        obtain ⟨_, v, A, B, fp1, k6, hvv, q3, q4, _, _, hrun⟩ := cell _ _ hl
        refine op_read (exe v hrun) h S ⟨?_, q4⟩ hK
        cases t' with
        | int k => cases q3; exact .int k _
        | bool => cases q3; exact .bool _
        | str => cases q3; exact .str _
        | sl => cases hsc
        | po => cases hsc
        | st => cases hsc
      · cases h
    · cases h
  · cases h
end Go.Proofs.YtmcbhnbemhfifaaDoor.RX
