/- A call: the callee's contract put into the caller's state. Conditions: SigOK; the contract holds. -/
import Derived.Test.YtmcbhnbemhfifaaDoorRx15
namespace Go.Proofs.YtmcbhnbemhfifaaDoor.RX
open Go Go.RowKit
set_option autoImplicit false
variable {G : Sig} {R : Type} {P : Program} {W : Rights} {w0 w w' : World} {Z Z' : Nat → Nat → Prop} {pl pl' : Nat → Value} {N : Nat}
variable {E : Env G R} {o : Oper} {L : St G} {K : St G → Option R} {r : R} {a : Act} {next : Act → World → Prop} {Q : Exit → Act → World → Prop}

theorem killArr_get {ren : List (Nat × Nat)} : ∀ {ps : List POb} {j : Nat} {ob : List (Nat × Ob G)} {o : Nat} {b : Ob G}, get (killArr ren j ps ob) o = some b → live b = true → get ob o = some b ∧ ∀ (i : Nat) e t, ps[i]? = some (.arr e t) → get ren (j + i) ≠ some o
  | [], _, _, _, _, h, _ => ⟨h, fun i e t hi => by simp at hi⟩
  | .cells ro pl :: ps, j, ob, o, b, h, hl => by
    obtain ⟨a1, a2⟩ := killArr_get (ps := ps) (j := j + 1) (ob := ob) h hl
    refine ⟨a1, fun i e t hi => ?_⟩
    cases i with
    | zero => cases hi
    | succ i => have := a2 i e t (by simpa using hi); rwa [show j + (i + 1) = j + 1 + i by omega]
  | .arr e0 t0 :: ps, j, ob, o, b, h, hl => by
    simp only [killArr] at h
    split at h
    · rename_i o1 ho1
      obtain ⟨a1, a2⟩ := killArr_get (ps := ps) (j := j + 1) (ob := (o1, .dead) :: ob) h hl
      have hne : o1 ≠ o := by intro e; subst e; rw [get_same] at a1; cases a1; cases hl
      rw [get_far _ _ hne] at a1
      refine ⟨a1, fun i e t hi => ?_⟩
      cases i with
      | zero => rw [Nat.add_zero, ho1]; intro ee; injection ee with ee; exact hne ee
      | succ i => have := a2 i e t (by simpa using hi); rwa [show j + (i + 1) = j + 1 + i by omega]
    · rename_i hn
      obtain ⟨a1, a2⟩ := killArr_get (ps := ps) (j := j + 1) (ob := ob) h hl
      refine ⟨a1, fun i e t hi => ?_⟩
      cases i with
      | zero => rw [Nat.add_zero, hn]; intro ee; cases ee
      | succ i => have := a2 i e t (by simpa using hi); rwa [show j + (i + 1) = j + 1 + i by omega]
theorem killArr_far {ren : List (Nat × Nat)} : ∀ {ps : List POb} {j : Nat} {ob : List (Nat × Ob G)} {o : Nat}, (∀ (i : Nat) e t, ps[i]? = some (.arr e t) → get ren (j + i) ≠ some o) → get (killArr ren j ps ob) o = get ob o
  | [], _, _, _, _ => rfl
  | .cells ro pl :: ps, j, ob, o, h => killArr_far (ps := ps) (j := j + 1) (fun i e t hi => by have := h (i + 1) e t (by simpa using hi); rwa [show j + 1 + i = j + (i + 1) by omega])
  | .arr e0 t0 :: ps, j, ob, o, h => by
    have h' : ∀ (i : Nat) e t, ps[i]? = some (.arr e t) → get ren (j + 1 + i) ≠ some o := fun i e t hi => by have := h (i + 1) e t (by simpa using hi); rwa [show j + 1 + i = j + (i + 1) by omega]
    simp only [killArr]
    split
    · rename_i o1 ho1
      rw [killArr_far h', get_far _ _ (by intro e; subst e; exact h 0 e0 t0 rfl (by rw [Nat.add_zero]; exact ho1))]
    · exact killArr_far h'
theorem killArr_mem {ren : List (Nat × Nat)} {nx : Nat} : ∀ {ps : List POb} {j : Nat} {ob : List (Nat × Ob G)}, Mem W w0 Z pl ob nx w → RenLt ren nx → Mem W w0 Z pl (killArr ren j ps ob) nx w
  | [], _, _, M, _ => M
  | .cells _ _ :: ps, j, ob, M, hr => killArr_mem (ps := ps) (j := j + 1) M hr
  | .arr _ _ :: ps, j, ob, M, hr => by
    simp only [killArr]
    split
    · rename_i o1 ho1
      exact killArr_mem (M.kill o1 (hr _ _ ho1)) hr
    · exact killArr_mem M hr
def IOp : POb → POb → Prop
  | .cells ro pl, .cells _ pl' => pl.length = pl'.length ∧ ∀ k : Nat, pl'[k]? = some .any → k ∈ ro
  | .arr _ _, .arr _ _ => True
  | _, _ => False
theorem okIO_ok : ∀ {ps qs : List POb}, okIO ps qs = true → ps.length ≤ qs.length ∧ ∀ (i : Nat) p, ps[i]? = some p → ∃ q, qs[i]? = some q ∧ IOp p q
  | [], qs, _ => ⟨Nat.zero_le _, fun i p h => by simp at h⟩
  | .cells ro pl :: ps, [], h => by simp [okIO] at h
  | .arr e t :: ps, [], h => by simp [okIO] at h
  | .cells ro pl :: ps, .cells ro' pl' :: qs, h => by
    simp only [okIO] at h
    split at h
    · rename_i h1 h2
      obtain ⟨a1, a2⟩ := okIO_ok h
      refine ⟨by simpa using a1, fun i p hp => ?_⟩
      cases i with
      | zero =>
        injection hp with hp
        subst hp
        refine ⟨_, rfl, ?_, ?_⟩
        · rw [len_eq, len_eq] at h1; exact Nat.eq_of_beq_eq_true h1
        · have key : ∀ (l : List PLeaf) (m : Nat), okAny ro m l = true → ∀ k : Nat, l[k]? = some .any → m + k ∈ ro := by
            intro l
            induction l with
            | nil => intro m _ k hk; simp at hk
            | cons x l ih =>
              intro m hm k hk
              have hrest : okAny ro (m + 1) l = true := by
                cases x with
                | any => simp only [okAny] at hm; split at hm <;> first | exact hm | cases hm
                | _ => exact hm
              cases k with
              | zero =>
                injection hk with hk
                subst hk
                simp only [okAny] at hm
                split at hm
                · rename_i hh; exact (hasN_iff _ _).1 hh
                · cases hm
              | succ k => have := ih (m + 1) hrest k (by simpa using hk); rwa [show m + (k + 1) = m + 1 + k by omega]
          exact fun k hk => by have := key pl' 0 h2 k hk; rwa [Nat.zero_add] at this
      | succ i => obtain ⟨q, q1, q2⟩ := a2 i p (by simpa using hp); exact ⟨q, by simpa using q1, q2⟩
    · cases h
  | .arr e t :: ps, .arr e' t' :: qs, h => by
    obtain ⟨a1, a2⟩ := okIO_ok (ps := ps) (qs := qs) h
    refine ⟨by simpa using a1, fun i p hp => ?_⟩
    cases i with
    | zero => injection hp with hp; subst hp; exact ⟨_, rfl, trivial⟩
    | succ i => obtain ⟨q, q1, q2⟩ := a2 i p (by simpa using hp); exact ⟨q, by simpa using q1, q2⟩
  | .cells ro pl :: ps, .arr e t :: qs, h => by simp [okIO] at h
  | .arr e t :: ps, .cells ro pl :: qs, h => by simp [okIO] at h

/-- What was handed to the callee, of memory. -/
def Given (os : List (Nat × Ob G)) (pl : Nat → Value) (b i : Nat) : Prop := ∃ j ob, get os j = some ob ∧ live ob = true ∧ bk (pl j) = some b ∧ (∀ ro ls, ob = .cells ro ls → i ≤ ls.length ∧ (i = ls.length ∨ i ∉ ro))
theorem iObs_some : ∀ {ps : List POb} {vs : List (TV G)} {i : Nat} {j : Nat}, i < ps.length → ∃ ob, get (iObs (fun j => j) j ps vs).1 (j + i) = some ob ∧ live ob = true
  | [], vs, i, j, h => by cases h
  | p :: ps, vs, i, j, h => by
    rw [iObs_cons]
    cases i with
    | zero =>
      refine ⟨_, get_same _ _ _, ?_⟩
      cases p with
      | cells ro pls => rfl
      | arr e t =>
        cases vs with
        | nil => rfl
        | cons v r => obtain ⟨t', x⟩ := v; cases t' <;> rfl
    | succ i =>
      obtain ⟨ob, h1, h2⟩ := iObs_some (ps := ps) (vs := (obAt (fun j => j) p none vs).2) (i := i) (j := j + 1) (by simpa using h)
      refine ⟨ob, ?_, h2⟩
      show get ((j, _) :: _) (j + (i + 1)) = _
      rw [get_far _ _ (by omega), show j + (i + 1) = j + 1 + i by omega]
      exact h1
/-- The caller's state behind a call: what was kept, and what came back. -/
theorem after_mem {za zb : Nat → Nat → Prop} {fa fb : List Nat} {pa pb : Nat → Value} {c : Ct G} {ren : List (Nat × Nat)} {plI plB pr : Nat → Value} {osI obB os2 : List (Nat × Ob G)} {nxB : Nat} {ZI ZB Z' : Nat → Nat → Prop} {vr : List (TV G)}
    (hio : okIO c.ip.objs c.rp.objs = true) (MI : Mem ⟨Given osI plI, za, fa, pa⟩ w ZI plI osI c.ip.objs.length w) (MB : Mem W w0 ZB plB obB nxB w) (M2 : Mem ⟨Given osI plI, zb, fb, pb⟩ w Z' pr os2 c.rp.objs.length w')
    (hos2 : os2 = (iObs (fun j => j) 0 c.rp.objs vr).1)
    (hren : ∀ j, j < c.ip.objs.length → ∃ o, get ren j = some o ∧ o < nxB ∧ plB o = plI j)
    (hbnd : ∀ j o, get ren j = some o → j < c.ip.objs.length) (hinj : ∀ j j' o, get ren j = some o → get ren j' = some o → j = j')
    (hcells : ∀ (j : Nat) ro pl' o, c.ip.objs[j]? = some (.cells ro pl') → get ren j = some o → ∃ ro' ls, get obB o = some (.cells ro' ls) ∧ ls.length = pl'.length)
    (hI : ∀ (j : Nat) p, c.ip.objs[j]? = some p → ∃ ob, get osI j = some ob ∧ live ob = true ∧ match p with | .cells ro pl' => ∃ ls : List (Leaf G), ob = .cells ro ls ∧ ls.length = pl'.length | .arr _ _ => ∃ e t x, ob = .arr e t x)
    (hdead : ∀ (j : Nat) e t o b, c.ip.objs[j]? = some (.arr e t) → get ren j = some o → get obB o = some b → live b = true → False)
    (hownI : ∀ j ob, get osI j = some ob → ∀ k, bk (plI j) = some k → Own w0.heap.size W ob k)
    (hfarB : ∀ o b k, get obB o = some b → live b = true → bk (plB o) = some k → (∀ j, get ren j ≠ some o) → ∀ i, ¬ Given osI plI k i)
    (hzB : ∀ b i, ZB b i → ∀ i', ¬ Given osI plI b i') (hzI : ∀ b i, ZB b i → Z' b i) (hzN : ∀ b i, Z' b i → ZB b i ∨ w.heap.size ≤ b ∨ ∀ j, Given osI plI b j)
    (hpr : ∀ j ro ls, nth c.ip.objs j = some (.cells ro ls) → pr j = plI j) :
    let f := resF c.ip.objs ren nxB
    let pl3 := fun o => if o < nxB then plB o else pr (o - nxB)
    NF f pr c.rp.objs.length pl3 (nxB + c.rp.objs.length) ∧ Ext ZB w plB nxB Z' w' pl3 (nxB + c.rp.objs.length) ∧ Mem W w0 Z' pl3 (resObs f 0 c.rp.objs vr obB) (nxB + c.rp.objs.length) w' := by
  intro f pl3
  obtain ⟨io1, io2⟩ := okIO_ok hio
  -- names
  have fcell : ∀ j ro ls, c.ip.objs[j]? = some (.cells ro ls) → ∃ o, get ren j = some o ∧ f j = o ∧ o < nxB ∧ plB o = plI j := by
    intro j ro ls hj
    obtain ⟨o, h1, h2, h3⟩ := hren j (List.getElem?_eq_some_iff.1 hj).1
    exact ⟨o, h1, by simp only [f, resF, nth_eq, hj, h1], h2, h3⟩
  have ffresh : ∀ j, (∀ ro ls, c.ip.objs[j]? ≠ some (.cells ro ls)) → f j = nxB + j := by
    intro j hj
    cases hh : c.ip.objs[j]? with
    | none => simp only [f, resF, nth_eq, hh]
    | some p =>
      cases p with
      | cells ro ls => exact absurd hh (hj ro ls)
      | arr e t => simp only [f, resF, nth_eq, hh]
  have fcase : ∀ j, (∃ ro ls o, c.ip.objs[j]? = some (.cells ro ls) ∧ get ren j = some o ∧ f j = o ∧ o < nxB ∧ plB o = plI j ∧ pr j = plI j) ∨ ((∀ ro ls, c.ip.objs[j]? ≠ some (.cells ro ls)) ∧ f j = nxB + j) := by
    intro j
    cases hj : c.ip.objs[j]? with
    | none => exact .inr ⟨fun ro ls e => (by cases e), ffresh j (fun ro ls e => by rw [hj] at e; cases e)⟩
    | some p =>
      cases p with
      | cells ro ls =>
        obtain ⟨o, h1, h2, h3, h4⟩ := fcell j ro ls hj
        exact .inl ⟨ro, ls, o, rfl, h1, h2, h3, h4, hpr j ro ls (by rw [nth_eq]; exact hj)⟩
      | arr e t => exact .inr ⟨fun ro ls e => (by cases e), ffresh j (fun ro ls e => by rw [hj] at e; cases e)⟩
  have plold : ∀ o, o < nxB → pl3 o = plB o := fun o ho => by simp only [pl3, if_pos ho]
  have plnew : ∀ j, pl3 (nxB + j) = pr j := fun j => by simp only [pl3]; rw [if_neg (by omega), Nat.add_sub_cancel_left]
  have hNF : NF f pr c.rp.objs.length pl3 (nxB + c.rp.objs.length) := by
    intro j hj
    rcases fcase j with ⟨ro, ls, o, _, _, h2, h3, h4, h5⟩ | ⟨_, h2⟩
    · rw [h2]; exact ⟨by omega, by rw [plold o h3, h4, h5]⟩
    · rw [h2]; exact ⟨by omega, plnew j⟩
  have finj : ∀ i i', f i = f i' → i = i' := by
    intro i i' e
    rcases fcase i with ⟨ro, ls, o, _, h1, h2, h3, _, _⟩ | ⟨_, h2⟩ <;> rcases fcase i' with ⟨ro', ls', o', _, h1', h2', h3', _, _⟩ | ⟨_, h2'⟩
    · rw [h2, h2'] at e; subst e; exact hinj i i' o h1 h1'
    · rw [h2, h2'] at e; omega
    · rw [h2, h2'] at e; omega
    · rw [h2, h2'] at e; omega
  -- memory that is read goes on
  have hsame : ∀ b, b < w.heap.size → (∀ i, ¬ Given osI plI b i) → w'.heap[b]? = w.heap[b]? := fun b hb hn => M2.fr.blk b hb hn
  have X : Ext ZB w plB nxB Z' w' pl3 (nxB + c.rp.objs.length) :=
    ⟨Nat.le_add_right _ _, plold, hzI, fun b i hz => cell_of_blk (hsame b (MB.zlt b i hz) (hzB b i hz)) i⟩
  -- what is given whole is a row
  have hwhole : ∀ b, (∀ j, Given osI plI b j) → ∃ j e t x, get osI j = some (.arr e t x) ∧ bk (plI j) = some b := by
    intro b hb
    obtain ⟨j0, ob0, g1, g2, g3, _⟩ := hb 0
    cases ob0 with
    | cells ro ls =>
      obtain ⟨j1, ob1, k1, k2, k3, k4⟩ := hb (ls.length + 1)
      have := MI.sep j0 j1 _ ob1 b g1 g2 k1 k2 g3 k3
      subst this
      rw [g1] at k1
      injection k1 with k1
      have := (k4 ro ls k1.symm).1
      omega
    | arr e t x => exact ⟨j0, e, t, x, g1, g3⟩
    | frz e t x => cases g2
    | dead => cases g2
  have newcells : ∀ b, Given osI plI b 0 → ∃ j ob, get osI j = some ob ∧ live ob = true ∧ bk (plI j) = some b := by
    intro b ⟨j, ob, g1, g2, g3, _⟩; exact ⟨j, ob, g1, g2, g3⟩
  -- what an object of the result is
  have new : ∀ o b, (∃ (i : Nat) (p : POb) (vsi : List (TV G)), c.rp.objs[i]? = some p ∧ o = f (0 + i) ∧ b = (obAt f p (get obB (f (0 + i))) vsi).1 ∧ get (iObs (fun j => j) 0 c.rp.objs vr).1 (0 + i) = some (obAt (fun j => j) p none vsi).1) →
      ∃ i, o = f i ∧ i < c.rp.objs.length ∧ ObOK Z' w' pl3 (nxB + c.rp.objs.length) o b ∧ live b = true ∧ pl3 o = pr i ∧ (∃ obI, get os2 i = some obI ∧ live obI = true) ∧
        ∀ k, bk (pl3 o) = some k → Own w0.heap.size W b k ∧ (∀ j, ¬ Z' k j) ∧ (w.heap.size ≤ k ∨ ∃ i', Given osI plI k i') := by
    rintro o b ⟨i, p, vsi, hp, ho, hb, hI2⟩
    rw [Nat.zero_add] at ho hb hI2
    rw [← hos2] at hI2
    have hlt : i < c.rp.objs.length := (List.getElem?_eq_some_iff.1 hp).1
    obtain ⟨q1, q2⟩ := hNF i hlt
    have hOb := M2.ob i _ hI2
    have hl2 : live (obAt (G := G) (fun j => j) p none vsi).1 = true := by
      cases p with
      | cells ro pls => rfl
      | arr e t =>
        cases vsi with
        | nil => rfl
        | cons v r => obtain ⟨t', x⟩ := v; cases t' <;> rfl
    refine ⟨i, ho, hlt, ?_, ?_, by rw [ho]; exact q2, ⟨_, hI2, hl2⟩, ?_⟩
    · -- it is there
      subst ho hb
      cases p with
      | arr e t =>
        have e1 : ∀ old, (obAt f (.arr e t) old vsi).1 = (obAt (G := G) (fun j => j) (.arr e t) none vsi).1 := fun old => by
          cases vsi with
          | nil => rfl
          | cons v r => obtain ⟨t', x⟩ := v; cases t' <;> rfl
        rw [e1]
        have harr : ∃ e' t' x, (obAt (G := G) (fun j => j) (.arr e t) none vsi).1 = .arr e' t' x := by
          cases vsi with
          | nil => exact ⟨_, _, _, rfl⟩
          | cons v r => obtain ⟨t', x⟩ := v; cases t' <;> exact ⟨_, _, _, rfl⟩
        obtain ⟨e', t', x, e2⟩ := harr
        rw [e2] at hOb ⊢
        obtain ⟨vs, o1, o2⟩ := hOb
        exact ⟨vs, by rw [q2]; exact o1, o2⟩
      | cells ro pls =>
        obtain ⟨b2, T2, cs2, m1, m2, m3⟩ := hOb
        have m3' := (iLeaves_ren hNF (ps := pls) (vs := vsi)).2.2 m3
        cases hold : get obB (f i) with
        | none => simp only [obAt, hold]; exact ⟨b2, T2, cs2, by rw [q2]; exact m1, m2, m3'⟩
        | some old =>
          cases old with
          | cells ro' ls =>
            simp only [obAt, hold]
            rcases fcase i with ⟨ro0, ls0, o0, hi0, hr0, hf0, hlt0, hpl0, hpr0⟩ | ⟨hn, hf0⟩
            · obtain ⟨q, hq1, hq2⟩ := io2 i _ hi0
              rw [hp] at hq1
              injection hq1 with hq1
              subst hq1
              obtain ⟨hlen, hany⟩ := hq2
              obtain ⟨ro'', ls'', hcc, hll⟩ := hcells i ro0 ls0 o0 hi0 hr0
              rw [hf0, hcc] at hold
              injection hold with hold
              injection hold with e1 e2
              subst e1 e2
              obtain ⟨bB, TB, csB, n1, n2, n3⟩ := MB.ob o0 _ hcc
              have hbb : bB = b2 := by rw [hpl0, ← hpr0, m1] at n1; injection n1 with n1; injection n1 with n1; injection n1 with n1; exact n1.symm
              subst hbb
              obtain ⟨obI0, hobI, hlI, hcI⟩ := hI i _ hi0
              obtain ⟨lsI, hobI2, hlenI⟩ := hcI
              subst hobI2
              have hbkI : bk (plI i) = some bB := by rw [← hpr0, m1]; rfl
              have hltb : bB < w.heap.size := (Array.getElem?_eq_some_iff.1 n2).1
              have notgiven : ∀ k : Nat, k ∈ ro0 → k < ls0.length → ¬ Given osI plI bB k := by
                rintro k hk hk2 ⟨j1, ob1, g1, g2, g3, g4⟩
                have := MI.sep i j1 _ ob1 bB hobI hlI g1 g2 hbkI g3
                subst this
                rw [hobI] at g1
                injection g1 with g1
                rcases (g4 ro0 lsI g1.symm).2 with h | h
                · omega
                · exact h hk
              have hkeep : ∀ k : Nat, pls[k]? = some .any → cs2[k]? = csB[k]? := by
                intro k hk
                have hk1 : k < pls.length := (List.getElem?_eq_some_iff.1 hk).1
                have hng := notgiven k (hany k hk) (by omega)
                obtain ⟨cs', c1, _, c3⟩ := M2.fr.cel bB csB TB (0, 0) hltb ⟨k, hng⟩ n2
                rw [m2] at c1
                injection c1 with c1
                injection c1 with c1
                have c1 : cs2 = cs' := by simpa using c1
                rw [c1]
                exact c3 k hng
              exact ⟨bB, T2, cs2, by rw [q2]; exact m1, m2, (mrg_ok f (by omega)).2.2 m3' (n3.mono X) hkeep⟩
            · rw [hf0] at hold
              exact absurd (MB.lt _ _ hold) (by omega)
          | _ => simp only [obAt, hold]; exact ⟨b2, T2, cs2, by rw [q2]; exact m1, m2, m3'⟩
    · subst hb
      cases p with
      | cells ro pls =>
        cases hold : get obB (f i) with
        | none => simp only [obAt, hold]; rfl
        | some old => cases old <;> (simp only [obAt, hold]; rfl)
      | arr e t =>
        cases vsi with
        | nil => rfl
        | cons v r => obtain ⟨t', x⟩ := v; cases t' <;> rfl
    · intro k hk
      rw [ho, q2] at hk
      have hown := M2.own i _ k hI2 hl2 hk
      have hfar := M2.zfar i _ k hI2 hl2 hk
      -- of what was given: whose it was
      have ofGiven : ∀ i', Given osI plI k i' → (∃ j e t x, get osI j = some (.arr e t x) ∧ bk (plI j) = some k) ∨ (∃ ro0 ls0 ro' ls, c.ip.objs[i]? = some (.cells ro0 ls0) ∧ get obB (f i) = some (.cells ro' ls) ∧ plB (f i) = plI i) := by
        rintro i' ⟨j1, ob1, g1, g2, g3, _⟩
        cases ob1 with
        | arr e t x => exact .inl ⟨j1, e, t, x, g1, g3⟩
        | frz => cases g2
        | dead => cases g2
        | cells ro1 ls1 =>
          right
          have hj1 : j1 < c.ip.objs.length := MI.lt j1 _ g1
          obtain ⟨p1, hp1⟩ : ∃ p1, c.ip.objs[j1]? = some p1 := ⟨_, List.getElem?_eq_getElem hj1⟩
          obtain ⟨ob1', hob1', _, hm⟩ := hI j1 p1 hp1
          rw [g1] at hob1'
          injection hob1' with hob1'
          subst hob1'
          cases p1 with
          | arr e t => obtain ⟨_, _, _, hm⟩ := hm; cases hm
          | cells ro0 ls0 =>
            have hprj := hpr j1 ro0 ls0 (by rw [nth_eq]; exact hp1)
            obtain ⟨q, hq1, hq2⟩ := io2 j1 _ hp1
            -- the result's own object of that place
            have hj2 : j1 < c.rp.objs.length := (List.getElem?_eq_some_iff.1 hq1).1
            have hex : ∃ obJ, get os2 j1 = some obJ ∧ live obJ = true := by
              have := iObs_some (G := G) (ps := c.rp.objs) (vs := vr) (i := j1) (j := 0) hj2
              rw [Nat.zero_add, ← hos2] at this
              exact this
            obtain ⟨obJ, hJ1, hJ2⟩ := hex
            have := M2.sep i j1 _ obJ k hI2 hl2 hJ1 hJ2 hk (by rw [hprj]; exact g3)
            subst this
            obtain ⟨o0, r1, r2, r3, r4⟩ := fcell i ro0 ls0 hp1
            obtain ⟨ro', ls, hcc, _⟩ := hcells i ro0 ls0 o0 hp1 r1
            exact ⟨ro0, ls0, ro', ls, hp1, by rw [r2]; exact hcc, by rw [r2]; exact r4⟩
      have given1 : w.heap.size ≤ k ∨ ∃ i', Given osI plI k i' := by
        rcases hown with h | h
        · exact .inl h
        · right
          cases hoo : (obAt (G := G) (fun j => j) p none vsi).1 with
          | cells ro ls => rw [hoo] at h; exact ⟨ls.length, h ls.length (Nat.le_refl _) (.inl rfl)⟩
          | arr e t x => rw [hoo] at h; exact ⟨0, h 0⟩
          | frz e t x => rw [hoo] at h; exact ⟨0, h 0⟩
          | dead => rw [hoo] at h; exact ⟨0, h 0⟩
      refine ⟨?_, hfar, given1⟩
      rcases given1 with h | ⟨i', hg⟩
      · exact .inl (Nat.le_trans MB.fr.size h)
      · rcases ofGiven i' hg with ⟨j1, e, t, x, g1, g3⟩ | ⟨ro0, ls0, ro', ls, g1, g2, g3⟩
        · rcases hownI j1 _ g1 k g3 with h | h
          · exact .inl h
          · refine .inr ?_
            cases b with
            | cells _ _ => exact fun i _ _ => h i
            | arr => exact h
            | frz => exact h
            | dead => exact h
        · -- a variable given back
          have hprI : pr i = plI i := hpr i ro0 ls0 (by rw [nth_eq]; exact g1)
          have hbB : bk (plB (f i)) = some k := by rw [g3, ← hprI]; exact hk
          have hO := MB.own (f i) _ k g2 rfl hbB
          rcases hO with h | h
          · exact .inl h
          · refine .inr ?_
            subst hb
            cases p with
            | arr e t =>
              obtain ⟨q, hq1, hq2⟩ := io2 i _ g1
              rw [hp] at hq1
              injection hq1 with hq1
              subst hq1
              exact hq2.elim
            | cells ro pls =>
              obtain ⟨q, hq1, hq2⟩ := io2 i _ g1
              rw [hp] at hq1
              injection hq1 with hq1
              subst hq1
              obtain ⟨o0, r1, r2, r3, r4⟩ := fcell i ro0 ls0 g1
              obtain ⟨ro'', ls'', hcc, hll⟩ := hcells i ro0 ls0 o0 g1 r1
              rw [r2, hcc] at g2
              injection g2 with g2
              injection g2 with e1 e2
              subst e1 e2
              simp only [obAt, r2, hcc]
              have hlen := (mrg_ok (G := G) (Z := Z') (w := w') (pl := pr) (nx := 0) f (ps := pls) (ls := ls'') (vs := vsi) (by have := hq2.1; omega)).2.1
              intro i2 h2 h3
              rw [hlen] at h2 h3
              exact h i2 h2 h3
  -- what was kept
  have kept : ∀ o b, (∀ i, i < c.rp.objs.length → o ≠ f (0 + i)) → get obB o = some b → live b = true → (∀ j, get ren j ≠ some o) ∧ ∀ k, bk (plB o) = some k → w'.heap[k]? = w.heap[k]? ∧ ∀ i, ¬ Given osI plI k i := by
    intro o b hne hg hl
    have hnb : ∀ j, get ren j ≠ some o := by
      intro j hj
      have hj1 := hbnd j o hj
      obtain ⟨p1, hp1⟩ : ∃ p1, c.ip.objs[j]? = some p1 := ⟨_, List.getElem?_eq_getElem hj1⟩
      cases p1 with
      | arr e t => exact hdead j e t o b hp1 hj hg hl
      | cells ro ls =>
        obtain ⟨o0, r1, r2, _⟩ := fcell j ro ls hp1
        rw [hj] at r1
        injection r1 with r1
        have := hne j (by omega)
        rw [Nat.zero_add] at this
        exact this (r1.trans r2.symm)
    refine ⟨hnb, fun k hk => ?_⟩
    have := hfarB o b k hg hl hk hnb
    exact ⟨hsame k (MB.blt hg hl hk) this, this⟩
  have look : ∀ o b, get (resObs f 0 c.rp.objs vr obB) o = some b → (∃ (i : Nat) (p : POb) (vsi : List (TV G)), c.rp.objs[i]? = some p ∧ o = f (0 + i) ∧ b = (obAt f p (get obB (f (0 + i))) vsi).1 ∧ get (iObs (fun j => j) 0 c.rp.objs vr).1 (0 + i) = some (obAt (fun j => j) p none vsi).1) ∨ ((∀ i, i < c.rp.objs.length → o ≠ f (0 + i)) ∧ get obB o = some b) := by
    refine fun o b hg => resObs_get hNF (fun i p hp ro pls ro' ls e1 e2 => ?_) (fun i i' _ _ e => by rw [Nat.zero_add, Nat.zero_add] at e; exact finj i i' e) o b hg
    subst e1
    rw [Nat.zero_add] at e2
    rcases fcase i with ⟨ro0, ls0, o0, hi0, hr0, hf0, _⟩ | ⟨_, hf0⟩
    · obtain ⟨q, hq1, hq2⟩ := io2 i _ hi0
      rw [hp] at hq1
      injection hq1 with hq1
      subst hq1
      obtain ⟨ro'', ls'', hcc, hll⟩ := hcells i ro0 ls0 o0 hi0 hr0
      rw [hf0, hcc] at e2
      injection e2 with e2
      injection e2 with _ e2
      subst e2
      have := hq2.1
      omega
    · rw [hf0] at e2
      exact absurd (MB.lt _ _ e2) (by omega)
  refine ⟨hNF, X, ?_⟩
  constructor
  · intro o b hg
    rcases look o b hg with hh | ⟨_, hh⟩
    · obtain ⟨i, h1, h2, _⟩ := new o b hh
      rw [h1]; exact (hNF i h2).1
    · have := MB.lt o b hh; omega
  · intro o b hg
    rcases look o b hg with hh | ⟨hne, hh⟩
    · obtain ⟨i, _, _, h3, _⟩ := new o b hh; exact h3
    · exact (MB.ob o b hh).mono X (MB.lt o b hh) (fun hl k hk => ((kept o b hne hh hl).2 k hk).1)
  · intro o o' b b' k hg hl hg' hl' hk hk'
    have mix : ∀ o b o' b', (∃ (i : Nat) (p : POb) (vsi : List (TV G)), c.rp.objs[i]? = some p ∧ o = f (0 + i) ∧ b = (obAt f p (get obB (f (0 + i))) vsi).1 ∧ get (iObs (fun j => j) 0 c.rp.objs vr).1 (0 + i) = some (obAt (fun j => j) p none vsi).1) →
        (∀ i, i < c.rp.objs.length → o' ≠ f (0 + i)) → get obB o' = some b' → live b' = true → bk (pl3 o) = some k → bk (pl3 o') = some k → False := by
      intro o b o' b' hh hne hh' hl' hk hk'
      obtain ⟨i, _, _, _, _, _, _, h5⟩ := new o b hh
      rw [plold o' (MB.lt o' b' hh')] at hk'
      have h6 := ((kept o' b' hne hh' hl').2 k hk').2
      rcases (h5 k hk).2.2 with h | ⟨i', h⟩
      · exact Nat.lt_irrefl _ (Nat.lt_of_lt_of_le (MB.blt hh' hl' hk') h)
      · exact h6 i' h
    rcases look o b hg with hh | ⟨hne, hh⟩ <;> rcases look o' b' hg' with hh' | ⟨hne', hh'⟩
    · obtain ⟨i, h1, _, _, _, h2, ⟨obI, h3, h4⟩, _⟩ := new o b hh
      obtain ⟨i', h1', _, _, _, h2', ⟨obI', h3', h4'⟩, _⟩ := new o' b' hh'
      rw [h2] at hk
      rw [h2'] at hk'
      have := M2.sep i i' obI obI' k h3 h4 h3' h4' hk hk'
      rw [h1, h1', this]
    · exact (mix o b o' b' hh hne' hh' hl' hk hk').elim
    · exact (mix o' b' o b hh' hne hh hl hk' hk).elim
    · rw [plold o (MB.lt o b hh)] at hk
      rw [plold o' (MB.lt o' b' hh')] at hk'
      exact MB.sep o o' b b' k hh hl hh' hl' hk hk'
  · intro o b k hg hl hk
    rcases look o b hg with hh | ⟨hne, hh⟩
    · obtain ⟨i, _, _, _, _, _, _, h5⟩ := new o b hh; exact (h5 k hk).1
    · rw [plold o (MB.lt o b hh)] at hk; exact MB.own o b k hh hl hk
  · intro o b k hg hl hk
    rcases look o b hg with hh | ⟨hne, hh⟩
    · obtain ⟨i, _, _, _, _, _, _, h5⟩ := new o b hh; exact (h5 k hk).2.1
    · rw [plold o (MB.lt o b hh)] at hk
      intro i hz
      have h6 := ((kept o b hne hh hl).2 k hk).2
      rcases hzN k i hz with h | h | h
      · exact MB.zfar o b k hh hl hk i h
      · exact Nat.lt_irrefl _ (Nat.lt_of_lt_of_le (MB.blt hh hl hk) h)
      · exact h6 0 (h 0)
  · exact M2.zlt
  · intro b i hz
    rcases hzN b i hz with h | h | h
    · exact MB.zn b i h
    · exact .inr (.inl (Nat.le_trans MB.fr.size h))
    · obtain ⟨j, e, t, x, g1, g2⟩ := hwhole b h
      exact .inr (hownI j _ g1 b g2)
  · exact fun b i hz => hzI b i (MB.z0 b i hz)
  · exact fun j hj => ⟨Nat.lt_of_lt_of_le (MB.fx j hj).1 (Nat.le_add_right _ _), (plold j (MB.fx j hj).1).trans (MB.fx j hj).2⟩
  · -- the frame
    have givenW : ∀ b i, b < w0.heap.size → Given osI plI b i → W b i := by
      rintro b i hb ⟨j, ob, g1, g2, g3, g4⟩
      rcases hownI j ob g1 b g3 with h | h
      · omega
      · cases ob with
        | cells ro ls => obtain ⟨q1, q2⟩ := g4 ro ls rfl; exact h i q1 q2
        | arr e t x => exact h i
        | frz => cases g2
        | dead => cases g2
    refine MB.fr.trans ⟨M2.fr.os, M2.fr.tape, M2.fr.output, M2.fr.size, fun b hb hW => hsame b (Nat.lt_of_lt_of_le hb MB.fr.size) (fun i hg => hW i (givenW b i hb hg)), fun b cs T fr hb hn hc => ?_⟩
    obtain ⟨i, hi⟩ := hn
    obtain ⟨cs', c1, c2, c3⟩ := M2.fr.cel b cs T fr (Nat.lt_of_lt_of_le hb MB.fr.size) ⟨i, fun hg => hi (givenW b i hb hg)⟩ hc
    exact ⟨cs', c1, c2, fun i hi => c3 i (fun hg => hi (givenW b i hb hg))⟩
end Go.Proofs.YtmcbhnbemhfifaaDoor.RX
