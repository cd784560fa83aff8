/- A call: the callee's contract put into the caller's state. Conditions: SigOK; the contract holds. -/
import Derived.Test.YtmcbhnbemhfifaaDoorRx15
namespace Go.Proofs.YtmcbhnbemhfifaaDoor.RX
open Go Go.RowKit
set_option autoImplicit false
variable {G : Sig} {R : Type} {P : Program} {W : Rights} {w0 w w' : World} {Z Z' : Nat → Nat → Prop} {pl pl' : Nat → Value} {N : Nat}
variable {E : Env G R} {o : Oper} {L : St G} {K : St G → Option R} {r : R} {a : Act} {next : Act → World → Prop} {Q : Exit → Act → World → Prop}

/-- A row of ours, of whichever kind. -/
def isRow : POb → Bool
  | .cells _ _ => false
  | _ => true
theorem killArr_row {ren : List (Nat × Nat)} {p : POb} (hp : isRow p = true) (ps : List POb) (j : Nat) (ob : List (Nat × Ob G)) :
    killArr ren j (p :: ps) ob = match get ren j with | some o => killArr ren (j + 1) ps ((o, .dead) :: ob) | none => killArr ren (j + 1) ps ob := by
  cases p with
  | cells ro l => cases hp
  | arr e t => rfl
  | ow kp tree e t => rfl
theorem killArr_cells {ren : List (Nat × Nat)} {p : POb} (hp : isRow p = false) (ps : List POb) (j : Nat) (ob : List (Nat × Ob G)) : killArr ren j (p :: ps) ob = killArr ren (j + 1) ps ob := by
  cases p with
  | cells ro l => rfl
  | arr e t => cases hp
  | ow kp tree e t => cases hp
theorem killArr_get {ren : List (Nat × Nat)} : ∀ {ps : List POb} {j : Nat} {ob : List (Nat × Ob G)} {o : Nat} {b : Ob G}, get (killArr ren j ps ob) o = some b → live b = true → get ob o = some b ∧ ∀ (i : Nat) p, ps[i]? = some p → isRow p = true → get ren (j + i) ≠ some o
  | [], _, _, _, _, h, _ => ⟨h, fun i p hi => by simp at hi⟩
  | p :: ps, j, ob, o, b, h, hl => by
    cases hp : isRow p with
    | false =>
      rw [killArr_cells hp] at h
      obtain ⟨a1, a2⟩ := killArr_get (ps := ps) (j := j + 1) (ob := ob) h hl
      refine ⟨a1, fun i q hi hq => ?_⟩
      cases i with
      | zero => injection hi with hi; rw [hi, hq] at hp; cases hp
      | succ i => have := a2 i q (by simpa using hi) hq; rwa [show j + (i + 1) = j + 1 + i by omega]
    | true =>
      rw [killArr_row hp] at h
      split at h
      · rename_i o1 ho1
        obtain ⟨a1, a2⟩ := killArr_get (ps := ps) (j := j + 1) (ob := (o1, .dead) :: ob) h hl
        have hne : o1 ≠ o := by intro e; subst e; rw [get_same] at a1; cases a1; cases hl
        rw [get_far _ _ hne] at a1
        refine ⟨a1, fun i q hi hq => ?_⟩
        cases i with
        | zero => rw [Nat.add_zero, ho1]; intro ee; injection ee with ee; exact hne ee
        | succ i => have := a2 i q (by simpa using hi) hq; rwa [show j + (i + 1) = j + 1 + i by omega]
      · rename_i hn
        obtain ⟨a1, a2⟩ := killArr_get (ps := ps) (j := j + 1) (ob := ob) h hl
        refine ⟨a1, fun i q hi hq => ?_⟩
        cases i with
        | zero => rw [Nat.add_zero, hn]; intro ee; cases ee
        | succ i => have := a2 i q (by simpa using hi) hq; rwa [show j + (i + 1) = j + 1 + i by omega]
theorem killArr_far {ren : List (Nat × Nat)} : ∀ {ps : List POb} {j : Nat} {ob : List (Nat × Ob G)} {o : Nat}, (∀ (i : Nat) p, ps[i]? = some p → isRow p = true → get ren (j + i) ≠ some o) → get (killArr ren j ps ob) o = get ob o
  | [], _, _, _, _ => rfl
  | p :: ps, j, ob, o, h => by
    have h' : ∀ (i : Nat) q, ps[i]? = some q → isRow q = true → get ren (j + 1 + i) ≠ some o := fun i q hi hq => by have := h (i + 1) q (by simpa using hi) hq; rwa [show j + 1 + i = j + (i + 1) by omega]
    cases hp : isRow p with
    | false => rw [killArr_cells hp]; exact killArr_far h'
    | true =>
      rw [killArr_row hp]
      split
      · rename_i o1 ho1
        rw [killArr_far h', get_far _ _ (by intro e; subst e; exact h 0 p rfl hp (by rw [Nat.add_zero]; exact ho1))]
      · exact killArr_far h'
theorem killArr_mem {ren : List (Nat × Nat)} {nx : Nat} : ∀ {ps : List POb} {j : Nat} {ob : List (Nat × Ob G)} {f : Nat → List Nat}, Mem W w0 Z pl ob nx w → TrOK W w0.heap.size Z pl ob nx w f → RenLt ren nx → Mem W w0 Z pl (killArr ren j ps ob) nx w ∧ TrOK W w0.heap.size Z pl (killArr ren j ps ob) nx w f
  | [], _, _, _, M, T, _ => ⟨M, T⟩
  | p :: ps, j, ob, f, M, T, hr => by
    cases hp : isRow p with
    | false => rw [killArr_cells hp]; exact killArr_mem M T hr
    | true =>
      rw [killArr_row hp]
      split
      · rename_i o1 ho1
        exact killArr_mem (M.kill o1 (hr _ _ ho1)) (T.kill o1) hr
      · exact killArr_mem M T hr
def IOp : POb → POb → Prop
  | .cells ro pl, .cells _ pl' => pl.length = pl'.length ∧ ∀ k : Nat, pl'[k]? = some .any → k ∈ ro
  | .arr _ _, .arr _ _ => True
  | .ow true a _ _, .ow true b _ _ => a = b
  | _, _ => False
theorem okIO_ok : ∀ {ps qs : List POb}, okIO ps qs = true → ps.length ≤ qs.length ∧ ∀ (i : Nat) p, ps[i]? = some p → ∃ q, qs[i]? = some q ∧ IOp p q
  | [], qs, _ => ⟨Nat.zero_le _, fun i p h => by simp at h⟩
  | .cells ro pl :: ps, [], h => by simp [okIO] at h
  | .arr e t :: ps, [], h => by simp [okIO] at h
  | .ow kp tree e t :: ps, [], h => by cases kp <;> simp [okIO] at h
  | .cells ro pl :: ps, .cells ro' pl' :: qs, h => by
    simp only [okIO] at h
    split at h
    · rename_i h1 h2
      obtain ⟨a1, a2⟩ := okIO_ok h
      refine ⟨by simpa using a1, fun i p hp => ?_⟩
      cases i with
      | zero =>
        injection hp with hp
        subst hp
        refine ⟨_, rfl, ?_, ?_⟩
        · rw [len_eq, len_eq] at h1; exact Nat.eq_of_beq_eq_true h1
        · have key : ∀ (l : List PLeaf) (m : Nat), okAny ro m l = true → ∀ k : Nat, l[k]? = some .any → m + k ∈ ro := by
            intro l
            induction l with
            | nil => intro m _ k hk; simp at hk
            | cons x l ih =>
              intro m hm k hk
              have hrest : okAny ro (m + 1) l = true := by
                cases x with
                | any => simp only [okAny] at hm; split at hm <;> first | exact hm | cases hm
                | _ => exact hm
              cases k with
              | zero =>
                injection hk with hk
                subst hk
                simp only [okAny] at hm
                split at hm
                · rename_i hh; exact (hasN_iff _ _).1 hh
                · cases hm
              | succ k => have := ih (m + 1) hrest k (by simpa using hk); rwa [show m + (k + 1) = m + 1 + k by omega]
          exact fun k hk => by have := key pl' 0 h2 k hk; rwa [Nat.zero_add] at this
      | succ i => obtain ⟨q, q1, q2⟩ := a2 i p (by simpa using hp); exact ⟨q, by simpa using q1, q2⟩
    · cases h
  | .arr e t :: ps, .arr e' t' :: qs, h => by
    obtain ⟨a1, a2⟩ := okIO_ok (ps := ps) (qs := qs) h
    refine ⟨by simpa using a1, fun i p hp => ?_⟩
    cases i with
    | zero => injection hp with hp; subst hp; exact ⟨_, rfl, trivial⟩
    | succ i => obtain ⟨q, q1, q2⟩ := a2 i p (by simpa using hp); exact ⟨q, by simpa using q1, q2⟩
  | .ow false tree e t :: ps, q :: qs, h => by cases q <;> simp [okIO] at h
  | .ow true tree e t :: ps, .ow true tree' e' t' :: qs, h => by
    have h2 : tree = tree' ∧ okIO ps qs = true := by
      cases he : Nat.beq e e' <;> cases tree <;> cases tree' <;> simp_all [okIO]
    obtain ⟨a1, a2⟩ := okIO_ok (ps := ps) (qs := qs) h2.2
    refine ⟨by simpa using a1, fun i p hp => ?_⟩
    cases i with
    | zero => injection hp with hp; subst hp; exact ⟨_, rfl, h2.1⟩
    | succ i => obtain ⟨q, q1, q2⟩ := a2 i p (by simpa using hp); exact ⟨q, by simpa using q1, q2⟩
  | .ow true tree e t :: ps, .ow false tree' e' t' :: qs, h => by simp [okIO] at h
  | .ow true tree e t :: ps, .cells _ _ :: qs, h => by simp [okIO] at h
  | .ow true tree e t :: ps, .arr _ _ :: qs, h => by simp [okIO] at h
  | .cells ro pl :: ps, .ow _ _ _ _ :: qs, h => by simp [okIO] at h
  | .arr e t :: ps, .ow _ _ _ _ :: qs, h => by simp [okIO] at h
  | .cells ro pl :: ps, .arr e t :: qs, h => by simp [okIO] at h
  | .arr e t :: ps, .cells ro pl :: qs, h => by simp [okIO] at h

/-- What was handed to the callee, of memory. -/
def Given (os : List (Nat × Ob G)) (pl : Nat → Value) (fI : Nat → List Nat) (b i : Nat) : Prop := (∃ j ob, get os j = some ob ∧ live ob = true ∧ bk (pl j) = some b ∧ (∀ ro ls, ob = .cells ro ls → i ≤ ls.length ∧ (i = ls.length ∨ i ∉ ro))) ∨ ∃ j, b ∈ fI j
theorem iObs_some : ∀ {ps : List POb} {vs : List (TV G)} {i : Nat} {j : Nat}, i < ps.length → ∃ ob, get (iObs (fun j => j) j ps vs).1 (j + i) = some ob ∧ live ob = true
  | [], vs, i, j, h => by cases h
  | p :: ps, vs, i, j, h => by
    rw [iObs_cons]
    cases i with
    | zero =>
      refine ⟨_, get_same _ _ _, ?_⟩
      cases p with
      | cells ro pls => rfl
      | arr e t =>
        cases vs with
        | nil => rfl
        | cons v r => obtain ⟨t', x⟩ := v; cases t' <;> rfl
      | ow kp tree e t =>
        cases tree <;>
        (cases vs with
        | nil => rfl
        | cons v r => obtain ⟨t', x⟩ := v; cases t' <;> rfl)
    | succ i =>
      obtain ⟨ob, h1, h2⟩ := iObs_some (ps := ps) (vs := (obAt (fun j => j) p none vs).2) (i := i) (j := j + 1) (by simpa using h)
      refine ⟨ob, ?_, h2⟩
      show get ((j, _) :: _) (j + (i + 1)) = _
      rw [get_far _ _ (by omega), show j + (i + 1) = j + 1 + i by omega]
      exact h1
/-- The caller's state behind a call: what was kept, and what came back. -/
theorem after_mem {fI fB : Nat → List Nat} {za zb : Nat → Nat → Prop} {fa fb : List Nat} {pa pb : Nat → Value} {c : Ct G} {ren : List (Nat × Nat)} {plI plB pr : Nat → Value} {osI obB os2 : List (Nat × Ob G)} {nxB : Nat} {ZI ZB Z' : Nat → Nat → Prop} {vr : List (TV G)}
    (hio : okIO c.ip.objs c.rp.objs = true) (MI : Mem ⟨Given osI plI fI, za, fa, pa⟩ w ZI plI osI c.ip.objs.length w) (MB : Mem W w0 ZB plB obB nxB w) (TI : TrOK (Given osI plI fI) w.heap.size ZI plI osI c.ip.objs.length w fI) (TB : TrOK W w0.heap.size ZB plB obB nxB w fB) (hfB : ∀ o k, k ∈ fB o → ∀ i, ¬ Given osI plI fI k i)
    (M2 : Mem ⟨Given osI plI fI, zb, fb, pb⟩ w Z' pr os2 c.rp.objs.length w')
    (hos2 : os2 = (iObs (fun j => j) 0 c.rp.objs vr).1)
    (hren : ∀ j, j < c.ip.objs.length → ∃ o, get ren j = some o ∧ o < nxB ∧ plB o = plI j)
    (hbnd : ∀ j o, get ren j = some o → j < c.ip.objs.length) (hinj : ∀ j j' o, get ren j = some o → get ren j' = some o → j = j')
    (hcells : ∀ (j : Nat) ro pl' o, c.ip.objs[j]? = some (.cells ro pl') → get ren j = some o → ∃ ro' ls, get obB o = some (.cells ro' ls) ∧ ls.length = pl'.length)
    (hI : ∀ (j : Nat) p, c.ip.objs[j]? = some p → ∃ ob, get osI j = some ob ∧ live ob = true ∧ match p with | .cells ro pl' => ∃ ls : List (Leaf G), ob = .cells ro ls ∧ ls.length = pl'.length | _ => ∀ ro ls, ob ≠ .cells ro ls)
    (hdead : ∀ (j : Nat) p o b, c.ip.objs[j]? = some p → isRow p = true → get ren j = some o → get obB o = some b → live b = true → False)
    (hownI : ∀ j ob, get osI j = some ob → ∀ k, bk (plI j) = some k → Own w0.heap.size W ob k) (hownT : ∀ j k, k ∈ fI j → w0.heap.size ≤ k ∨ ∀ i, W k i)
    (hfarB : ∀ o b k, get obB o = some b → live b = true → bk (plB o) = some k → (∀ j, get ren j ≠ some o) → ∀ i, ¬ Given osI plI fI k i)
    (hzB : ∀ b i, ZB b i → ∀ i', ¬ Given osI plI fI b i') (hzI : ∀ b i, ZB b i → Z' b i) (hzN : ∀ b i, Z' b i → ZB b i ∨ w.heap.size ≤ b ∨ ∀ j, Given osI plI fI b j)
    (hpr : ∀ j p, c.ip.objs[j]? = some p → isFix p = true → pr j = plI j) :
    let f := resF c.ip.objs ren nxB
    let pl3 := fun o => if o < nxB then plB o else pr (o - nxB)
    NF f pr c.rp.objs.length pl3 (nxB + c.rp.objs.length) ∧ Ext ZB w plB nxB Z' w' pl3 (nxB + c.rp.objs.length) ∧ Mem W w0 Z' pl3 (resObs f 0 c.rp.objs vr obB) (nxB + c.rp.objs.length) w' := by
  intro f pl3
  obtain ⟨io1, io2⟩ := okIO_ok hio
  -- names
  have ffix : ∀ j p, c.ip.objs[j]? = some p → isFix p = true → ∃ o, get ren j = some o ∧ f j = o ∧ o < nxB ∧ plB o = plI j := by
    intro j p hj hp
    obtain ⟨o, h1, h2, h3⟩ := hren j (List.getElem?_eq_some_iff.1 hj).1
    refine ⟨o, h1, ?_, h2, h3⟩
    cases p with
    | cells ro ls => simp only [f, resF, nth_eq, hj, h1]
    | arr e t => cases hp
    | ow kp tree e t =>
      cases kp with
      | false => cases hp
      | true => simp only [f, resF, nth_eq, hj, h1]
  have fcell : ∀ j ro ls, c.ip.objs[j]? = some (.cells ro ls) → ∃ o, get ren j = some o ∧ f j = o ∧ o < nxB ∧ plB o = plI j := fun j ro ls hj => ffix j _ hj rfl
  have ffresh : ∀ j, (∀ p, c.ip.objs[j]? = some p → isFix p = false) → f j = nxB + j := by
    intro j hj
    cases hh : c.ip.objs[j]? with
    | none => simp only [f, resF, nth_eq, hh]
    | some p =>
      have := hj p hh
      cases p with
      | cells ro ls => cases this
      | arr e t => simp only [f, resF, nth_eq, hh]
      | ow kp tree e t =>
        cases kp with
        | true => cases this
        | false => simp only [f, resF, nth_eq, hh]
  have fcase : ∀ j, (∃ p o, c.ip.objs[j]? = some p ∧ isFix p = true ∧ get ren j = some o ∧ f j = o ∧ o < nxB ∧ plB o = plI j ∧ pr j = plI j) ∨ ((∀ p, c.ip.objs[j]? = some p → isFix p = false) ∧ f j = nxB + j) := by
    intro j
    cases hj : c.ip.objs[j]? with
    | none => exact .inr ⟨fun p e => (by cases e), ffresh j (fun p e => by rw [hj] at e; cases e)⟩
    | some p =>
      cases hp : isFix p with
      | true =>
        obtain ⟨o, h1, h2, h3, h4⟩ := ffix j p hj hp
        exact .inl ⟨p, o, rfl, hp, h1, h2, h3, h4, hpr j p hj hp⟩
      | false => exact .inr ⟨fun q e => (by injection e with e; rw [← e]; exact hp), ffresh j (fun q e => by rw [hj] at e; injection e with e; rw [← e]; exact hp)⟩
  have plold : ∀ o, o < nxB → pl3 o = plB o := fun o ho => by simp only [pl3, if_pos ho]
  have plnew : ∀ j, pl3 (nxB + j) = pr j := fun j => by simp only [pl3]; rw [if_neg (by omega), Nat.add_sub_cancel_left]
  have hNF : NF f pr c.rp.objs.length pl3 (nxB + c.rp.objs.length) := by
    intro j hj
    rcases fcase j with ⟨p, o, _, _, _, h2, h3, h4, h5⟩ | ⟨_, h2⟩
    · rw [h2]; exact ⟨by omega, by rw [plold o h3, h4, h5]⟩
    · rw [h2]; exact ⟨by omega, plnew j⟩
  have finj : ∀ i i', f i = f i' → i = i' := by
    intro i i' e
    rcases fcase i with ⟨p, o, _, _, h1, h2, h3, _, _⟩ | ⟨_, h2⟩ <;> rcases fcase i' with ⟨p', o', _, _, h1', h2', h3', _, _⟩ | ⟨_, h2'⟩
    · rw [h2, h2'] at e; subst e; exact hinj i i' o h1 h1'
    · rw [h2, h2'] at e; omega
    · rw [h2, h2'] at e; omega
    · rw [h2, h2'] at e; omega
  -- memory that is read goes on
  have hsame : ∀ b, b < w.heap.size → (∀ i, ¬ Given osI plI fI b i) → w'.heap[b]? = w.heap[b]? := fun b hb hn => M2.fr.blk b hb hn
  have X : Ext ZB w plB nxB Z' w' pl3 (nxB + c.rp.objs.length) :=
    ⟨Nat.le_add_right _ _, plold, hzI, fun b i hz => cell_of_blk (hsame b (MB.zlt b i hz) (hzB b i hz)) i⟩
  -- what is given whole is a row, or lies behind one
  have hwhole : ∀ b, (∀ j, Given osI plI fI b j) → w0.heap.size ≤ b ∨ ∀ i, W b i := by
    intro b hb
    rcases hb 0 with ⟨j0, ob0, g1, g2, g3, _⟩ | ⟨j0, g⟩
    · have notcells : ∀ ro ls, ob0 ≠ .cells ro ls := by
        intro ro ls e
        subst e
        rcases hb (ls.length + 1) with ⟨j1, ob1, k1, k2, k3, k4⟩ | ⟨j1, k1⟩
        · have := MI.sep j0 j1 _ ob1 b g1 g2 k1 k2 g3 k3
          subst this
          rw [g1] at k1
          injection k1 with k1
          have := (k4 ro ls k1.symm).1
          omega
        · exact TI.root j1 b j0 _ k1 g1 g2 g3
      have := hownI j0 ob0 g1 b g3
      cases ob0 with
      | cells ro ls => exact absurd rfl (notcells ro ls)
      | arr e t x => exact this
      | frz e t x => cases g2
      | dead => cases g2
      | tr e t x => exact this
      | fo e t x i off o2 => exact this
    · exact hownT j0 b g
  -- what an object of the result is
  have new : ∀ o b, (∃ (i : Nat) (p : POb) (vsi : List (TV G)), c.rp.objs[i]? = some p ∧ o = f (0 + i) ∧ b = (obAt f p (get obB (f (0 + i))) vsi).1 ∧ get (iObs (fun j => j) 0 c.rp.objs vr).1 (0 + i) = some (obAt (fun j => j) p none vsi).1) →
      ∃ i, o = f i ∧ i < c.rp.objs.length ∧ ObOK Z' w' pl3 (nxB + c.rp.objs.length) o b ∧ live b = true ∧ pl3 o = pr i ∧ (∃ obI, get os2 i = some obI ∧ live obI = true ∧ (∀ e t x, b = .tr e t x → obI = b) ∧ ∀ e t x i off o2, b ≠ .fo e t x i off o2) ∧
        ∀ k, bk (pl3 o) = some k → Own w0.heap.size W b k ∧ (∀ j, ¬ Z' k j) ∧ (w.heap.size ≤ k ∨ ∃ i', Given osI plI fI k i') := by
    rintro o b ⟨i, p, vsi, hp, ho, hb, hI2⟩
    rw [Nat.zero_add] at ho hb hI2
    rw [← hos2] at hI2
    have hlt : i < c.rp.objs.length := (List.getElem?_eq_some_iff.1 hp).1
    obtain ⟨q1, q2⟩ := hNF i hlt
    have hOb := M2.ob i _ hI2
    have hl2 : live (obAt (G := G) (fun j => j) p none vsi).1 = true := by
      cases p with
      | cells ro pls => rfl
      | arr e t =>
        cases vsi with
        | nil => rfl
        | cons v r => obtain ⟨t', x⟩ := v; cases t' <;> rfl
      | ow kp tree e t =>
        cases tree <;>
        (cases vsi with
        | nil => rfl
        | cons v r => obtain ⟨t', x⟩ := v; cases t' <;> rfl)
    -- a row that comes back is told alike
    have e1 : isRow p = true → ∀ g old, (obAt g p old vsi).1 = (obAt (G := G) (fun j => j) p none vsi).1 := fun hp g old => by
      cases p with
      | cells ro pls => cases hp
      | arr e t =>
        cases vsi with
        | nil => rfl
        | cons v r => obtain ⟨t', x⟩ := v; cases t' <;> rfl
      | ow kp tree e t =>
        cases tree <;>
        (cases vsi with
        | nil => rfl
        | cons v r => obtain ⟨t', x⟩ := v; cases t' <;> rfl)
    have erow : isRow p = true → (∃ e' t' x, (obAt (G := G) (fun j => j) p none vsi).1 = .arr e' t' x) ∨ ∃ e' t' x, (obAt (G := G) (fun j => j) p none vsi).1 = .tr e' t' x := fun hp => by
      cases p with
      | cells ro pls => cases hp
      | arr e t =>
        cases vsi with
        | nil => exact .inl ⟨_, _, _, rfl⟩
        | cons v r => obtain ⟨t', x⟩ := v; cases t' <;> exact .inl ⟨_, _, _, rfl⟩
      | ow kp tree e t =>
        cases tree with
        | false =>
          cases vsi with
          | nil => exact .inl ⟨_, _, _, rfl⟩
          | cons v r => obtain ⟨t', x⟩ := v; cases t' <;> exact .inl ⟨_, _, _, rfl⟩
        | true =>
          cases vsi with
          | nil => exact .inr ⟨_, _, _, rfl⟩
          | cons v r => obtain ⟨t', x⟩ := v; cases t' <;> exact .inr ⟨_, _, _, rfl⟩
    have ecell : isRow p = false → ∃ ro ls, b = .cells ro ls := fun hp => by
      subst hb
      cases p with
      | cells ro pls =>
        cases hold : get obB (f i) with
        | none => simp only [obAt, hold]; exact ⟨_, _, rfl⟩
        | some old => cases old <;> (simp only [obAt, hold]; exact ⟨_, _, rfl⟩)
      | arr e t => cases hp
      | ow kp tree e t => cases hp
    refine ⟨i, ho, hlt, ?_, ?_, by rw [ho]; exact q2, ⟨_, hI2, hl2, fun e t x hbt => ?_, fun e t x i1 off o2 hbf => ?_⟩, ?_⟩
    · -- it is there
      subst ho hb
      cases hrow : isRow p with
      | true =>
        rw [e1 hrow]
        rcases erow hrow with ⟨e', t', x, e2⟩ | ⟨e', t', x, e2⟩
        · rw [e2] at hOb ⊢
          obtain ⟨vs, o1, o2⟩ := hOb
          exact ⟨vs, by rw [q2]; exact o1, o2⟩
        · rw [e2] at hOb ⊢
          obtain ⟨vs, o1⟩ := hOb
          exact ⟨vs, by rw [q2]; exact o1⟩
      | false =>
      cases p with
      | arr e t => cases hrow
      | ow kp tree e t => cases hrow
      | cells ro pls =>
        obtain ⟨b2, T2, cs2, m1, m2, m3⟩ := hOb
        have m3' := (iLeaves_ren hNF (ps := pls) (vs := vsi)).2.2 m3
        cases hold : get obB (f i) with
        | none => simp only [obAt, hold]; exact ⟨b2, T2, cs2, by rw [q2]; exact m1, m2, m3'⟩
        | some old =>
          cases old with
          | cells ro' ls =>
            simp only [obAt, hold]
            rcases fcase i with ⟨p0, o0, hi0, hx0, hr0, hf0, hlt0, hpl0, hpr0⟩ | ⟨hn, hf0⟩
            · obtain ⟨ro0, ls0, rfl⟩ : ∃ ro0 ls0, p0 = .cells ro0 ls0 := by
                obtain ⟨q, hq1, hq2⟩ := io2 i _ hi0
                rw [hp] at hq1
                injection hq1 with hq1
                subst hq1
                cases p0 with
                | cells ro0 ls0 => exact ⟨_, _, rfl⟩
                | arr e t => exact hq2.elim
                | ow kp tree e t => cases kp <;> exact hq2.elim
              obtain ⟨q, hq1, hq2⟩ := io2 i _ hi0
              rw [hp] at hq1
              injection hq1 with hq1
              subst hq1
              obtain ⟨hlen, hany⟩ := hq2
              obtain ⟨ro'', ls'', hcc, hll⟩ := hcells i ro0 ls0 o0 hi0 hr0
              rw [hf0, hcc] at hold
              injection hold with hold
              injection hold with e1 e2
              subst e1 e2
              obtain ⟨bB, TB, csB, n1, n2, n3⟩ := MB.ob o0 _ hcc
              have hbb : bB = b2 := by rw [hpl0, ← hpr0, m1] at n1; injection n1 with n1; injection n1 with n1; injection n1 with n1; exact n1.symm
              subst hbb
              obtain ⟨obI0, hobI, hlI, hcI⟩ := hI i _ hi0
              obtain ⟨lsI, hobI2, hlenI⟩ := hcI
              subst hobI2
              have hbkI : bk (plI i) = some bB := by rw [← hpr0, m1]; rfl
              have hltb : bB < w.heap.size := (Array.getElem?_eq_some_iff.1 n2).1
              have notgiven : ∀ k : Nat, k ∈ ro0 → k < ls0.length → ¬ Given osI plI fI bB k := by
                rintro k hk hk2 (⟨j1, ob1, g1, g2, g3, g4⟩ | ⟨j1, g1⟩)
                rotate_left
                · exact TI.root j1 bB i _ g1 hobI hlI hbkI
                have := MI.sep i j1 _ ob1 bB hobI hlI g1 g2 hbkI g3
                subst this
                rw [hobI] at g1
                injection g1 with g1
                rcases (g4 ro0 lsI g1.symm).2 with h | h
                · omega
                · exact h hk
              have hkeep : ∀ k : Nat, pls[k]? = some .any → cs2[k]? = csB[k]? := by
                intro k hk
                have hk1 : k < pls.length := (List.getElem?_eq_some_iff.1 hk).1
                have hng := notgiven k (hany k hk) (by omega)
                obtain ⟨cs', c1, _, c3⟩ := M2.fr.cel bB csB TB (0, 0) hltb ⟨k, hng⟩ n2
                rw [m2] at c1
                injection c1 with c1
                injection c1 with c1
                have c1 : cs2 = cs' := by simpa using c1
                rw [c1]
                exact c3 k hng
              exact ⟨bB, T2, cs2, by rw [q2]; exact m1, m2, (mrg_ok f (by omega)).2.2 m3' (n3.mono X) hkeep⟩
            · rw [hf0] at hold
              exact absurd (MB.lt _ _ hold) (by omega)
          | _ => simp only [obAt, hold]; exact ⟨b2, T2, cs2, by rw [q2]; exact m1, m2, m3'⟩
    · cases hrow : isRow p with
      | true => rw [hb, e1 hrow]; exact hl2
      | false => obtain ⟨ro, ls, e⟩ := ecell hrow; rw [e]; rfl
    · cases hrow : isRow p with
      | true => exact (hb.trans (e1 hrow _ _)).symm
      | false => obtain ⟨ro, ls, e⟩ := ecell hrow; rw [e] at hbt; cases hbt
    · cases hrow : isRow p with
      | true => rw [hb, e1 hrow] at hbf; rcases erow hrow with ⟨_, _, _, e⟩ | ⟨_, _, _, e⟩ <;> (rw [e] at hbf; cases hbf)
      | false => obtain ⟨ro, ls, e⟩ := ecell hrow; rw [e] at hbf; cases hbf
    · intro k hk
      rw [ho, q2] at hk
      have hown := M2.own i _ k hI2 hl2 hk
      have hfar := M2.zfar i _ k hI2 hl2 hk
      -- of what was given: whose it was
      have ofGiven : ∀ i', Given osI plI fI k i' → (w0.heap.size ≤ k ∨ ∀ j, W k j) ∨ (∃ ro0 ls0 ro' ls, c.ip.objs[i]? = some (.cells ro0 ls0) ∧ get obB (f i) = some (.cells ro' ls) ∧ plB (f i) = plI i) := by
        rintro i' (⟨j1, ob1, g1, g2, g3, _⟩ | ⟨j1, g1⟩)
        · have hOw := hownI j1 ob1 g1 k g3
          cases ob1 with
          | arr e t x => exact .inl hOw
          | tr e t x => exact .inl hOw
          | fo e t x i off o2 => exact .inl hOw
          | frz => cases g2
          | dead => cases g2
          | cells ro1 ls1 =>
            right
            have hj1 : j1 < c.ip.objs.length := MI.lt j1 _ g1
            obtain ⟨p1, hp1⟩ : ∃ p1, c.ip.objs[j1]? = some p1 := ⟨_, List.getElem?_eq_getElem hj1⟩
            obtain ⟨ob1', hob1', _, hm⟩ := hI j1 p1 hp1
            rw [g1] at hob1'
            injection hob1' with hob1'
            subst hob1'
            cases p1 with
            | arr e t => exact absurd rfl (hm _ _)
            | ow kp tree e t => exact absurd rfl (hm _ _)
            | cells ro0 ls0 =>
              have hprj := hpr j1 _ hp1 rfl
              obtain ⟨q, hq1, hq2⟩ := io2 j1 _ hp1
              -- the result's own object of that place
              have hj2 : j1 < c.rp.objs.length := (List.getElem?_eq_some_iff.1 hq1).1
              have hex : ∃ obJ, get os2 j1 = some obJ ∧ live obJ = true := by
                have := iObs_some (G := G) (ps := c.rp.objs) (vs := vr) (i := j1) (j := 0) hj2
                rw [Nat.zero_add, ← hos2] at this
                exact this
              obtain ⟨obJ, hJ1, hJ2⟩ := hex
              have := M2.sep i j1 _ obJ k hI2 hl2 hJ1 hJ2 hk (by rw [hprj]; exact g3)
              subst this
              obtain ⟨o0, r1, r2, r3, r4⟩ := fcell i ro0 ls0 hp1
              obtain ⟨ro', ls, hcc, _⟩ := hcells i ro0 ls0 o0 hp1 r1
              exact ⟨ro0, ls0, ro', ls, hp1, by rw [r2]; exact hcc, by rw [r2]; exact r4⟩
        · exact .inl (hownT j1 k g1)
      have given1 : w.heap.size ≤ k ∨ ∃ i', Given osI plI fI k i' := by
        rcases hown with h | h
        · exact .inl h
        · right
          cases hoo : (obAt (G := G) (fun j => j) p none vsi).1 with
          | cells ro ls => rw [hoo] at h; exact ⟨ls.length, h ls.length (Nat.le_refl _) (.inl rfl)⟩
          | arr e t x => rw [hoo] at h; exact ⟨0, h 0⟩
          | frz e t x => rw [hoo] at h; exact ⟨0, h 0⟩
          | dead => rw [hoo] at h; exact ⟨0, h 0⟩
          | tr e t x => rw [hoo] at h; exact ⟨0, h 0⟩
          | fo e t x i off o2 => rw [hoo] at h; exact ⟨0, h 0⟩
      refine ⟨?_, hfar, given1⟩
      rcases given1 with h | ⟨i', hg⟩
      · exact .inl (Nat.le_trans MB.fr.size h)
      · rcases ofGiven i' hg with h | ⟨ro0, ls0, ro', ls, g1, g2, g3⟩
        · rcases h with h | h
          · exact .inl h
          · refine .inr ?_
            cases b with
            | cells _ _ => exact fun i _ _ => h i
            | _ => exact h
        · -- a variable given back
          have hprI : pr i = plI i := hpr i _ g1 rfl
          have hbB : bk (plB (f i)) = some k := by rw [g3, ← hprI]; exact hk
          have hO := MB.own (f i) _ k g2 rfl hbB
          rcases hO with h | h
          · exact .inl h
          · refine .inr ?_
            subst hb
            cases p with
            | arr e t =>
              obtain ⟨q, hq1, hq2⟩ := io2 i _ g1
              rw [hp] at hq1
              injection hq1 with hq1
              subst hq1
              exact hq2.elim
            | ow kp tree e t =>
              obtain ⟨q, hq1, hq2⟩ := io2 i _ g1
              rw [hp] at hq1
              injection hq1 with hq1
              subst hq1
              exact hq2.elim
            | cells ro pls =>
              obtain ⟨q, hq1, hq2⟩ := io2 i _ g1
              rw [hp] at hq1
              injection hq1 with hq1
              subst hq1
              obtain ⟨o0, r1, r2, r3, r4⟩ := fcell i ro0 ls0 g1
              obtain ⟨ro'', ls'', hcc, hll⟩ := hcells i ro0 ls0 o0 g1 r1
              rw [r2, hcc] at g2
              injection g2 with g2
              injection g2 with e1 e2
              subst e1 e2
              simp only [obAt, r2, hcc]
              have hlen := (mrg_ok (G := G) (Z := Z') (w := w') (pl := pr) (nx := 0) f (ps := pls) (ls := ls'') (vs := vsi) (by have := hq2.1; omega)).2.1
              intro i2 h2 h3
              rw [hlen] at h2 h3
              exact h i2 h2 h3
  -- what was kept
  have kept : ∀ o b, (∀ i, i < c.rp.objs.length → o ≠ f (0 + i)) → get obB o = some b → live b = true → (∀ j, get ren j ≠ some o) ∧ ∀ k, bk (plB o) = some k → w'.heap[k]? = w.heap[k]? ∧ ∀ i, ¬ Given osI plI fI k i := by
    intro o b hne hg hl
    have hnb : ∀ j, get ren j ≠ some o := by
      intro j hj
      have hj1 := hbnd j o hj
      obtain ⟨p1, hp1⟩ : ∃ p1, c.ip.objs[j]? = some p1 := ⟨_, List.getElem?_eq_getElem hj1⟩
      cases p1 with
      | arr e t => exact hdead j _ o b hp1 rfl hj hg hl
      | ow kp tree e t => exact hdead j _ o b hp1 rfl hj hg hl
      | cells ro ls =>
        obtain ⟨o0, r1, r2, _⟩ := fcell j ro ls hp1
        rw [hj] at r1
        injection r1 with r1
        have := hne j (by omega)
        rw [Nat.zero_add] at this
        exact this (r1.trans r2.symm)
    refine ⟨hnb, fun k hk => ?_⟩
    have := hfarB o b k hg hl hk hnb
    exact ⟨hsame k (MB.blt hg hl hk) this, this⟩
  have look : ∀ o b, get (resObs f 0 c.rp.objs vr obB) o = some b → (∃ (i : Nat) (p : POb) (vsi : List (TV G)), c.rp.objs[i]? = some p ∧ o = f (0 + i) ∧ b = (obAt f p (get obB (f (0 + i))) vsi).1 ∧ get (iObs (fun j => j) 0 c.rp.objs vr).1 (0 + i) = some (obAt (fun j => j) p none vsi).1) ∨ ((∀ i, i < c.rp.objs.length → o ≠ f (0 + i)) ∧ get obB o = some b) := by
    refine fun o b hg => resObs_get hNF (fun i p hp ro pls ro' ls e1 e2 => ?_) (fun i i' _ _ e => by rw [Nat.zero_add, Nat.zero_add] at e; exact finj i i' e) o b hg
    subst e1
    rw [Nat.zero_add] at e2
    rcases fcase i with ⟨p0, o0, hi0, hx0, hr0, hf0, _⟩ | ⟨_, hf0⟩
    · obtain ⟨ro0, ls0, rfl⟩ : ∃ ro0 ls0, p0 = .cells ro0 ls0 := by
        obtain ⟨q, hq1, hq2⟩ := io2 i _ hi0
        rw [hp] at hq1
        injection hq1 with hq1
        subst hq1
        cases p0 with
        | cells ro0 ls0 => exact ⟨_, _, rfl⟩
        | arr e t => exact hq2.elim
        | ow kp tree e t => cases kp <;> exact hq2.elim
      obtain ⟨q, hq1, hq2⟩ := io2 i _ hi0
      rw [hp] at hq1
      injection hq1 with hq1
      subst hq1
      obtain ⟨ro'', ls'', hcc, hll⟩ := hcells i ro0 ls0 o0 hi0 hr0
      rw [hf0, hcc] at e2
      injection e2 with e2
      injection e2 with _ e2
      subst e2
      have := hq2.1
      omega
    · rw [hf0] at e2
      exact absurd (MB.lt _ _ e2) (by omega)
  refine ⟨hNF, X, ?_⟩
  constructor
  · intro o b hg
    rcases look o b hg with hh | ⟨_, hh⟩
    · obtain ⟨i, h1, h2, _⟩ := new o b hh
      rw [h1]; exact (hNF i h2).1
    · have := MB.lt o b hh; omega
  · intro o b hg
    rcases look o b hg with hh | ⟨hne, hh⟩
    · obtain ⟨i, _, _, h3, _⟩ := new o b hh; exact h3
    · exact (MB.ob o b hh).mono X (MB.lt o b hh) (fun hl k hk => ((kept o b hne hh hl).2 k hk).1)
  · intro o o' b b' k hg hl hg' hl' hk hk'
    have mix : ∀ o b o' b', (∃ (i : Nat) (p : POb) (vsi : List (TV G)), c.rp.objs[i]? = some p ∧ o = f (0 + i) ∧ b = (obAt f p (get obB (f (0 + i))) vsi).1 ∧ get (iObs (fun j => j) 0 c.rp.objs vr).1 (0 + i) = some (obAt (fun j => j) p none vsi).1) →
        (∀ i, i < c.rp.objs.length → o' ≠ f (0 + i)) → get obB o' = some b' → live b' = true → bk (pl3 o) = some k → bk (pl3 o') = some k → False := by
      intro o b o' b' hh hne hh' hl' hk hk'
      obtain ⟨i, _, _, _, _, _, _, h5⟩ := new o b hh
      rw [plold o' (MB.lt o' b' hh')] at hk'
      have h6 := ((kept o' b' hne hh' hl').2 k hk').2
      rcases (h5 k hk).2.2 with h | ⟨i', h⟩
      · exact Nat.lt_irrefl _ (Nat.lt_of_lt_of_le (MB.blt hh' hl' hk') h)
      · exact h6 i' h
    rcases look o b hg with hh | ⟨hne, hh⟩ <;> rcases look o' b' hg' with hh' | ⟨hne', hh'⟩
    · obtain ⟨i, h1, _, _, _, h2, ⟨obI, h3, h4, _⟩, _⟩ := new o b hh
      obtain ⟨i', h1', _, _, _, h2', ⟨obI', h3', h4', _⟩, _⟩ := new o' b' hh'
      rw [h2] at hk
      rw [h2'] at hk'
      have := M2.sep i i' obI obI' k h3 h4 h3' h4' hk hk'
      rw [h1, h1', this]
    · exact (mix o b o' b' hh hne' hh' hl' hk hk').elim
    · exact (mix o' b' o b hh' hne hh hl hk' hk).elim
    · rw [plold o (MB.lt o b hh)] at hk
      rw [plold o' (MB.lt o' b' hh')] at hk'
      exact MB.sep o o' b b' k hh hl hh' hl' hk hk'
  · intro o b k hg hl hk
    rcases look o b hg with hh | ⟨hne, hh⟩
    · obtain ⟨i, _, _, _, _, _, _, h5⟩ := new o b hh; exact (h5 k hk).1
    · rw [plold o (MB.lt o b hh)] at hk; exact MB.own o b k hh hl hk
  · intro o b k hg hl hk
    rcases look o b hg with hh | ⟨hne, hh⟩
    · obtain ⟨i, _, _, _, _, _, _, h5⟩ := new o b hh; exact (h5 k hk).2.1
    · rw [plold o (MB.lt o b hh)] at hk
      intro i hz
      have h6 := ((kept o b hne hh hl).2 k hk).2
      rcases hzN k i hz with h | h | h
      · exact MB.zfar o b k hh hl hk i h
      · exact Nat.lt_irrefl _ (Nat.lt_of_lt_of_le (MB.blt hh hl hk) h)
      · exact h6 0 (h 0)
  · exact M2.zlt
  · intro b i hz
    rcases hzN b i hz with h | h | h
    · exact MB.zn b i h
    · exact .inr (.inl (Nat.le_trans MB.fr.size h))
    · exact .inr (hwhole b h)
  · exact fun b i hz => hzI b i (MB.z0 b i hz)
  · exact fun j hj => ⟨Nat.lt_of_lt_of_le (MB.fx j hj).1 (Nat.le_add_right _ _), (plold j (MB.fx j hj).1).trans (MB.fx j hj).2⟩
  · -- the frame
    have givenW : ∀ b i, b < w0.heap.size → Given osI plI fI b i → W b i := by
      rintro b i hb (⟨j, ob, g1, g2, g3, g4⟩ | ⟨j, g1⟩)
      · rcases hownI j ob g1 b g3 with h | h
        · omega
        · cases ob with
          | cells ro ls => obtain ⟨q1, q2⟩ := g4 ro ls rfl; exact h i q1 q2
          | arr e t x => exact h i
          | tr e t x => exact h i
          | fo e t x i1 off o2 => exact h i
          | frz => cases g2
          | dead => cases g2
      · rcases hownT j b g1 with h | h
        · omega
        · exact h i
    refine MB.fr.trans ⟨M2.fr.os, M2.fr.tape, M2.fr.output, M2.fr.size, fun b hb hW => hsame b (Nat.lt_of_lt_of_le hb MB.fr.size) (fun i hg => hW i (givenW b i hb hg)), fun b cs T fr hb hn hc => ?_⟩
    obtain ⟨i, hi⟩ := hn
    obtain ⟨cs', c1, c2, c3⟩ := M2.fr.cel b cs T fr (Nat.lt_of_lt_of_le hb MB.fr.size) ⟨i, fun hg => hi (givenW b i hb hg)⟩ hc
    exact ⟨cs', c1, c2, fun i hi => c3 i (fun hg => hi (givenW b i hb hg))⟩
  · -- what lies behind the rows that own what they lead to
    obtain ⟨f2, T2⟩ := M2.tr
    let f3 : Nat → List Nat := fun o => match (List.range c.rp.objs.length).find? (fun i => f i == o) with
      | some i => f2 i
      | none => fB o
    have f3new : ∀ i, i < c.rp.objs.length → f3 (f i) = f2 i := by
      intro i hi
      have : (List.range c.rp.objs.length).find? (fun i' => f i' == f i) = some i := by
        cases hf : (List.range c.rp.objs.length).find? (fun i' => f i' == f i) with
        | none =>
          have := List.find?_eq_none.1 hf i (List.mem_range.2 hi)
          simp at this
        | some i' =>
          have := List.find?_some hf
          rw [finj i' i (by simpa using this)]
      show (match (List.range c.rp.objs.length).find? (fun i' => f i' == f i) with | some i => f2 i | none => fB (f i)) = _
      rw [this]
    have f3old : ∀ o, (∀ i, i < c.rp.objs.length → o ≠ f i) → f3 o = fB o := by
      intro o ho
      have : (List.range c.rp.objs.length).find? (fun i' => f i' == o) = none := List.find?_eq_none.2 fun i hi => by
        have := ho i (List.mem_range.1 hi)
        simp only [beq_iff_eq]
        exact fun e => this e.symm
      show (match (List.range c.rp.objs.length).find? (fun i' => f i' == o) with | some i => f2 i | none => fB o) = _
      rw [this]
    have f3case : ∀ o, (∃ i, i < c.rp.objs.length ∧ o = f i ∧ f3 o = f2 i) ∨ ((∀ i, i < c.rp.objs.length → o ≠ f i) ∧ f3 o = fB o) := by
      intro o
      by_cases h : ∃ i, i < c.rp.objs.length ∧ o = f i
      · obtain ⟨i, hi, e⟩ := h
        exact .inl ⟨i, hi, e, by rw [e]; exact f3new i hi⟩
      · have h' : ∀ i, i < c.rp.objs.length → o ≠ f i := fun i hi e => h ⟨i, hi, e⟩
        exact .inr ⟨h', f3old o h'⟩
    have own2 : ∀ i k, k ∈ f2 i → w.heap.size ≤ k ∨ ∀ j, Given osI plI fI k j := fun i k hk => T2.own i k hk
    have apart : ∀ i o k, k ∈ f2 i → k ∈ fB o → False := by
      intro i o k h1 h2
      rcases own2 i k h1 with h | h
      · exact Nat.lt_irrefl _ (Nat.lt_of_lt_of_le (TB.lt o k h2) h)
      · exact hfB o k h2 0 (h 0)
    refine ⟨f3, ?_⟩
    constructor
    · intro o b hg
      rcases look o b hg with hh | ⟨hne, hh⟩
      · obtain ⟨i, h1, h2, _, _, h5, ⟨obI, h6, h7, h8, h9⟩, _⟩ := new o b hh
        rw [h1, f3new i h2]
        cases b with
        | tr e t x =>
          have := h8 e t x rfl
          subst this
          obtain ⟨vs, k1, k2⟩ := T2.rep i _ h6
          exact ⟨vs, by rw [← h1, h5]; exact k1, k2⟩
        | fo e t x i1 off o2 => exact absurd rfl (h9 e t x i1 off o2)
        | _ => trivial
      · rw [f3old o (fun i hi => by have := hne i hi; rwa [Nat.zero_add] at this)]
        refine (TB.rep o b hh).mono (Nat.le_add_right _ _) plold (MB.lt o b hh) (fun k hk => hsame k (TB.lt o k hk) (hfB o k hk)) (fun hl k hk => ((kept o b hne hh hl).2 k hk).1)
    · intro o
      rcases f3case o with ⟨i, _, _, e⟩ | ⟨_, e⟩ <;> rw [e]
      · exact T2.nd i
      · exact TB.nd o
    · intro o o' k h1 h2
      rcases f3case o with ⟨i, _, e1, e⟩ | ⟨_, e⟩ <;> rcases f3case o' with ⟨i', _, e1', e'⟩ | ⟨_, e'⟩ <;> rw [e] at h1 <;> rw [e'] at h2
      · rw [e1, e1', T2.sep i i' k h1 h2]
      · exact (apart i o' k h1 h2).elim
      · exact (apart i' o k h2 h1).elim
      · exact TB.sep o o' k h1 h2
    · intro o k o' b h1 hg hl hb
      rcases look o' b hg with hh | ⟨hne, hh⟩
      · obtain ⟨i', h1', h2', _, _, h5, ⟨obI, h6, h7, _⟩, h8⟩ := new o' b hh
        rcases f3case o with ⟨i, _, _, e⟩ | ⟨_, e⟩ <;> rw [e] at h1
        · rw [h5] at hb
          exact T2.root i k i' obI h1 h6 h7 hb
        · rcases (h8 k hb).2.2 with h | ⟨j, h⟩
          · exact Nat.lt_irrefl _ (Nat.lt_of_lt_of_le (TB.lt o k h1) h)
          · exact hfB o k h1 j h
      · rw [plold o' (MB.lt o' b hh)] at hb
        rcases f3case o with ⟨i, _, _, e⟩ | ⟨_, e⟩ <;> rw [e] at h1
        · have h6 := ((kept o' b hne hh hl).2 k hb).2
          rcases own2 i k h1 with h | h
          · exact Nat.lt_irrefl _ (Nat.lt_of_lt_of_le (MB.blt hh hl hb) h)
          · exact h6 0 (h 0)
        · exact TB.root o k o' b h1 hh hl hb
    · intro o k h1
      rcases f3case o with ⟨i, _, _, e⟩ | ⟨_, e⟩ <;> rw [e] at h1
      · rcases own2 i k h1 with h | h
        · exact .inl (Nat.le_trans MB.fr.size h)
        · exact hwhole k h
      · exact TB.own o k h1
    · intro o k h1
      rcases f3case o with ⟨i, _, _, e⟩ | ⟨_, e⟩ <;> rw [e] at h1
      · exact T2.zfar i k h1
      · intro j hz
        rcases hzN k j hz with h | h | h
        · exact TB.zfar o k h1 j h
        · exact Nat.lt_irrefl _ (Nat.lt_of_lt_of_le (TB.lt o k h1) h)
        · exact hfB o k h1 0 (h 0)
    · intro o k h1
      rcases f3case o with ⟨i, _, _, e⟩ | ⟨_, e⟩ <;> rw [e] at h1
      · exact T2.lt i k h1
      · exact Nat.lt_of_lt_of_le (TB.lt o k h1) M2.fr.size
end Go.Proofs.YtmcbhnbemhfifaaDoor.RX
