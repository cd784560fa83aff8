/- FnExactExpRules: the law holds whatever the input.. -/
import Derived.Test.YtmcbhnbemhfifaaDoorRzPartB
import Derived.Maps.RangeRun
import Derived.WideMake
import Derived.Orders
import Derived.ChangeArms
import Derived.OpenShut
import Derived.ShutString
import Derived.SizedLaws
import Derived.Shelf.Strings.SlTrimAscii
import Derived.Shelf.Strings.OnBuilder
import Derived.Shelf.Small.Strs
import Derived.Shelf.Strings.Builder1
import Derived.Shelf.Strings.Builder2
import Derived.Shelf.Strings.Trim
import Derived.Shelf.Small.Utf8
import Derived.Shelf.Strings.Search1
import Derived.Shelf.Unicode.Decode
import Derived.Shelf.Strings.Runes
import Derived.Shelf.Strings.AsciiSet
import Derived.Shelf.Unicode.DecodeSlow
import Derived.Shelf.Unicode.DecodeAny
import Derived.Shelf.Unicode.DecodeLast
import Derived.Test.YtmcbhnbemhfifaaDoorProg
set_option linter.unusedVariables false
set_option linter.unusedSimpArgs false
section
namespace Go.Proofs.YtmcbhnbemhfifaaDoor.RX
open Go Go.RowKit
set_option autoImplicit false
variable {G : Sig} {R : Type} {P : Program} {W : Rights} {w0 w w' : World} {Z Z' : Nat → Nat → Prop} {pl pl' : Nat → Value} {N : Nat}
variable {E : Env G R} {o : Oper} {L : St G} {K : St G → Option R} {r : R} {a : Act} {next : Act → World → Prop} {Q : Exit → Act → World → Prop}
def isRow : POb → Bool
 | .cells _ _ => false
 | _ => true
theorem killArr_row {ren : List (Nat × Nat)} {p : POb} (hp : isRow p = true) (ps : List POb) (j : Nat) (ob : List (Nat × Ob G)) :
  killArr ren j (p :: ps) ob = match get ren j with | some o => killArr ren (j + 1) ps ((o, .dead) :: ob) | none => killArr ren (j + 1) ps ob := by
 cases p with
 | cells ro l => cases hp
 | arr e t => rfl
 | ow kp tree e t => rfl
 | mo t u tg => rfl
 | tk e t => rfl
theorem killArr_cells {ren : List (Nat × Nat)} {p : POb} (hp : isRow p = false) (ps : List POb) (j : Nat) (ob : List (Nat × Ob G)) : killArr ren j (p :: ps) ob = killArr ren (j + 1) ps ob := by
 cases p with
 | cells ro l => rfl
 | arr e t => cases hp
 | ow kp tree e t => cases hp
 | mo t u tg => cases hp
 | tk e t => cases hp
theorem killArr_get {ren : List (Nat × Nat)} : ∀ {ps : List POb} {j : Nat} {ob : List (Nat × Ob G)} {o : Nat} {b : Ob G}, get (killArr ren j ps ob) o = some b → live b = true → get ob o = some b ∧ ∀ (i : Nat) p, ps[i]? = some p → isRow p = true → get ren (j + i) ≠ some o
 | [], _, _, _, _, h, _ => ⟨h, fun i p hi => by simp at hi⟩
 | p :: ps, j, ob, o, b, h, hl => by
  cases hp : isRow p with
  | false =>
   rw [killArr_cells hp] at h
   obtain ⟨a1, a2⟩ := killArr_get (ps := ps) (j := j + 1) (ob := ob) h hl
   refine ⟨a1, fun i q hi hq => ?_⟩
   cases i with
   | zero => injection hi with hi; rw [hi, hq] at hp; cases hp
   | succ i => have := a2 i q (by simpa using hi) hq; rwa [show j + (i + 1) = j + 1 + i by omega]
  | true =>
   rw [killArr_row hp] at h
   split at h
   ·rename_i o1 ho1
    obtain ⟨a1, a2⟩ := killArr_get (ps := ps) (j := j + 1) (ob := (o1, .dead) :: ob) h hl
    have hne : o1 ≠ o := by intro e; subst e; rw [get_same] at a1; cases a1; cases hl
    rw [get_far _ _ hne] at a1
    refine ⟨a1, fun i q hi hq => ?_⟩
    cases i with
    | zero => rw [Nat.add_zero, ho1]; intro ee; injection ee with ee; exact hne ee
    | succ i => have := a2 i q (by simpa using hi) hq; rwa [show j + (i + 1) = j + 1 + i by omega]
   ·rename_i hn
    obtain ⟨a1, a2⟩ := killArr_get (ps := ps) (j := j + 1) (ob := ob) h hl
    refine ⟨a1, fun i q hi hq => ?_⟩
    cases i with
    | zero => rw [Nat.add_zero, hn]; intro ee; cases ee
    | succ i => have := a2 i q (by simpa using hi) hq; rwa [show j + (i + 1) = j + 1 + i by omega]
theorem killArr_far {ren : List (Nat × Nat)} : ∀ {ps : List POb} {j : Nat} {ob : List (Nat × Ob G)} {o : Nat}, (∀ (i : Nat) p, ps[i]? = some p → isRow p = true → get ren (j + i) ≠ some o) → get (killArr ren j ps ob) o = get ob o
 | [], _, _, _, _ => rfl
 | p :: ps, j, ob, o, h => by
  have h' : ∀ (i : Nat) q, ps[i]? = some q → isRow q = true → get ren (j + 1 + i) ≠ some o := fun i q hi hq => by have := h (i + 1) q (by simpa using hi) hq; rwa [show j + 1 + i = j + (i + 1) by omega]
  cases hp : isRow p with
  | false => rw [killArr_cells hp]; exact killArr_far h'
  | true =>
   rw [killArr_row hp]
   split
   ·rename_i o1 ho1
    rw [killArr_far h', get_far _ _ (by intro e; subst e; exact h 0 p rfl hp (by rw [Nat.add_zero]; exact ho1))]
   ·exact killArr_far h'
theorem killArr_mem {ren : List (Nat × Nat)} {nx : Nat} : ∀ {ps : List POb} {j : Nat} {ob : List (Nat × Ob G)} {f : Nat → List Nat}, Mem W w0 Z pl ob nx w → TrOK W w0.heap.size Z pl ob nx w f → RenLt ren nx → Mem W w0 Z pl (killArr ren j ps ob) nx w ∧ TrOK W w0.heap.size Z pl (killArr ren j ps ob) nx w f
 | [], _, _, _, M, T, _ => ⟨M, T⟩
 | p :: ps, j, ob, f, M, T, hr => by
  cases hp : isRow p with
  | false => rw [killArr_cells hp]; exact killArr_mem M T hr
  | true =>
   rw [killArr_row hp]
   split
   ·rename_i o1 ho1
    exact killArr_mem (M.kill o1 (hr _ _ ho1)) (T.kill o1) hr
   ·exact killArr_mem M T hr
def IOp : POb → POb → Prop
 | .cells ro pl, .cells _ pl' => pl.length = pl'.length ∧ ∀ k : Nat, pl'[k]? = some .any → k ∈ ro
 | .arr _ _, .arr _ _ => True
 | .ow true a _ _, .ow true b _ _ => a = b
 | .mo _ _ none, .mo _ _ none => True
 | _, _ => False
theorem noIt_ok : ∀ {qs : List POb}, noIt qs = true → ∀ (i : Nat) t u j, qs[i]? ≠ some (.mo t u (some j))
 | [], _, i, t, u, j => by simp
 | q :: qs, h, i, t, u, j => by
  have hr : noIt qs = true := by
   cases q with
   | mo t u tg => cases tg with | none => exact h | some _ => simp [noIt] at h
   | tk e t => simp [noIt] at h
   | _ => exact h
  cases i with
  | zero =>
   intro e
   injection e with e
   subst e
   simp [noIt] at h
  | succ i => have := noIt_ok hr i t u j; simpa using this
theorem okIO_it : ∀ {ps qs : List POb}, okIO ps qs = true → ∀ (i : Nat) t u j, qs[i]? ≠ some (.mo t u (some j))
 | [], qs, h, i, t, u, j => noIt_ok h i t u j
 | p :: ps, [], h, i, t, u, j => by simp
 | p :: ps, q :: qs, h, i, t, u, j => by
  have hr : okIO ps qs = true ∧ ∀ t u j, q ≠ .mo t u (some j) := by
   cases p with
   | cells ro pl =>
    cases q with
    | cells ro' pl' => simp only [okIO] at h; split at h <;> first | exact ⟨h, fun _ _ _ e => by cases e⟩ | cases h
    | _ => simp [okIO] at h
   | arr e t =>
    cases q with
    | arr e' t' => exact ⟨h, fun _ _ _ e => by cases e⟩
    | _ => simp [okIO] at h
   | ow kp tree e t =>
    cases kp with
    | false => cases q <;> simp [okIO] at h
    | true =>
     cases q with
     | ow kp' tree' e' t' =>
      cases kp' with
      | false => simp [okIO] at h
      | true => refine ⟨?_, fun _ _ _ e => by cases e⟩; cases he : Nat.beq e e' <;> cases tree <;> cases tree' <;> simp_all [okIO]
     | _ => simp [okIO] at h
   | mo t u tg =>
    cases tg with
    | some j => cases q <;> simp [okIO] at h
    | none =>
     cases q with
     | mo t' u' tg' =>
      cases tg' with
      | some j => simp [okIO] at h
      | none => simp only [okIO] at h; split at h <;> first | exact ⟨h, fun _ _ _ e => by cases e⟩ | cases h
     | _ => simp [okIO] at h
   | tk e t => cases q <;> simp [okIO] at h
  cases i with
  | zero => intro e; injection e with e; exact hr.2 t u j e
  | succ i => have := okIO_it hr.1 i t u j; simpa using this
theorem noIt_tk : ∀ {qs : List POb}, noIt qs = true → ∀ (i : Nat) e t, qs[i]? ≠ some (.tk e t)
 | [], _, i, e, t => by simp
 | q :: qs, h, i, e, t => by
  have hr : noIt qs = true := by
   cases q with
   | mo t u tg => cases tg with | none => exact h | some _ => simp [noIt] at h
   | tk e t => simp [noIt] at h
   | _ => exact h
  cases i with
  | zero =>
   intro e
   injection e with e
   subst e
   simp [noIt] at h
  | succ i => have := noIt_tk hr i e t; simpa using this
theorem okIO_tk : ∀ {ps qs : List POb}, okIO ps qs = true → ∀ (i : Nat) e t, qs[i]? ≠ some (.tk e t)
 | [], qs, h, i, e, t => noIt_tk h i e t
 | p :: ps, [], h, i, e, t => by simp
 | p :: ps, q :: qs, h, i, e0, t0 => by
  have hr : okIO ps qs = true ∧ ∀ e t, q ≠ .tk e t := by
   cases p with
   | cells ro pl =>
    cases q with
    | cells ro' pl' => simp only [okIO] at h; split at h <;> first | exact ⟨h, fun _ _ e => by cases e⟩ | cases h
    | _ => simp [okIO] at h
   | arr e t =>
    cases q with
    | arr e' t' => exact ⟨h, fun _ _ e => by cases e⟩
    | _ => simp [okIO] at h
   | ow kp tree e t =>
    cases kp with
    | false => cases q <;> simp [okIO] at h
    | true =>
     cases q with
     | ow kp' tree' e' t' =>
      cases kp' with
      | false => simp [okIO] at h
      | true => refine ⟨?_, fun _ _ e => by cases e⟩; cases he : Nat.beq e e' <;> cases tree <;> cases tree' <;> simp_all [okIO]
     | _ => simp [okIO] at h
   | mo t u tg =>
    cases tg with
    | some j => cases q <;> simp [okIO] at h
    | none =>
     cases q with
     | mo t' u' tg' =>
      cases tg' with
      | some j => simp [okIO] at h
      | none => simp only [okIO] at h; split at h <;> first | exact ⟨h, fun _ _ e => by cases e⟩ | cases h
     | _ => simp [okIO] at h
   | tk e t => cases q <;> simp [okIO] at h
  cases i with
  | zero => intro e; injection e with e; exact hr.2 _ _ e
  | succ i => have := okIO_tk hr.1 i e0 t0; simpa using this
theorem okIO_ok : ∀ {ps qs : List POb}, okIO ps qs = true → ps.length ≤ qs.length ∧ ∀ (i : Nat) p, ps[i]? = some p → ∃ q, qs[i]? = some q ∧ IOp p q
 | [], qs, _ => ⟨Nat.zero_le _, fun i p h => by simp at h⟩
 | .cells ro pl :: ps, [], h => by simp [okIO] at h
 | .arr e t :: ps, [], h => by simp [okIO] at h
 | .ow kp tree e t :: ps, [], h => by cases kp <;> simp [okIO] at h
 | .cells ro pl :: ps, .cells ro' pl' :: qs, h => by
  simp only [okIO] at h
  split at h
  ·rename_i h1 h2
   obtain ⟨a1, a2⟩ := okIO_ok h
   refine ⟨by simpa using a1, fun i p hp => ?_⟩
   cases i with
   | zero =>
    injection hp with hp
    subst hp
    refine ⟨_, rfl, ?_, ?_⟩
    ·rw [len_eq, len_eq] at h1; exact Nat.eq_of_beq_eq_true h1
    ·have key : ∀ (l : List PLeaf) (m : Nat), okAny ro m l = true → ∀ k : Nat, l[k]? = some .any → m + k ∈ ro := by
      intro l
      induction l with
      | nil => intro m _ k hk; simp at hk
      | cons x l ih =>
       intro m hm k hk
       have hrest : okAny ro (m + 1) l = true := by
        cases x with
        | any => simp only [okAny] at hm; split at hm <;> first | exact hm | cases hm
        | _ => exact hm
       cases k with
       | zero =>
        injection hk with hk
        subst hk
        simp only [okAny] at hm
        split at hm
        ·rename_i hh; exact (hasN_iff _ _).1 hh
        ·cases hm
       | succ k => have := ih (m + 1) hrest k (by simpa using hk); rwa [show m + (k + 1) = m + 1 + k by omega]
     exact fun k hk => by have := key pl' 0 h2 k hk; rwa [Nat.zero_add] at this
   | succ i => obtain ⟨q, q1, q2⟩ := a2 i p (by simpa using hp); exact ⟨q, by simpa using q1, q2⟩
  ·cases h
 | .arr e t :: ps, .arr e' t' :: qs, h => by
  obtain ⟨a1, a2⟩ := okIO_ok (ps := ps) (qs := qs) h
  refine ⟨by simpa using a1, fun i p hp => ?_⟩
  cases i with
  | zero => injection hp with hp; subst hp; exact ⟨_, rfl, trivial⟩
  | succ i => obtain ⟨q, q1, q2⟩ := a2 i p (by simpa using hp); exact ⟨q, by simpa using q1, q2⟩
 | .ow false tree e t :: ps, q :: qs, h => by cases q <;> simp [okIO] at h
 | .ow true tree e t :: ps, .ow true tree' e' t' :: qs, h => by
  have h2 : tree = tree' ∧ okIO ps qs = true := by
   cases he : Nat.beq e e' <;> cases tree <;> cases tree' <;> simp_all [okIO]
  obtain ⟨a1, a2⟩ := okIO_ok (ps := ps) (qs := qs) h2.2
  refine ⟨by simpa using a1, fun i p hp => ?_⟩
  cases i with
  | zero => injection hp with hp; subst hp; exact ⟨_, rfl, h2.1⟩
  | succ i => obtain ⟨q, q1, q2⟩ := a2 i p (by simpa using hp); exact ⟨q, by simpa using q1, q2⟩
 | .ow true tree e t :: ps, .ow false tree' e' t' :: qs, h => by simp [okIO] at h
 | .ow true tree e t :: ps, .cells _ _ :: qs, h => by simp [okIO] at h
 | .ow true tree e t :: ps, .arr _ _ :: qs, h => by simp [okIO] at h
 | .mo t u none :: ps, .mo t' u' none :: qs, h => by
  have h2 : okIO ps qs = true := by
   simp only [okIO] at h
   split at h
   ·exact h
   ·cases h
  obtain ⟨a1, a2⟩ := okIO_ok (ps := ps) (qs := qs) h2
  refine ⟨by simpa using a1, fun i p hp => ?_⟩
  cases i with
  | zero => injection hp with hp; subst hp; exact ⟨_, rfl, trivial⟩
  | succ i => obtain ⟨q, q1, q2⟩ := a2 i p (by simpa using hp); exact ⟨q, by simpa using q1, q2⟩
 | .mo t u none :: ps, .mo t' u' (some j) :: qs, h => by simp [okIO] at h
 | .mo t u none :: ps, .cells _ _ :: qs, h => by simp [okIO] at h
 | .mo t u none :: ps, .arr _ _ :: qs, h => by simp [okIO] at h
 | .mo t u none :: ps, .ow _ _ _ _ :: qs, h => by simp [okIO] at h
 | .mo t u none :: ps, [], h => by simp [okIO] at h
 | .mo t u (some j) :: ps, qs, h => by cases qs <;> simp [okIO] at h
 | .cells ro pl :: ps, .mo _ _ _ :: qs, h => by simp [okIO] at h
 | .arr e t :: ps, .mo _ _ _ :: qs, h => by simp [okIO] at h
 | .ow true tree e t :: ps, .mo _ _ _ :: qs, h => by simp [okIO] at h
 | .cells ro pl :: ps, .ow _ _ _ _ :: qs, h => by simp [okIO] at h
 | .arr e t :: ps, .ow _ _ _ _ :: qs, h => by simp [okIO] at h
 | .cells ro pl :: ps, .arr e t :: qs, h => by simp [okIO] at h
 | .arr e t :: ps, .cells ro pl :: qs, h => by simp [okIO] at h
def Given (os : List (Nat × Ob G)) (pl : Nat → Value) (fI : Nat → List Nat) (b i : Nat) : Prop := (∃ j ob, get os j = some ob ∧ live ob = true ∧ bk (pl j) = some b ∧ (∀ ro ls, ob = .cells ro ls → i ≤ ls.length ∧ (i = ls.length ∨ i ∉ ro))) ∨ ∃ j, b ∈ fI j
theorem iObs_some : ∀ {ps : List POb} {vs : List (TV G)} {i : Nat} {j : Nat}, i < ps.length → ∃ ob, get (iObs (fun j => j) j ps vs).1 (j + i) = some ob ∧ live ob = true
 | [], vs, i, j, h => by cases h
 | p :: ps, vs, i, j, h => by
  rw [iObs_cons]
  cases i with
  | zero =>
   refine ⟨_, get_same _ _ _, ?_⟩
   cases p with
   | cells ro pls => rfl
   | arr e t =>
    cases vs with
    | nil => rfl
    | cons v r => obtain ⟨t', x⟩ := v; cases t' <;> rfl
   | ow kp tree e t =>
    cases tree <;>
    (cases vs with
    | nil => rfl
    | cons v r => obtain ⟨t', x⟩ := v; cases t' <;> rfl)
   | mo t u tg =>
    cases vs with
    | nil => rfl
    | cons v r => cases r <;> rfl
   | tk e t =>
    cases vs with
    | nil => rfl
    | cons v r =>
     obtain ⟨t', x⟩ := v
     cases t' with
     | sl e' t' =>
      cases r with
      | nil => rfl
      | cons v' r => obtain ⟨t2, x2⟩ := v'; cases t2 <;> rfl
     | _ => rfl
  | succ i =>
   obtain ⟨ob, h1, h2⟩ := iObs_some (ps := ps) (vs := (obAt (fun j => j) p none vs).2) (i := i) (j := j + 1) (by simpa using h)
   refine ⟨ob, ?_, h2⟩
   show get ((j, _) :: _) (j + (i + 1)) = _
   rw [get_far _ _ (by omega), show j + (i + 1) = j + 1 + i by omega]
   exact h1
theorem after_mem {fI fB : Nat → List Nat} {za zb : Nat → Nat → Prop} {fa fb : List Nat} {pa pb : Nat → Value} {c : Ct G} {ren : List (Nat × Nat)} {plI plB pr : Nat → Value} {osI obB os2 : List (Nat × Ob G)} {nxB : Nat} {ZI ZB Z' : Nat → Nat → Prop} {vr : List (TV G)}
  (hio : okIO c.ip.objs c.rp.objs = true) (MI : Mem ⟨Given osI plI fI, za, fa, pa⟩ w ZI plI osI c.ip.objs.length w) (MB : Mem W w0 ZB plB obB nxB w) (TI : TrOK (Given osI plI fI) w.heap.size ZI plI osI c.ip.objs.length w fI) (TB : TrOK W w0.heap.size ZB plB obB nxB w fB) (hfB : ∀ o k, k ∈ fB o → ∀ i, ¬ Given osI plI fI k i)
  (M2 : Mem ⟨Given osI plI fI, zb, fb, pb⟩ w Z' pr os2 c.rp.objs.length w')
  (hos2 : os2 = (iObs (fun j => j) 0 c.rp.objs vr).1)
  (hren : ∀ j, j < c.ip.objs.length → ∃ o, get ren j = some o ∧ o < nxB ∧ plB o = plI j)
  (hbnd : ∀ j o, get ren j = some o → j < c.ip.objs.length) (hinj : ∀ j j' o, get ren j = some o → get ren j' = some o → j = j')
  (hcells : ∀ (j : Nat) ro pl' o, c.ip.objs[j]? = some (.cells ro pl') → get ren j = some o → ∃ ro' ls, get obB o = some (.cells ro' ls) ∧ ls.length = pl'.length)
  (hI : ∀ (j : Nat) p, c.ip.objs[j]? = some p → ∃ ob, get osI j = some ob ∧ live ob = true ∧ match p with | .cells ro pl' => ∃ ls : List (Leaf G), ob = .cells ro ls ∧ ls.length = pl'.length | _ => ∀ ro ls, ob ≠ .cells ro ls)
  (hdead : ∀ (j : Nat) p o b, c.ip.objs[j]? = some p → isRow p = true → get ren j = some o → get obB o = some b → live b = true → False)
  (hownI : ∀ j ob, get osI j = some ob → ∀ k, bk (plI j) = some k → Own w0.heap.size W ob k) (hownT : ∀ j k, k ∈ fI j → w0.heap.size ≤ k ∨ ∀ i, W k i)
  (hfarB : ∀ o b k, get obB o = some b → live b = true → bk (plB o) = some k → (∀ j, get ren j ≠ some o) → ∀ i, ¬ Given osI plI fI k i)
  (hzB : ∀ b i, ZB b i → ∀ i', ¬ Given osI plI fI b i') (hzI : ∀ b i, ZB b i → Z' b i) (hzN : ∀ b i, Z' b i → ZB b i ∨ w.heap.size ≤ b ∨ ∀ j, Given osI plI fI b j)
  (hpr : ∀ j p, c.ip.objs[j]? = some p → isFix p = true → pr j = plI j) :
  let f := resF c.ip.objs ren nxB
  let pl3 := fun o => if o < nxB then plB o else pr (o - nxB)
  NF f pr c.rp.objs.length pl3 (nxB + c.rp.objs.length) ∧ Ext ZB w plB nxB Z' w' pl3 (nxB + c.rp.objs.length) ∧ Mem W w0 Z' pl3 (resObs f 0 c.rp.objs vr obB) (nxB + c.rp.objs.length) w' := by
 intro f pl3
 obtain ⟨io1, io2⟩ := okIO_ok hio
 have ffix : ∀ j p, c.ip.objs[j]? = some p → isFix p = true → ∃ o, get ren j = some o ∧ f j = o ∧ o < nxB ∧ plB o = plI j := by
  intro j p hj hp
  obtain ⟨o, h1, h2, h3⟩ := hren j (List.getElem?_eq_some_iff.1 hj).1
  refine ⟨o, h1, ?_, h2, h3⟩
  cases p with
  | cells ro ls => simp only [f, resF, nth_eq, hj, h1]
  | arr e t => cases hp
  | ow kp tree e t =>
   cases kp with
   | false => cases hp
   | true => simp only [f, resF, nth_eq, hj, h1]
  | mo t u tg => simp only [f, resF, nth_eq, hj, h1]
  | tk e t => cases hp
 have fcell : ∀ j ro ls, c.ip.objs[j]? = some (.cells ro ls) → ∃ o, get ren j = some o ∧ f j = o ∧ o < nxB ∧ plB o = plI j := fun j ro ls hj => ffix j _ hj rfl
 have ffresh : ∀ j, (∀ p, c.ip.objs[j]? = some p → isFix p = false) → f j = nxB + j := by
  intro j hj
  cases hh : c.ip.objs[j]? with
  | none => simp only [f, resF, nth_eq, hh]
  | some p =>
   have := hj p hh
   cases p with
   | cells ro ls => cases this
   | arr e t => simp only [f, resF, nth_eq, hh]
   | ow kp tree e t =>
    cases kp with
    | true => cases this
    | false => simp only [f, resF, nth_eq, hh]
   | mo t u tg => cases this
   | tk e t => simp only [f, resF, nth_eq, hh]
 have fcase : ∀ j, (∃ p o, c.ip.objs[j]? = some p ∧ isFix p = true ∧ get ren j = some o ∧ f j = o ∧ o < nxB ∧ plB o = plI j ∧ pr j = plI j) ∨ ((∀ p, c.ip.objs[j]? = some p → isFix p = false) ∧ f j = nxB + j) := by
  intro j
  cases hj : c.ip.objs[j]? with
  | none => exact .inr ⟨fun p e => (by cases e), ffresh j (fun p e => by rw [hj] at e; cases e)⟩
  | some p =>
   cases hp : isFix p with
   | true =>
    obtain ⟨o, h1, h2, h3, h4⟩ := ffix j p hj hp
    exact .inl ⟨p, o, rfl, hp, h1, h2, h3, h4, hpr j p hj hp⟩
   | false => exact .inr ⟨fun q e => (by injection e with e; rw [← e]; exact hp), ffresh j (fun q e => by rw [hj] at e; injection e with e; rw [← e]; exact hp)⟩
 have plold : ∀ o, o < nxB → pl3 o = plB o := fun o ho => by simp only [pl3, if_pos ho]
 have plnew : ∀ j, pl3 (nxB + j) = pr j := fun j => by simp only [pl3]; rw [if_neg (by omega), Nat.add_sub_cancel_left]
 have hNF : NF f pr c.rp.objs.length pl3 (nxB + c.rp.objs.length) := by
  intro j hj
  rcases fcase j with ⟨p, o, _, _, _, h2, h3, h4, h5⟩ | ⟨_, h2⟩
  ·rw [h2]; exact ⟨by omega, by rw [plold o h3, h4, h5]⟩
  ·rw [h2]; exact ⟨by omega, plnew j⟩
 have finj : ∀ i i', f i = f i' → i = i' := by
  intro i i' e
  rcases fcase i with ⟨p, o, _, _, h1, h2, h3, _, _⟩ | ⟨_, h2⟩ <;> rcases fcase i' with ⟨p', o', _, _, h1', h2', h3', _, _⟩ | ⟨_, h2'⟩
  ·rw [h2, h2'] at e; subst e; exact hinj i i' o h1 h1'
  ·rw [h2, h2'] at e; omega
  ·rw [h2, h2'] at e; omega
  ·rw [h2, h2'] at e; omega
 have hsame : ∀ b, b < w.heap.size → (∀ i, ¬ Given osI plI fI b i) → w'.heap[b]? = w.heap[b]? := fun b hb hn => M2.fr.blk b hb hn
 have X : Ext ZB w plB nxB Z' w' pl3 (nxB + c.rp.objs.length) :=
  ⟨Nat.le_add_right _ _, plold, hzI, fun b i hz => cell_of_blk (hsame b (MB.zlt b i hz) (hzB b i hz)) i⟩
 have hwhole : ∀ b, (∀ j, Given osI plI fI b j) → w0.heap.size ≤ b ∨ ∀ i, W b i := by
  intro b hb
  rcases hb 0 with ⟨j0, ob0, g1, g2, g3, _⟩ | ⟨j0, g⟩
  ·have notcells : ∀ ro ls, ob0 ≠ .cells ro ls := by
    intro ro ls e
    subst e
    rcases hb (ls.length + 1) with ⟨j1, ob1, k1, k2, k3, k4⟩ | ⟨j1, k1⟩
    ·have := MI.sep j0 j1 _ ob1 b g1 g2 k1 k2 g3 k3
     subst this
     rw [g1] at k1
     injection k1 with k1
     have := (k4 ro ls k1.symm).1
     omega
    ·exact TI.root j1 b j0 _ k1 g1 g2 g3
   have := hownI j0 ob0 g1 b g3
   cases ob0 with
   | cells ro ls => exact absurd rfl (notcells ro ls)
   | arr e t x => exact this
   | frz e t x => cases g2
   | dead => cases g2
   | tr e t x => exact this
   | fo e t x i off o2 => exact this
   | sw e t x n1 i1 n2 i2 st => exact this
   | mo t u x y tg => exact this
   | tk e t x n => exact this
  ·exact hownT j0 b g
 have new : ∀ o b, (∃ (i : Nat) (p : POb) (vsi : List (TV G)), c.rp.objs[i]? = some p ∧ o = f (0 + i) ∧ b = (obAt f p (get obB (f (0 + i))) vsi).1 ∧ get (iObs (fun j => j) 0 c.rp.objs vr).1 (0 + i) = some (obAt (fun j => j) p none vsi).1) →
   ∃ i, o = f i ∧ i < c.rp.objs.length ∧ ObOK Z' w' pl3 (nxB + c.rp.objs.length) o b ∧ live b = true ∧ pl3 o = pr i ∧ (∃ obI, get os2 i = some obI ∧ live obI = true ∧ (isTr b = true → obI = b) ∧ isF b = false) ∧
    ∀ k, bk (pl3 o) = some k → Own w0.heap.size W b k ∧ (∀ j, ¬ Z' k j) ∧ (w.heap.size ≤ k ∨ ∃ i', Given osI plI fI k i') := by
  rintro o b ⟨i, p, vsi, hp, ho, hb, hI2⟩
  rw [Nat.zero_add] at ho hb hI2
  rw [← hos2] at hI2
  have hlt : i < c.rp.objs.length := (List.getElem?_eq_some_iff.1 hp).1
  obtain ⟨q1, q2⟩ := hNF i hlt
  have hOb := M2.ob i _ hI2
  have hl2 : live (obAt (G := G) (fun j => j) p none vsi).1 = true := by
   cases p with
   | cells ro pls => rfl
   | arr e t =>
    cases vsi with
    | nil => rfl
    | cons v r => obtain ⟨t', x⟩ := v; cases t' <;> rfl
   | ow kp tree e t =>
    cases tree <;>
    (cases vsi with
    | nil => rfl
    | cons v r => obtain ⟨t', x⟩ := v; cases t' <;> rfl)
   | mo t u tg =>
    cases vsi with
    | nil => rfl
    | cons v r => cases r <;> rfl
   | tk e t =>
    cases vsi with
    | nil => rfl
    | cons v r =>
     obtain ⟨t', x⟩ := v
     cases t' with
     | sl e' t' =>
      cases r with
      | nil => rfl
      | cons v' r => obtain ⟨t2, x2⟩ := v'; cases t2 <;> rfl
     | _ => rfl
  have hnoit : ∀ t u j, p ≠ .mo t u (some j) := fun t u j e => okIO_it hio i t u j (by rw [hp, e])
  have hnotk : ∀ e t, p ≠ .tk e t := fun e t ee => okIO_tk hio i e t (by rw [hp, ee])
  have e1 : isRow p = true → ∀ g old, (obAt g p old vsi).1 = (obAt (G := G) (fun j => j) p none vsi).1 := fun hp g old => by
   cases p with
   | cells ro pls => cases hp
   | arr e t =>
    cases vsi with
    | nil => rfl
    | cons v r => obtain ⟨t', x⟩ := v; cases t' <;> rfl
   | ow kp tree e t =>
    cases tree <;>
    (cases vsi with
    | nil => rfl
    | cons v r => obtain ⟨t', x⟩ := v; cases t' <;> rfl)
   | mo t u tg =>
    cases tg with
    | some j => exact absurd rfl (hnoit t u j)
    | none =>
     cases vsi with
     | nil => rfl
     | cons v r => cases r <;> rfl
   | tk e t => exact absurd rfl (hnotk e t)
  have erow : isRow p = true → (∃ e' t' x, (obAt (G := G) (fun j => j) p none vsi).1 = .arr e' t' x) ∨ (∃ e' t' x, (obAt (G := G) (fun j => j) p none vsi).1 = .tr e' t' x) ∨ ∃ t' u' x y, (obAt (G := G) (fun j => j) p none vsi).1 = .mo t' u' x y none := fun hp => by
   cases p with
   | cells ro pls => cases hp
   | arr e t =>
    cases vsi with
    | nil => exact .inl ⟨_, _, _, rfl⟩
    | cons v r => obtain ⟨t', x⟩ := v; cases t' <;> exact .inl ⟨_, _, _, rfl⟩
   | ow kp tree e t =>
    cases tree with
    | false =>
     cases vsi with
     | nil => exact .inl ⟨_, _, _, rfl⟩
     | cons v r => obtain ⟨t', x⟩ := v; cases t' <;> exact .inl ⟨_, _, _, rfl⟩
    | true =>
     cases vsi with
     | nil => exact .inr (.inl ⟨_, _, _, rfl⟩)
     | cons v r => obtain ⟨t', x⟩ := v; cases t' <;> exact .inr (.inl ⟨_, _, _, rfl⟩)
   | mo t u tg =>
    cases tg with
    | some j => exact absurd rfl (hnoit t u j)
    | none =>
     cases vsi with
     | nil => exact .inr (.inr ⟨_, _, _, _, rfl⟩)
     | cons v r => cases r <;> exact .inr (.inr ⟨_, _, _, _, rfl⟩)
   | tk e t => exact absurd rfl (hnotk e t)
  have ecell : isRow p = false → ∃ ro ls, b = .cells ro ls := fun hp => by
   subst hb
   cases p with
   | cells ro pls =>
    cases hold : get obB (f i) with
    | none => simp only [obAt, hold]; exact ⟨_, _, rfl⟩
    | some old => cases old <;> (simp only [obAt, hold]; exact ⟨_, _, rfl⟩)
   | arr e t => cases hp
   | ow kp tree e t => cases hp
   | mo t u tg => cases hp
   | tk e t => cases hp
  refine ⟨i, ho, hlt, ?_, ?_, by rw [ho]; exact q2, ⟨_, hI2, hl2, fun hbt => ?_, ?_⟩, ?_⟩
  ·
   subst ho hb
   cases hrow : isRow p with
   | true =>
    rw [e1 hrow]
    rcases erow hrow with ⟨e', t', x, e2⟩ | ⟨e', t', x, e2⟩ | ⟨t', u', x, y, e2⟩
    ·rw [e2] at hOb ⊢
     obtain ⟨vs, o1, o2⟩ := hOb
     exact ⟨vs, by rw [q2]; exact o1, o2⟩
    ·rw [e2] at hOb ⊢
     obtain ⟨vs, o1⟩ := hOb
     exact ⟨vs, by rw [q2]; exact o1⟩
    ·rw [e2] at hOb ⊢
     obtain ⟨kt, vt, ks, vs, o1, o2, rr, es, o3, o4, o5⟩ := hOb
     exact ⟨kt, vt, ks, vs, o1, o2, rr, es, by rw [q2]; exact o3, o4, o5⟩
   | false =>
   cases p with
   | arr e t => cases hrow
   | ow kp tree e t => cases hrow
   | mo t u tg => cases hrow
   | tk e t => cases hrow
   | cells ro pls =>
    obtain ⟨b2, T2, cs2, m1, m2, m3⟩ := hOb
    have m3' := (iLeaves_ren hNF (ps := pls) (vs := vsi)).2.2 m3
    cases hold : get obB (f i) with
    | none => simp only [obAt, hold]; exact ⟨b2, T2, cs2, by rw [q2]; exact m1, m2, m3'⟩
    | some old =>
     cases old with
     | cells ro' ls =>
      simp only [obAt, hold]
      rcases fcase i with ⟨p0, o0, hi0, hx0, hr0, hf0, hlt0, hpl0, hpr0⟩ | ⟨hn, hf0⟩
      ·obtain ⟨ro0, ls0, rfl⟩ : ∃ ro0 ls0, p0 = .cells ro0 ls0 := by
        obtain ⟨q, hq1, hq2⟩ := io2 i _ hi0
        rw [hp] at hq1
        injection hq1 with hq1
        subst hq1
        cases p0 with
        | cells ro0 ls0 => exact ⟨_, _, rfl⟩
        | arr e t => exact hq2.elim
        | ow kp tree e t => cases kp <;> exact hq2.elim
        | mo t u tg => cases tg <;> exact hq2.elim
        | tk e t => exact hq2.elim
       obtain ⟨q, hq1, hq2⟩ := io2 i _ hi0
       rw [hp] at hq1
       injection hq1 with hq1
       subst hq1
       obtain ⟨hlen, hany⟩ := hq2
       obtain ⟨ro'', ls'', hcc, hll⟩ := hcells i ro0 ls0 o0 hi0 hr0
       rw [hf0, hcc] at hold
       injection hold with hold
       injection hold with e1 e2
       subst e1 e2
       obtain ⟨bB, TB, csB, n1, n2, n3⟩ := MB.ob o0 _ hcc
       have hbb : bB = b2 := by rw [hpl0, ← hpr0, m1] at n1; injection n1 with n1; injection n1 with n1; injection n1 with n1; exact n1.symm
       subst hbb
       obtain ⟨obI0, hobI, hlI, hcI⟩ := hI i _ hi0
       obtain ⟨lsI, hobI2, hlenI⟩ := hcI
       subst hobI2
       have hbkI : bk (plI i) = some bB := by rw [← hpr0, m1]; rfl
       have hltb : bB < w.heap.size := (Array.getElem?_eq_some_iff.1 n2).1
       have notgiven : ∀ k : Nat, k ∈ ro0 → k < ls0.length → ¬ Given osI plI fI bB k := by
        rintro k hk hk2 (⟨j1, ob1, g1, g2, g3, g4⟩ | ⟨j1, g1⟩)
        rotate_left
        ·exact TI.root j1 bB i _ g1 hobI hlI hbkI
        have := MI.sep i j1 _ ob1 bB hobI hlI g1 g2 hbkI g3
        subst this
        rw [hobI] at g1
        injection g1 with g1
        rcases (g4 ro0 lsI g1.symm).2 with h | h
        ·omega
        ·exact h hk
       have hkeep : ∀ k : Nat, pls[k]? = some .any → cs2[k]? = csB[k]? := by
        intro k hk
        have hk1 : k < pls.length := (List.getElem?_eq_some_iff.1 hk).1
        have hng := notgiven k (hany k hk) (by omega)
        obtain ⟨cs', c1, _, c3⟩ := M2.fr.cel bB csB TB (0, 0) hltb ⟨k, hng⟩ n2
        rw [m2] at c1
        injection c1 with c1
        injection c1 with c1
        have c1 : cs2 = cs' := by simpa using c1
        rw [c1]
        exact c3 k hng
       exact ⟨bB, T2, cs2, by rw [q2]; exact m1, m2, (mrg_ok f (by omega)).2.2 m3' (n3.mono X) hkeep⟩
      ·rw [hf0] at hold
       exact absurd (MB.lt _ _ hold) (by omega)
     | _ => simp only [obAt, hold]; exact ⟨b2, T2, cs2, by rw [q2]; exact m1, m2, m3'⟩
  ·cases hrow : isRow p with
   | true => rw [hb, e1 hrow]; exact hl2
   | false => obtain ⟨ro, ls, e⟩ := ecell hrow; rw [e]; rfl
  ·cases hrow : isRow p with
   | true => exact (hb.trans (e1 hrow _ _)).symm
   | false => obtain ⟨ro, ls, e⟩ := ecell hrow; rw [e] at hbt; cases hbt
  ·cases hrow : isRow p with
   | true => rw [hb, e1 hrow]; rcases erow hrow with ⟨_, _, _, e⟩ | ⟨_, _, _, e⟩ | ⟨_, _, _, _, e⟩ <;> (rw [e]; rfl)
   | false => obtain ⟨ro, ls, e⟩ := ecell hrow; rw [e]; rfl
  ·intro k hk
   rw [ho, q2] at hk
   have hown := M2.own i _ k hI2 hl2 hk
   have hfar := M2.zfar i _ k hI2 hl2 hk
   have ofGiven : ∀ i', Given osI plI fI k i' → (w0.heap.size ≤ k ∨ ∀ j, W k j) ∨ (∃ ro0 ls0 ro' ls, c.ip.objs[i]? = some (.cells ro0 ls0) ∧ get obB (f i) = some (.cells ro' ls) ∧ plB (f i) = plI i) := by
    rintro i' (⟨j1, ob1, g1, g2, g3, _⟩ | ⟨j1, g1⟩)
    ·have hOw := hownI j1 ob1 g1 k g3
     cases ob1 with
     | arr e t x => exact .inl hOw
     | tr e t x => exact .inl hOw
     | fo e t x i off o2 => exact .inl hOw
     | sw e t x n1 i1 n2 i2 st => exact .inl hOw
     | mo t u x y tg => exact .inl hOw
     | tk e t x n => exact .inl hOw
     | frz => cases g2
     | dead => cases g2
     | cells ro1 ls1 =>
      right
      have hj1 : j1 < c.ip.objs.length := MI.lt j1 _ g1
      obtain ⟨p1, hp1⟩ : ∃ p1, c.ip.objs[j1]? = some p1 := ⟨_, List.getElem?_eq_getElem hj1⟩
      obtain ⟨ob1', hob1', _, hm⟩ := hI j1 p1 hp1
      rw [g1] at hob1'
      injection hob1' with hob1'
      subst hob1'
      cases p1 with
      | arr e t => exact absurd rfl (hm _ _)
      | ow kp tree e t => exact absurd rfl (hm _ _)
      | mo t u tg => exact absurd rfl (hm _ _)
      | tk e t => exact absurd rfl (hm _ _)
      | cells ro0 ls0 =>
       have hprj := hpr j1 _ hp1 rfl
       obtain ⟨q, hq1, hq2⟩ := io2 j1 _ hp1
       have hj2 : j1 < c.rp.objs.length := (List.getElem?_eq_some_iff.1 hq1).1
       have hex : ∃ obJ, get os2 j1 = some obJ ∧ live obJ = true := by
        have := iObs_some (G := G) (ps := c.rp.objs) (vs := vr) (i := j1) (j := 0) hj2
        rw [Nat.zero_add, ← hos2] at this
        exact this
       obtain ⟨obJ, hJ1, hJ2⟩ := hex
       have := M2.sep i j1 _ obJ k hI2 hl2 hJ1 hJ2 hk (by rw [hprj]; exact g3)
       subst this
       obtain ⟨o0, r1, r2, r3, r4⟩ := fcell i ro0 ls0 hp1
       obtain ⟨ro', ls, hcc, _⟩ := hcells i ro0 ls0 o0 hp1 r1
       exact ⟨ro0, ls0, ro', ls, hp1, by rw [r2]; exact hcc, by rw [r2]; exact r4⟩
    ·exact .inl (hownT j1 k g1)
   have given1 : w.heap.size ≤ k ∨ ∃ i', Given osI plI fI k i' := by
    rcases hown with h | h
    ·exact .inl h
    ·right
     cases hoo : (obAt (G := G) (fun j => j) p none vsi).1 with
     | cells ro ls => rw [hoo] at h; exact ⟨ls.length, h ls.length (Nat.le_refl _) (.inl rfl)⟩
     | arr e t x => rw [hoo] at h; exact ⟨0, h 0⟩
     | frz e t x => rw [hoo] at h; exact ⟨0, h 0⟩
     | dead => rw [hoo] at h; exact ⟨0, h 0⟩
     | tr e t x => rw [hoo] at h; exact ⟨0, h 0⟩
     | fo e t x i off o2 => rw [hoo] at h; exact ⟨0, h 0⟩
     | sw e t x n1 i1 n2 i2 st => rw [hoo] at h; exact ⟨0, h 0⟩
     | mo t u x y tg => rw [hoo] at h; exact ⟨0, h 0⟩
     | tk e t x n => rw [hoo] at h; exact ⟨0, h 0⟩
   refine ⟨?_, hfar, given1⟩
   rcases given1 with h | ⟨i', hg⟩
   ·exact .inl (Nat.le_trans MB.fr.size h)
   ·rcases ofGiven i' hg with h | ⟨ro0, ls0, ro', ls, g1, g2, g3⟩
    ·rcases h with h | h
     ·exact .inl h
     ·refine .inr ?_
      cases b with
      | cells _ _ => exact fun i _ _ => h i
      | _ => exact h
    ·
     have hprI : pr i = plI i := hpr i _ g1 rfl
     have hbB : bk (plB (f i)) = some k := by rw [g3, ← hprI]; exact hk
     have hO := MB.own (f i) _ k g2 rfl hbB
     rcases hO with h | h
     ·exact .inl h
     ·refine .inr ?_
      subst hb
      cases p with
      | arr e t =>
       obtain ⟨q, hq1, hq2⟩ := io2 i _ g1
       rw [hp] at hq1
       injection hq1 with hq1
       subst hq1
       exact hq2.elim
      | ow kp tree e t =>
       obtain ⟨q, hq1, hq2⟩ := io2 i _ g1
       rw [hp] at hq1
       injection hq1 with hq1
       subst hq1
       exact hq2.elim
      | mo t u tg =>
       obtain ⟨q, hq1, hq2⟩ := io2 i _ g1
       rw [hp] at hq1
       injection hq1 with hq1
       subst hq1
       exact hq2.elim
      | tk e t =>
       obtain ⟨q, hq1, hq2⟩ := io2 i _ g1
       rw [hp] at hq1
       injection hq1 with hq1
       subst hq1
       exact hq2.elim
      | cells ro pls =>
       obtain ⟨q, hq1, hq2⟩ := io2 i _ g1
       rw [hp] at hq1
       injection hq1 with hq1
       subst hq1
       obtain ⟨o0, r1, r2, r3, r4⟩ := fcell i ro0 ls0 g1
       obtain ⟨ro'', ls'', hcc, hll⟩ := hcells i ro0 ls0 o0 g1 r1
       rw [r2, hcc] at g2
       injection g2 with g2
       injection g2 with e1 e2
       subst e1 e2
       simp only [obAt, r2, hcc]
       have hlen := (mrg_ok (G := G) (Z := Z') (w := w') (pl := pr) (nx := 0) f (ps := pls) (ls := ls'') (vs := vsi) (by have := hq2.1; omega)).2.1
       intro i2 h2 h3
       rw [hlen] at h2 h3
       exact h i2 h2 h3
 have kept : ∀ o b, (∀ i, i < c.rp.objs.length → o ≠ f (0 + i)) → get obB o = some b → live b = true → (∀ j, get ren j ≠ some o) ∧ ∀ k, bk (plB o) = some k → w'.heap[k]? = w.heap[k]? ∧ ∀ i, ¬ Given osI plI fI k i := by
  intro o b hne hg hl
  have hnb : ∀ j, get ren j ≠ some o := by
   intro j hj
   have hj1 := hbnd j o hj
   obtain ⟨p1, hp1⟩ : ∃ p1, c.ip.objs[j]? = some p1 := ⟨_, List.getElem?_eq_getElem hj1⟩
   cases p1 with
   | arr e t => exact hdead j _ o b hp1 rfl hj hg hl
   | ow kp tree e t => exact hdead j _ o b hp1 rfl hj hg hl
   | mo t u tg => exact hdead j _ o b hp1 rfl hj hg hl
   | tk e t => exact hdead j _ o b hp1 rfl hj hg hl
   | cells ro ls =>
    obtain ⟨o0, r1, r2, _⟩ := fcell j ro ls hp1
    rw [hj] at r1
    injection r1 with r1
    have := hne j (by omega)
    rw [Nat.zero_add] at this
    exact this (r1.trans r2.symm)
  refine ⟨hnb, fun k hk => ?_⟩
  have := hfarB o b k hg hl hk hnb
  exact ⟨hsame k (MB.blt hg hl hk) this, this⟩
 have look : ∀ o b, get (resObs f 0 c.rp.objs vr obB) o = some b → (∃ (i : Nat) (p : POb) (vsi : List (TV G)), c.rp.objs[i]? = some p ∧ o = f (0 + i) ∧ b = (obAt f p (get obB (f (0 + i))) vsi).1 ∧ get (iObs (fun j => j) 0 c.rp.objs vr).1 (0 + i) = some (obAt (fun j => j) p none vsi).1) ∨ ((∀ i, i < c.rp.objs.length → o ≠ f (0 + i)) ∧ get obB o = some b) := by
  refine fun o b hg => resObs_get hNF (fun i p hp ro pls ro' ls e1 e2 => ?_) (fun i i' _ _ e => by rw [Nat.zero_add, Nat.zero_add] at e; exact finj i i' e) o b hg
  subst e1
  rw [Nat.zero_add] at e2
  rcases fcase i with ⟨p0, o0, hi0, hx0, hr0, hf0, _⟩ | ⟨_, hf0⟩
  ·obtain ⟨ro0, ls0, rfl⟩ : ∃ ro0 ls0, p0 = .cells ro0 ls0 := by
    obtain ⟨q, hq1, hq2⟩ := io2 i _ hi0
    rw [hp] at hq1
    injection hq1 with hq1
    subst hq1
    cases p0 with
    | cells ro0 ls0 => exact ⟨_, _, rfl⟩
    | arr e t => exact hq2.elim
    | ow kp tree e t => cases kp <;> exact hq2.elim
    | mo t u tg => cases tg <;> exact hq2.elim
    | tk e t => exact hq2.elim
   obtain ⟨q, hq1, hq2⟩ := io2 i _ hi0
   rw [hp] at hq1
   injection hq1 with hq1
   subst hq1
   obtain ⟨ro'', ls'', hcc, hll⟩ := hcells i ro0 ls0 o0 hi0 hr0
   rw [hf0, hcc] at e2
   injection e2 with e2
   injection e2 with _ e2
   subst e2
   have := hq2.1
   omega
  ·rw [hf0] at e2
   exact absurd (MB.lt _ _ e2) (by omega)
 refine ⟨hNF, X, ?_⟩
 constructor
 ·intro o b hg
  rcases look o b hg with hh | ⟨_, hh⟩
  ·obtain ⟨i, h1, h2, _⟩ := new o b hh
   rw [h1]; exact (hNF i h2).1
  ·have := MB.lt o b hh; omega
 ·intro o b hg
  rcases look o b hg with hh | ⟨hne, hh⟩
  ·obtain ⟨i, _, _, h3, _⟩ := new o b hh; exact h3
  ·exact (MB.ob o b hh).mono X (MB.lt o b hh) (fun hl k hk => ((kept o b hne hh hl).2 k hk).1)
 ·intro o o' b b' k hg hl hg' hl' hk hk'
  have mix : ∀ o b o' b', (∃ (i : Nat) (p : POb) (vsi : List (TV G)), c.rp.objs[i]? = some p ∧ o = f (0 + i) ∧ b = (obAt f p (get obB (f (0 + i))) vsi).1 ∧ get (iObs (fun j => j) 0 c.rp.objs vr).1 (0 + i) = some (obAt (fun j => j) p none vsi).1) →
    (∀ i, i < c.rp.objs.length → o' ≠ f (0 + i)) → get obB o' = some b' → live b' = true → bk (pl3 o) = some k → bk (pl3 o') = some k → False := by
   intro o b o' b' hh hne hh' hl' hk hk'
   obtain ⟨i, _, _, _, _, _, _, h5⟩ := new o b hh
   rw [plold o' (MB.lt o' b' hh')] at hk'
   have h6 := ((kept o' b' hne hh' hl').2 k hk').2
   rcases (h5 k hk).2.2 with h | ⟨i', h⟩
   ·exact Nat.lt_irrefl _ (Nat.lt_of_lt_of_le (MB.blt hh' hl' hk') h)
   ·exact h6 i' h
  rcases look o b hg with hh | ⟨hne, hh⟩ <;> rcases look o' b' hg' with hh' | ⟨hne', hh'⟩
  ·obtain ⟨i, h1, _, _, _, h2, ⟨obI, h3, h4, _⟩, _⟩ := new o b hh
   obtain ⟨i', h1', _, _, _, h2', ⟨obI', h3', h4', _⟩, _⟩ := new o' b' hh'
   rw [h2] at hk
   rw [h2'] at hk'
   have := M2.sep i i' obI obI' k h3 h4 h3' h4' hk hk'
   rw [h1, h1', this]
  ·exact (mix o b o' b' hh hne' hh' hl' hk hk').elim
  ·exact (mix o' b' o b hh' hne hh hl hk' hk).elim
  ·rw [plold o (MB.lt o b hh)] at hk
   rw [plold o' (MB.lt o' b' hh')] at hk'
   exact MB.sep o o' b b' k hh hl hh' hl' hk hk'
 ·intro o b k hg hl hk
  rcases look o b hg with hh | ⟨hne, hh⟩
  ·obtain ⟨i, _, _, _, _, _, _, h5⟩ := new o b hh; exact (h5 k hk).1
  ·rw [plold o (MB.lt o b hh)] at hk; exact MB.own o b k hh hl hk
 ·intro o b k hg hl hk
  rcases look o b hg with hh | ⟨hne, hh⟩
  ·obtain ⟨i, _, _, _, _, _, _, h5⟩ := new o b hh; exact (h5 k hk).2.1
  ·rw [plold o (MB.lt o b hh)] at hk
   intro i hz
   have h6 := ((kept o b hne hh hl).2 k hk).2
   rcases hzN k i hz with h | h | h
   ·exact MB.zfar o b k hh hl hk i h
   ·exact Nat.lt_irrefl _ (Nat.lt_of_lt_of_le (MB.blt hh hl hk) h)
   ·exact h6 0 (h 0)
 ·exact M2.zlt
 ·intro b i hz
  rcases hzN b i hz with h | h | h
  ·exact MB.zn b i h
  ·exact .inr (.inl (Nat.le_trans MB.fr.size h))
  ·exact .inr (hwhole b h)
 ·exact fun b i hz => hzI b i (MB.z0 b i hz)
 ·exact fun j hj => ⟨Nat.lt_of_lt_of_le (MB.fx j hj).1 (Nat.le_add_right _ _), (plold j (MB.fx j hj).1).trans (MB.fx j hj).2⟩
 ·
  have givenW : ∀ b i, b < w0.heap.size → Given osI plI fI b i → W b i := by
   rintro b i hb (⟨j, ob, g1, g2, g3, g4⟩ | ⟨j, g1⟩)
   ·rcases hownI j ob g1 b g3 with h | h
    ·omega
    ·cases ob with
     | cells ro ls => obtain ⟨q1, q2⟩ := g4 ro ls rfl; exact h i q1 q2
     | arr e t x => exact h i
     | tr e t x => exact h i
     | fo e t x i1 off o2 => exact h i
     | sw e t x n1 i1 n2 i2 st => exact h i
     | mo t u x y tg => exact h i
     | tk e t x n => exact h i
     | frz => cases g2
     | dead => cases g2
   ·rcases hownT j b g1 with h | h
    ·omega
    ·exact h i
  refine MB.fr.trans ⟨M2.fr.os, M2.fr.tape, M2.fr.output, M2.fr.size, fun b hb hW => hsame b (Nat.lt_of_lt_of_le hb MB.fr.size) (fun i hg => hW i (givenW b i hb hg)), fun b cs T fr hb hn hc => ?_⟩
  obtain ⟨i, hi⟩ := hn
  obtain ⟨cs', c1, c2, c3⟩ := M2.fr.cel b cs T fr (Nat.lt_of_lt_of_le hb MB.fr.size) ⟨i, fun hg => hi (givenW b i hb hg)⟩ hc
  exact ⟨cs', c1, c2, fun i hi => c3 i (fun hg => hi (givenW b i hb hg))⟩
 ·
  obtain ⟨f2, T2⟩ := M2.tr
  let f3 : Nat → List Nat := fun o => match (List.range c.rp.objs.length).find? (fun i => f i == o) with
   | some i => f2 i
   | none => fB o
  have f3new : ∀ i, i < c.rp.objs.length → f3 (f i) = f2 i := by
   intro i hi
   have : (List.range c.rp.objs.length).find? (fun i' => f i' == f i) = some i := by
    cases hf : (List.range c.rp.objs.length).find? (fun i' => f i' == f i) with
    | none =>
     have := List.find?_eq_none.1 hf i (List.mem_range.2 hi)
     simp at this
    | some i' =>
     have := List.find?_some hf
     rw [finj i' i (by simpa using this)]
   show (match (List.range c.rp.objs.length).find? (fun i' => f i' == f i) with | some i => f2 i | none => fB (f i)) = _
   rw [this]
  have f3old : ∀ o, (∀ i, i < c.rp.objs.length → o ≠ f i) → f3 o = fB o := by
   intro o ho
   have : (List.range c.rp.objs.length).find? (fun i' => f i' == o) = none := List.find?_eq_none.2 fun i hi => by
    have := ho i (List.mem_range.1 hi)
    simp only [beq_iff_eq]
    exact fun e => this e.symm
   show (match (List.range c.rp.objs.length).find? (fun i' => f i' == o) with | some i => f2 i | none => fB o) = _
   rw [this]
  have f3case : ∀ o, (∃ i, i < c.rp.objs.length ∧ o = f i ∧ f3 o = f2 i) ∨ ((∀ i, i < c.rp.objs.length → o ≠ f i) ∧ f3 o = fB o) := by
   intro o
   by_cases h : ∃ i, i < c.rp.objs.length ∧ o = f i
   ·obtain ⟨i, hi, e⟩ := h
    exact .inl ⟨i, hi, e, by rw [e]; exact f3new i hi⟩
   ·have h' : ∀ i, i < c.rp.objs.length → o ≠ f i := fun i hi e => h ⟨i, hi, e⟩
    exact .inr ⟨h', f3old o h'⟩
  have own2 : ∀ i k, k ∈ f2 i → w.heap.size ≤ k ∨ ∀ j, Given osI plI fI k j := fun i k hk => T2.own i k hk
  have apart : ∀ i o k, k ∈ f2 i → k ∈ fB o → False := by
   intro i o k h1 h2
   rcases own2 i k h1 with h | h
   ·exact Nat.lt_irrefl _ (Nat.lt_of_lt_of_le (TB.lt o k h2) h)
   ·exact hfB o k h2 0 (h 0)
  refine ⟨f3, ?_⟩
  constructor
  ·intro o b hg
   rcases look o b hg with hh | ⟨hne, hh⟩
   ·obtain ⟨i, h1, h2, _, _, h5, ⟨obI, h6, h7, h8, h9⟩, _⟩ := new o b hh
    rw [h1, f3new i h2]
    cases b with
    | tr e t x =>
     have := h8 rfl
     subst this
     obtain ⟨vs, k1, k2⟩ := T2.rep i _ h6
     exact ⟨vs, by rw [← h1, h5]; exact k1, k2⟩
    | tk e t x n =>
     have := h8 rfl
     subst this
     obtain ⟨vs, k1, k2⟩ := T2.rep i _ h6
     exact ⟨vs, by rw [← h1, h5]; exact k1, k2⟩
    | fo e t x i1 off o2 => cases h9
    | sw e t x n1 i1 n2 i2 st => cases h9
    | _ => trivial
   ·rw [f3old o (fun i hi => by have := hne i hi; rwa [Nat.zero_add] at this)]
    refine (TB.rep o b hh).mono (Nat.le_add_right _ _) plold (MB.lt o b hh) ⟨fun k hk => hsame k (TB.lt o k hk) (hfB o k hk), X.hZ, X.hw⟩ (fun hl k hk => ((kept o b hne hh hl).2 k hk).1)
  ·intro o
   rcases f3case o with ⟨i, _, _, e⟩ | ⟨_, e⟩ <;> rw [e]
   ·exact T2.nd i
   ·exact TB.nd o
  ·intro o o' k h1 h2
   rcases f3case o with ⟨i, _, e1, e⟩ | ⟨_, e⟩ <;> rcases f3case o' with ⟨i', _, e1', e'⟩ | ⟨_, e'⟩ <;> rw [e] at h1 <;> rw [e'] at h2
   ·rw [e1, e1', T2.sep i i' k h1 h2]
   ·exact (apart i o' k h1 h2).elim
   ·exact (apart i' o k h2 h1).elim
   ·exact TB.sep o o' k h1 h2
  ·intro o k o' b h1 hg hl hb
   rcases look o' b hg with hh | ⟨hne, hh⟩
   ·obtain ⟨i', h1', h2', _, _, h5, ⟨obI, h6, h7, _⟩, h8⟩ := new o' b hh
    rcases f3case o with ⟨i, _, _, e⟩ | ⟨_, e⟩ <;> rw [e] at h1
    ·rw [h5] at hb
     exact T2.root i k i' obI h1 h6 h7 hb
    ·rcases (h8 k hb).2.2 with h | ⟨j, h⟩
     ·exact Nat.lt_irrefl _ (Nat.lt_of_lt_of_le (TB.lt o k h1) h)
     ·exact hfB o k h1 j h
   ·rw [plold o' (MB.lt o' b hh)] at hb
    rcases f3case o with ⟨i, _, _, e⟩ | ⟨_, e⟩ <;> rw [e] at h1
    ·have h6 := ((kept o' b hne hh hl).2 k hb).2
     rcases own2 i k h1 with h | h
     ·exact Nat.lt_irrefl _ (Nat.lt_of_lt_of_le (MB.blt hh hl hb) h)
     ·exact h6 0 (h 0)
    ·exact TB.root o k o' b h1 hh hl hb
  ·intro o k h1
   rcases f3case o with ⟨i, _, _, e⟩ | ⟨_, e⟩ <;> rw [e] at h1
   ·rcases own2 i k h1 with h | h
    ·exact .inl (Nat.le_trans MB.fr.size h)
    ·exact hwhole k h
   ·exact TB.own o k h1
  ·intro o k h1
   rcases f3case o with ⟨i, _, _, e⟩ | ⟨_, e⟩ <;> rw [e] at h1
   ·exact T2.zfar i k h1
   ·intro j hz
    rcases hzN k j hz with h | h | h
    ·exact TB.zfar o k h1 j h
    ·exact Nat.lt_irrefl _ (Nat.lt_of_lt_of_le (TB.lt o k h1) h)
    ·exact hfB o k h1 0 (h 0)
  ·intro o k h1
   rcases f3case o with ⟨i, _, _, e⟩ | ⟨_, e⟩ <;> rw [e] at h1
   ·exact T2.lt i k h1
   ·exact Nat.lt_of_lt_of_le (TB.lt o k h1) M2.fr.size
end Go.Proofs.YtmcbhnbemhfifaaDoor.RX
end
section
namespace Go.Proofs.YtmcbhnbemhfifaaDoor.RX
open Go Go.RowKit
set_option autoImplicit false
variable {G : Sig} {R : Type} {P : Program} {W : Rights} {w0 w w' : World} {Z Z' : Nat → Nat → Prop} {pl pl' : Nat → Value} {N : Nat}
variable {E : Env G R} {o : Oper} {L : St G} {K : St G → Option R} {r : R} {a : Act} {next : Act → World → Prop} {Q : Exit → Act → World → Prop}
theorem RepC.scal {t : Ty} (ht : scalT t = true) {x : G.D t} {cs : List Value} (h : RepC G Z w t x cs) : RepC G Z' w t x cs := by
 cases h with
 | int k x => exact .int k x
 | bool b => exact .bool b
 | str s => exact .str s
 | sl => cases ht
 | st => cases ht
 | pn => cases ht
 | ps => cases ht
section br
variable {f : Nat → Nat} {n : Nat}
theorem iLeaf_br {p : PLeaf} {vs : List (TV G)} {ts ts' : List Ty} (h : brL ts p = some ts') (hv : vs.map (·.t) = ts) : (∀ {u : Value}, LfOK Z w pl n (iLeaf f p vs).1 u → LfOK Z' w pl n (iLeaf f p vs).1 u) ∧ (iLeaf f p vs).2.map (·.t) = ts' := by
 subst hv
 cases p with
 | val t =>
  cases vs with
  | nil => simp only [brL, List.map_nil, Option.some.injEq] at h; subst h; exact ⟨fun h => h, rfl⟩
  | cons v r =>
   simp only [brL, List.map_cons] at h
   split at h
   ·rename_i hs
    simp only [Option.some.injEq] at h
    subst h
    exact ⟨fun hu => ⟨RepC.scal hs hu.1, hu.2⟩, rfl⟩
   ·cases h
 | _ => simp only [brL, Option.some.injEq] at h; subst h; exact ⟨fun h => h, rfl⟩
theorem iLeaves_br : ∀ {ps : List PLeaf} {vs : List (TV G)} {ts ts' : List Ty}, brLs ts ps = some ts' → vs.map (·.t) = ts → (∀ {us : List Value}, LsOK Z w pl n (iLeaves f ps vs).1 us → LsOK Z' w pl n (iLeaves f ps vs).1 us) ∧ (iLeaves f ps vs).2.map (·.t) = ts'
 | [], vs, ts, ts', h, hv => by simp only [brLs, Option.some.injEq] at h; subst h; exact ⟨fun h => h, hv⟩
 | p :: ps, vs, ts, ts', h, hv => by
  simp only [brLs] at h
  split at h
  ·rename_i t1 h1
   obtain ⟨a1, a2⟩ := iLeaf_br (f := f) (Z := Z) (Z' := Z') (w := w) (pl := pl) (n := n) h1 hv
   obtain ⟨b1, b2⟩ := iLeaves_br (ps := ps) h a2
   exact ⟨fun ⟨u, us, e, k1, k2⟩ => ⟨u, us, e, a1 k1, b1 k2⟩, b2⟩
  ·cases h
theorem iSV_br {p : PSV} {vs : List (TV G)} {ts ts' : List Ty} (h : brS ts p = some ts') (hv : vs.map (·.t) = ts) : (∀ {u : Value}, DVOK Z w pl n (iSV f p vs).1 u → DVOK Z' w pl n (iSV f p vs).1 u) ∧ (iSV f p vs).2.map (·.t) = ts' := by
 cases p with
 | one p => obtain ⟨a1, a2⟩ := iLeaf_br (f := f) (Z := Z) (Z' := Z') (w := w) (pl := pl) (n := n) (p := p) h hv; exact ⟨fun h => a1 h, a2⟩
 | agg ps => obtain ⟨a1, a2⟩ := iLeaves_br (f := f) (Z := Z) (Z' := Z') (w := w) (pl := pl) (n := n) (ps := ps) h hv; exact ⟨fun ⟨cs, e, h⟩ => ⟨cs, e, a1 h⟩, a2⟩
 | st s => cases h
theorem iTmps_br : ∀ {ps : List (Nat × PSV)} {vs : List (TV G)} {ts ts' : List Ty}, brTm ts ps = some ts' → vs.map (·.t) = ts → (∀ {t : Nat} {d : DV G} {u : Value}, get (iTmps f ps vs).1 t = some d → DVOK Z w pl n d u → DVOK Z' w pl n d u) ∧ (iTmps f ps vs).2.map (·.t) = ts'
 | [], vs, ts, ts', h, hv => by simp only [brTm, Option.some.injEq] at h; subst h; exact ⟨fun h _ => by simp [iTmps, get] at h, hv⟩
 | (t0, p) :: ps, vs, ts, ts', h, hv => by
  simp only [brTm] at h
  split at h
  ·rename_i t1 h1
   obtain ⟨b1, b2⟩ := iSV_br (f := f) (Z := Z) (Z' := Z') (w := w) (pl := pl) (n := n) h1 hv
   obtain ⟨a1, a2⟩ := iTmps_br (ps := ps) h b2
   refine ⟨fun {t d u} h hd => ?_, a2⟩
   simp only [iTmps] at h
   rw [get_cons] at h
   split at h
   ·injection h with h; subst h; exact b1 hd
   ·exact a1 h hd
  ·cases h
theorem RowC.flat {m : Nat} {t : Ty} (hf : flatN G m [t] = true) {xs : List (G.D t)} {vs : List Value} (h : RowC G Z w t xs vs) : RowC G Z' w t xs vs := (flat_row (Z' := Z') hf h).row (fun _ _ h => h) fun k hk => by cases hk
theorem OwnR.deep (hd : deepB G.own = true) {t : Ty} {xs : List (G.D t)} {vs : List Value} {fp : List Nat} (h : OwnR G Z w t xs vs fp) : OwnR G Z' w t xs vs fp := by
 refine OwnR.rec (G := G) (Z := Z) (w := w) (motive_1 := fun t x cs fp _ => OwnC G Z' w t x cs fp)
  (motive_2 := fun ts h cs fp _ => OwnF G Z' w ts h cs fp) (motive_3 := fun t xs cs fp _ => OwnR G Z' w t xs cs fp) ?_ ?_ ?_ ?_ ?_ ?_ ?_ ?_ ?_ ?_ ?_ ?_ ?_ h
 ·exact fun k x => .int k x
 ·exact fun b => .bool b
 ·exact fun s => .str s
 ·exact fun e t A c hm => .sl0 e t A c hm
 ·exact fun e t xs v vs b fp hm ho hbk _ ih => .sl e t xs v vs b fp hm ho hbk ih
 ·exact fun e t hm => .on0 e t hm
 ·exact fun e t xs v vs b hm _ _ _ => by rw [md_deep hd] at hm; cases hm
 ·exact fun e t xs v hm _ => by rw [md_deep hd] at hm; cases hm
 ·exact fun s x cs fp _ ih => .st s x cs fp ih
 ·exact .nil
 ·exact fun t ts h cs cs' fp fp' hl _ _ ih1 ih2 => .cons t ts h cs cs' fp fp' hl ih1 ih2
 ·exact fun t => .nil t
 ·exact fun t x xs cs vs fp fp' hl _ _ ih1 ih2 => .cons t x xs cs vs fp fp' hl ih1 ih2
theorem iObs_br : ∀ {ps : List POb} {j : Nat} {vs : List (TV G)} {ts ts' : List Ty}, brO G ts ps = some ts' → vs.map (·.t) = ts → ∀ {i o : Nat} {b : Ob G}, get (iObs f j ps vs).1 o = some b → ObOK Z w pl n i b → ObOK Z' w pl n i b
 | [], j, vs, ts, ts', _, _, i, o, b, h, _ => by simp [iObs, get] at h
 | .cells ro pls :: ps, j, vs, ts, ts', hb, hv, i, o, b, h, hO => by
  simp only [brO] at hb
  split at hb
  ·rename_i t1 h1
   obtain ⟨b1, b2⟩ := iLeaves_br (f := f) (Z := Z) (Z' := Z') (w := w) (pl := pl) (n := n) h1 hv
   simp only [iObs] at h
   rw [get_cons] at h
   split at h
   ·injection h with h
    subst h
    obtain ⟨bb, T, cs, h1, h2, h3⟩ := hO
    exact ⟨bb, T, cs, h1, h2, b1 h3⟩
   ·exact iObs_br (ps := ps) hb b2 h hO
  ·cases hb
 | .arr e t :: ps, j, vs, ts, ts', hb, hv, i, o, b, h, hO => by
  simp only [brO] at hb
  split at hb
  ·rename_i e1 t1 r
   split at hb
   ·rename_i hf
    cases vs with
    | nil => cases hv
    | cons v vs =>
     obtain ⟨tv, x⟩ := v
     simp only [List.map_cons, List.cons.injEq] at hv
     obtain ⟨rfl, hv⟩ := hv
     simp only [iObs] at h
     rw [get_cons] at h
     split at h
     ·injection h with h
      subst h
      obtain ⟨us, h1, h2⟩ := hO
      exact ⟨us, h1, RowC.flat hf h2⟩
     ·exact iObs_br (ps := ps) hb hv h hO
   ·cases hb
  ·cases hb
 | .ow kp false e t :: ps, j, vs, ts, ts', hb, hv, i, o, b, h, hO => by
  simp only [brO] at hb
  split at hb
  ·rename_i e1 t1 r
   split at hb
   ·rename_i hf
    cases vs with
    | nil => cases hv
    | cons v vs =>
     obtain ⟨tv, x⟩ := v
     simp only [List.map_cons, List.cons.injEq] at hv
     obtain ⟨rfl, hv⟩ := hv
     simp only [iObs] at h
     rw [get_cons] at h
     split at h
     ·injection h with h
      subst h
      obtain ⟨us, h1, h2⟩ := hO
      exact ⟨us, h1, RowC.flat hf h2⟩
     ·exact iObs_br (ps := ps) hb hv h hO
   ·cases hb
  ·cases hb
 | .ow kp true e t :: ps, j, vs, ts, ts', hb, hv, i, o, b, h, hO => by
  simp only [brO] at hb
  split at hb
  ·rename_i e1 t1 r hd
   cases vs with
   | nil => cases hv
   | cons v vs =>
    obtain ⟨tv, x⟩ := v
    simp only [List.map_cons, List.cons.injEq] at hv
    obtain ⟨rfl, hv⟩ := hv
    simp only [iObs] at h
    rw [get_cons] at h
    split at h
    ·injection h with h
     subst h
     exact hO
    ·exact iObs_br (ps := ps) hb hv h hO
  ·cases hb
theorem iObs_brT : ∀ {ps : List POb} {j : Nat} {vs : List (TV G)} {ts ts' : List Ty}, brO G ts ps = some ts' → vs.map (·.t) = ts → ∀ {i o : Nat} {b : Ob G} {fp : List Nat}, get (iObs f j ps vs).1 o = some b → TrRep Z w pl n fp i b → TrRep Z' w pl n fp i b
 | [], j, vs, ts, ts', _, _, i, o, b, fp, h, _ => by simp [iObs, get] at h
 | .cells ro pls :: ps, j, vs, ts, ts', hb, hv, i, o, b, fp, h, hO => by
  simp only [brO] at hb
  split at hb
  ·rename_i t1 h1
   obtain ⟨b1, b2⟩ := iLeaves_br (f := f) (Z := Z) (Z' := Z') (w := w) (pl := pl) (n := n) h1 hv
   simp only [iObs] at h
   rw [get_cons] at h
   split at h
   ·injection h with h
    subst h
    trivial
   ·exact iObs_brT (ps := ps) hb b2 h hO
  ·cases hb
 | .arr e t :: ps, j, vs, ts, ts', hb, hv, i, o, b, fp, h, hO => by
  simp only [brO] at hb
  split at hb
  ·split at hb
   ·cases vs with
    | nil => cases hv
    | cons v vs =>
     obtain ⟨tv, x⟩ := v
     simp only [List.map_cons, List.cons.injEq] at hv
     obtain ⟨rfl, hv⟩ := hv
     simp only [iObs] at h
     rw [get_cons] at h
     split at h
     ·injection h with h
      subst h
      trivial
     ·exact iObs_brT (ps := ps) hb hv h hO
   ·cases hb
  ·cases hb
 | .ow kp false e t :: ps, j, vs, ts, ts', hb, hv, i, o, b, fp, h, hO => by
  simp only [brO] at hb
  split at hb
  ·split at hb
   ·cases vs with
    | nil => cases hv
    | cons v vs =>
     obtain ⟨tv, x⟩ := v
     simp only [List.map_cons, List.cons.injEq] at hv
     obtain ⟨rfl, hv⟩ := hv
     simp only [iObs] at h
     rw [get_cons] at h
     split at h
     ·injection h with h
      subst h
      trivial
     ·exact iObs_brT (ps := ps) hb hv h hO
   ·cases hb
  ·cases hb
 | .ow kp true e t :: ps, j, vs, ts, ts', hb, hv, i, o, b, fp, h, hO => by
  simp only [brO] at hb
  split at hb
  ·rename_i e1 t1 r hd
   cases vs with
   | nil => cases hv
   | cons v vs =>
    obtain ⟨tv, x⟩ := v
    simp only [List.map_cons, List.cons.injEq] at hv
    obtain ⟨rfl, hv⟩ := hv
    simp only [iObs] at h
    rw [get_cons] at h
    split at h
    ·injection h with h
     subst h
     obtain ⟨us, h1, h2⟩ := hO
     exact ⟨us, h1, h2.deep hd⟩
    ·exact iObs_brT (ps := ps) hb hv h hO
  ·cases hb
theorem ofHL_map : ∀ {ts : List Ty} {h : HL G.S ts}, (ofHL ts h).map (·.t) = ts := by
 have key : ∀ (ts : List Ty) (t : Ty) (h : HLc G.S t ts), (ofHLc ts t h).map (·.t) = t :: ts := by
  intro ts
  induction ts with
  | nil => intro t h; rfl
  | cons t' ts ih => intro t h; simp only [ofHLc, List.map_cons, ih]
 intro ts h
 cases ts with
 | nil => rfl
 | cons t ts => exact key ts t h
end br
def goneB (os : List (Nat × Ob G)) (ren : List (Nat × Nat)) (n o : Nat) : Bool :=
 (List.range n).any fun j => match get os j, get ren j with | some b, some o' => isTr b && o' == o | _, _ => false
theorem goneB_iff {os : List (Nat × Ob G)} {ren : List (Nat × Nat)} {n o : Nat} : goneB os ren n o = true ↔ ∃ j b, j < n ∧ get os j = some b ∧ isTr b = true ∧ get ren j = some o := by
 unfold goneB
 rw [List.any_eq_true]
 constructor
 ·rintro ⟨j, hj, hx⟩
  split at hx
  ·rename_i b o' h1 h2
   rw [Bool.and_eq_true] at hx
   exact ⟨j, b, List.mem_range.1 hj, h1, hx.1, by rw [h2, beq_iff_eq.1 hx.2]⟩
  ·cases hx
 ·rintro ⟨j, b, hj, h1, hb, h2⟩
  exact ⟨j, List.mem_range.2 hj, by rw [h1, h2]; simp [hb]⟩
theorem TrOK.sub {W : Nat → Nat → Prop} {base : Nat} {objs : List (Nat × Ob G)} {nx : Nat} {f f' : Nat → List Nat} (T : TrOK W base Z pl objs nx w f) (h : ∀ o, f' o = f o ∨ (f' o = [] ∧ ∀ b, get objs o = some b → live b = false)) : TrOK W base Z pl objs nx w f' := by
 have sub : ∀ o k, k ∈ f' o → k ∈ f o := fun o k hk => by
  rcases h o with e | ⟨e, _⟩
  ·rwa [e] at hk
  ·rw [e] at hk; cases hk
 exact {
  rep := fun o b hg => by
   rcases h o with e | ⟨_, e⟩
   ·rw [e]; exact T.rep o b hg
   ·have := e b hg
    cases b with
    | tr e t x => cases this
    | fo e t x i off o2 => cases this
    | sw e t x n1 i1 n2 i2 st => cases this
    | tk e t x n => cases this
    | _ => trivial
  nd := fun o => by
   rcases h o with e | ⟨e, _⟩ <;> rw [e]
   ·exact T.nd o
   ·exact List.nodup_nil
  sep := fun o o' k h1 h2 => T.sep o o' k (sub o k h1) (sub o' k h2)
  root := fun o k o' b h1 => T.root o k o' b (sub o k h1)
  own := fun o k h1 => T.own o k (sub o k h1)
  zfar := fun o k h1 => T.zfar o k (sub o k h1)
  lt := fun o k h1 => T.lt o k (sub o k h1) }
theorem iTmps_keys {f : Nat → Nat} : ∀ {ps : List (Nat × PSV)} {vs : List (TV G)}, (iTmps f ps vs).1.map (·.1) = ps.map (·.1)
 | [], _ => rfl
 | (t, p) :: ps, vs => by simp only [iTmps, List.map_cons]; rw [iTmps_keys (ps := ps)]
theorem keysOK_ok : ∀ {ps : List (Nat × PSV)} {j : Nat}, keysOK j ps = true → ps.map (·.1) = (List.range' j ps.length)
 | [], _, _ => rfl
 | (k, p) :: ps, j, h => by
  simp only [keysOK] at h
  split at h
  ·rename_i hk
   rw [List.map_cons, keysOK_ok h, Nat.eq_of_beq_eq_true hk]; rfl
  ·cases h
theorem dvOf_ok {nx : Nat} {ds : List (Nat × DV G)} {v : Value} (hk : ds.map (·.1) = List.range' 0 ds.length) (hd : ∀ t d, get ds t = some d → DVOK Z w pl nx d (compV ds.length v t)) (hv : ds.length = 1 ∨ ∃ vs : List Value, v = .tuple vs.toArray ∧ vs.length = ds.length) : DVOK Z w pl nx (dvOf (dvAll ds)) v := by
 have key : ∀ (ds : List (Nat × DV G)) (j : Nat) (l : List (SV G)), ds.map (·.1) = List.range' j ds.length → dvAll ds = some l → l.length = ds.length ∧ ∀ vs : List Value, vs.length = ds.length → (∀ (i : Nat) d u, get ds (j + i) = some d → vs[i]? = some u → DVOK Z w pl nx d u) → SVsOK Z w pl nx l vs := by
  intro ds
  induction ds with
  | nil => intro j l _ h; simp only [dvAll, Option.some.injEq] at h; subst h; exact ⟨rfl, fun vs hvs _ => List.eq_nil_of_length_eq_zero hvs⟩
  | cons x ds ih =>
   intro j l hk h
   obtain ⟨k, d⟩ := x
   simp only [List.map_cons, List.length_cons, List.range'_succ, List.cons.injEq] at hk
   obtain ⟨rfl, hk⟩ := hk
   cases d with
   | sv s =>
    simp only [dvAll] at h
    split at h
    ·rename_i l' hl'
     injection h with h
     subst h
     obtain ⟨a1, a2⟩ := ih (k + 1) l' hk hl'
     refine ⟨by simp [a1], fun vs hvs hh => ?_⟩
     cases vs with
     | nil => simp at hvs
     | cons u us =>
      refine ⟨u, us, rfl, ?_, a2 us (by simpa using hvs) (fun i d u' hg hu' => ?_)⟩
      ·have := hh 0 (.sv s) u (by rw [Nat.add_zero]; exact get_same _ _ _) rfl
       exact this
      ·exact hh (i + 1) d u' (by rw [show k + (i + 1) = k + 1 + i by omega, get_far _ _ (by omega)]; exact hg) (by simpa using hu')
    ·cases h
   | tup _ => cases h
   | und => cases h
   | junk => cases h
 cases hl : dvAll ds with
 | none => exact trivial
 | some l =>
  obtain ⟨a1, a2⟩ := key ds 0 l hk hl
  by_cases h1 : ds.length = 1
  ·cases ds with
   | nil => cases h1
   | cons x ds =>
    cases ds with
    | cons _ _ => simp at h1
    | nil =>
     obtain ⟨k, d⟩ := x
     simp only [List.map_cons, List.map_nil, List.length_cons, List.length_nil, Nat.zero_add, List.range'_one, List.cons.injEq, and_true] at hk
     subst hk
     cases d with
     | sv s =>
      simp only [dvAll, Option.some.injEq] at hl
      subst hl
      have := hd 0 (.sv s) (get_same _ _ _)
      exact this
     | tup _ => cases hl
     | und => cases hl
     | junk => cases hl
  ·rcases hv with hv | ⟨vs, rfl, hvs⟩
   ·exact absurd hv h1
   ·have hne : l.length ≠ 1 := by rw [a1]; exact h1
    have e : dvOf (some l) = .tup l := by
     cases l with
     | nil => rfl
     | cons x l => cases l with
      | nil => exact absurd rfl hne
      | cons _ _ => rfl
    rw [e]
    refine ⟨vs, rfl, a2 vs hvs (fun i d u hg hu => ?_)⟩
    have := hd i d (by rw [Nat.zero_add] at hg; exact hg)
    simp only [compV, if_neg h1] at this
    rw [show (vs.toArray.getD i undef) = u from by simp [Array.getD_eq_getD_getElem?, hu]] at this
    exact this
theorem op_callK (hs : SigOK G) {c : Ct G} {fid : FuncId} (hc : c.Holds P fid) {al : List (Nat × DV G)} {vals : List Value} (hlen : al.length = vals.length) (hal : ∀ t d, get al t = some d → DVOK Z w pl L.nx d (vals.getD t undef))
  (h : callK E o c al L K = some r) (S : Sat E.N W w0 Z pl L a w) (exe1 : ∀ v w', (callFunc fid vals.toArray).run P w = .ok (.value v) w' → (execOp a.eval o).run P w = .ok (.value v) w')
  (exe2 : (callFunc fid vals.toArray).run P w = .ok (.enter fid vals.toArray) w → (execOp a.eval o).run P w = .ok (.enter fid vals.toArray) w) (hK : Then E W w0 K r next) : o.wp P a w next Q := by
 cases L with
 | mk tm ob nx =>
 simp only [callK] at h
 split at h
 ·rename_i tm1 ob1 nx1 ren vs hn hm
  rw [len_eq, len_eq] at hn
  have hn := Nat.eq_of_beq_eq_true hn
  split at h
  ·rename_i h1 hh
   cases hF : c.F h1 with
   | none => rw [hF] at h; cases h
   | some r0 =>
   rw [hF] at h
   simp only [Option.bind_some] at h
   obtain ⟨Z1, pl1, H⟩ := matchP_ok hs hm (show Mem W w0 Z pl ob nx w from S.mem) (fun j o hj => by simp [get] at hj) (val := fun t => vals.getD t undef) hal
   have hvs := toHL_ofHL hh
   obtain ⟨tmI, rI, osI, e1, e2, k1, _, k2⟩ := H.told (fun j => j) (renF ren pl1) c.ip.objs.length (renF_fit (fun j o hj => (H.bnd j o hj).1))
   have eI : instP c.ip vs = ⟨tmI, osI, c.ip.objs.length⟩ := by simp only [instP, e1, e2, len_eq]
   have M1 : Mem W w0 Z1 pl1 ob1 nx1 w := H.step.mem
   have hbnd : ∀ j o, get ren j = some o → j < c.ip.objs.length := fun j o hj => (H.bnd j o hj).1
   obtain ⟨fM, TM⟩ := M1.tr
   let fI := renT ren osI fM
   have memI : ∀ j k, k ∈ fI j → ∃ bb o, get osI j = some bb ∧ isTr bb = true ∧ get ren j = some o ∧ k ∈ fM o := by
    intro j k hk
    have hk : k ∈ renT ren osI fM j := hk
    unfold renT at hk
    split at hk
    ·rename_i bb hg
     split at hk
     ·rename_i hb
      split at hk
      ·rename_i o ho; exact ⟨bb, o, hg, hb, ho, hk⟩
      ·cases hk
     ·cases hk
    ·cases hk
   obtain ⟨TI, MI⟩ : TrOK (Given osI (renF ren pl1) fI) w.heap.size Z1 (renF ren pl1) osI c.ip.objs.length w fI ∧ Mem ⟨Given osI (renF ren pl1) fI, Z1, fixOf 0 c.ip.objs, renF ren pl1⟩ w Z1 (renF ren pl1) osI c.ip.objs.length w := by
    refine inst_mem (W1 := ⟨Given osI (renF ren pl1) fI, Z1, fixOf 0 c.ip.objs, renF ren pl1⟩) M1 k2 TM (fun j bb o k hg hb ho hk => .inr fun i => .inr ⟨j, ?_⟩) H.inj H.bnd (fun j b k hg hk => .inr ?_) (Fr.refl _ _ _) (fun _ _ h => .inl h) (fun _ _ h => h) (fun j hj => ⟨by obtain ⟨i, p, e, hi, _⟩ := fixOf_mem.1 hj; rw [Nat.zero_add] at e; rw [e]; exact (List.getElem?_eq_some_iff.1 hi).1, rfl⟩)
    ·show k ∈ renT ren osI fM j
     unfold renT
     rw [hg]
     simp only [hb, ho]
     exact hk
    have hl : live b = true := (k2.get_id j b hg).2.2.2.1
    cases b with
    | cells ro ls => exact fun i hi hi2 => .inl ⟨j, _, hg, hl, hk, fun ro' ls' e => by injection e with e1 e2; subst e1 e2; exact ⟨hi, hi2⟩⟩
    | arr e t x => exact fun i => .inl ⟨j, _, hg, hl, hk, fun ro' ls' e => by cases e⟩
    | tr e t x => exact fun i => .inl ⟨j, _, hg, hl, hk, fun ro' ls' e => by cases e⟩
    | fo e t x i1 off o2 => exact fun i => .inl ⟨j, _, hg, hl, hk, fun ro' ls' e => by cases e⟩
    | sw e t x n1 i1 n2 i2 st => exact fun i => .inl ⟨j, _, hg, hl, hk, fun ro' ls' e => by cases e⟩
    | tk e t x n => exact fun i => .inl ⟨j, _, hg, hl, hk, fun ro' ls' e => by cases e⟩
    | mo t u x y tg => exact fun i => .inl ⟨j, _, hg, hl, hk, fun ro' ls' e => by cases e⟩
    | frz e t x => cases hl
    | dead => cases hl
   have hrun := hc.run (Given osI (renF ren pl1) fI) Z1 (renF ren pl1) w vals.toArray h1 r0 hF (by rw [List.size_toArray, ← hlen, hn]) (by
    rw [hvs, eI]
    intro t d hg
    have := k1 t d hg
    rw [show vals.toArray.getD t undef = vals.getD t undef from by simp [Array.getD_eq_getD_getElem?, List.getD_eq_getElem?_getD]]
    exact this) (by rw [hvs, eI]; exact MI)
   have hos : ∀ (ps : List POb) (j0 : Nat) (os : List (Nat × Ob G)), OsOK W w0.heap.size Z1 w pl1 ren (fun j => j) (renF ren pl1) c.ip.objs.length ob1 j0 ps os → ∀ (i : Nat) p, ps[i]? = some p → ∃ b, get os (j0 + i) = some b ∧ live b = true ∧ (∃ o, get ren (j0 + i) = some o) ∧ match p with | .cells ro pl' => ∃ ls : List (Leaf G), b = .cells ro ls ∧ ls.length = pl'.length | _ => ∀ ro ls, b ≠ .cells ro ls := by
    intro ps
    induction ps with
    | nil => intro j0 os _ i p hi; simp at hi
    | cons p0 ps ih =>
     intro j0 os ⟨b, os', e, g1, g2, g3, ⟨o, g4, _, _⟩, g5⟩ i p hi
     subst e
     cases i with
     | zero =>
      injection hi with hi
      subst hi
      refine ⟨b, get_same _ _ _, g2, ⟨o, g4⟩, ?_⟩
      cases p0 with
      | cells ro pl' => exact g3
      | arr e t => obtain ⟨x, hx⟩ := g3; intro ro ls hh; rw [hx] at hh; cases hh
      | ow kp tree e t => cases tree <;> (obtain ⟨x, hx⟩ := g3; intro ro ls hh; rw [hx] at hh; cases hh)
      | mo t u tg => obtain ⟨x, y, hx⟩ := g3; intro ro ls hh; rw [hx] at hh; cases hh
      | tk e t => obtain ⟨x, y, hx⟩ := g3; intro ro ls hh; rw [hx] at hh; cases hh
     | succ i =>
      obtain ⟨b', q1, q2, q3, q4⟩ := ih (j0 + 1) os' g5 i p (by simpa using hi)
      refine ⟨b', ?_, q2, ?_, q4⟩
      ·show get ((j0, b) :: os') (j0 + (i + 1)) = _
       rw [get_far _ _ (by omega), show j0 + (i + 1) = j0 + 1 + i by omega]; exact q1
      ·rw [show j0 + (i + 1) = j0 + 1 + i by omega]; exact q3
   have hI : ∀ (j : Nat) p, c.ip.objs[j]? = some p → ∃ b, get osI j = some b ∧ live b = true ∧ match p with | .cells ro pl' => ∃ ls : List (Leaf G), b = .cells ro ls ∧ ls.length = pl'.length | _ => ∀ ro ls, b ≠ .cells ro ls := by
    intro j p hp
    obtain ⟨b, q1, q2, _, q4⟩ := hos c.ip.objs 0 osI k2 j p hp
    rw [Nat.zero_add] at q1
    exact ⟨b, q1, q2, q4⟩
   have hren1 : ∀ j, j < c.ip.objs.length → ∃ o, get ren j = some o ∧ o < nx1 ∧ pl1 o = renF ren pl1 j := by
    intro j hj
    obtain ⟨_, _, _, ⟨o, ho⟩, _⟩ := hos c.ip.objs 0 osI k2 j _ (List.getElem?_eq_getElem hj)
    rw [Nat.zero_add] at ho
    exact ⟨o, ho, H.lt j o ho, (renF_some ho).symm⟩
   have hcells1 : ∀ (j : Nat) ro pl' o, c.ip.objs[j]? = some (.cells ro pl') → get ren j = some o → ∃ ro' ls, get ob1 o = some (.cells ro' ls) ∧ ls.length = pl'.length := by
    intro j ro pl' o hj ho
    obtain ⟨b, q1, q2, ls, q3, q4⟩ := hI j _ hj
    subst q3
    obtain ⟨_, _, q5, _⟩ := k2.get_id j _ q1
    obtain ⟨bb, T, cs, q6, q7, q8⟩ := q5
    obtain ⟨_, b1, hb1, hl1⟩ := H.bnd j o ho
    have hO := M1.ob o b1 hb1
    rw [renF_some ho] at q6
    cases b1 with
    | cells ro' ls' =>
     obtain ⟨bb', T', cs', m1, m2, m3⟩ := hO
     rw [q6] at m1
     injection m1 with m1
     injection m1 with m1
     injection m1 with m1
     subst m1
     rw [q7] at m2
     injection m2 with m2
     injection m2 with m2
     have m2 : cs = cs' := by simpa using m2
     subst m2
     exact ⟨ro', ls', hb1, by have := m3.length; have := q8.length; omega⟩
    | arr e t xs =>
     obtain ⟨vs', o1, _⟩ := hO
     rcases o1.2 with ⟨m1, _⟩ | ⟨g, cap, cur, m1, _⟩ <;> (rw [q6] at m1; cases m1)
    | tr e t xs =>
     obtain ⟨vs', o1⟩ := hO
     rcases o1.2 with ⟨m1, _⟩ | ⟨g, cap, cur, m1, _⟩ <;> (rw [q6] at m1; cases m1)
    | fo e t xs i off o2 =>
     obtain ⟨vs', o1⟩ := hO
     rcases o1.2 with ⟨m1, _⟩ | ⟨g, cap, cur, m1, _⟩ <;> (rw [q6] at m1; cases m1)
    | sw e t xs n1 i1 n2 i2 st =>
     obtain ⟨vs', o1⟩ := hO
     rcases o1.2 with ⟨m1, _⟩ | ⟨g, cap, cur, m1, _⟩ <;> (rw [q6] at m1; cases m1)
    | tk e t xs n =>
     obtain ⟨vs', o1⟩ := hO
     rcases o1.2 with ⟨m1, _⟩ | ⟨g, cap, cur, m1, _⟩ <;> (rw [q6] at m1; cases m1)
    | mo t u x y tg =>
     exfalso
     cases tg with
     | none =>
      obtain ⟨_, _, _, _, _, _, _, _, m1, _⟩ := hO
      rw [q6] at m1; cases m1
     | some mc =>
      obtain ⟨_, _, _, _, _, rr, _, _, _, m1, m2, _⟩ := hO
      rw [q6] at m1
      injection m1 with m1
      injection m1 with m1
      injection m1 with m1
      subst m1
      rw [q7] at m2
      cases m2
    | frz => cases hl1
    | dead => cases hl1
   have hownI : ∀ j b, get osI j = some b → ∀ k, bk (renF ren pl1 j) = some k → Own w0.heap.size W b k := by
    intro j b hg k hk
    obtain ⟨_, _, _, _, o, ho, hw, _⟩ := k2.get_id j b hg
    rw [renF_some ho] at hk
    exact hw k hk
   have hownT : ∀ j k, k ∈ fI j → w0.heap.size ≤ k ∨ ∀ i, W k i := by
    intro j k hk
    obtain ⟨_, o, _, _, _, h1⟩ := memI j k hk
    exact TM.own o k h1
   have hgiven : ∀ b i, Given osI (renF ren pl1) fI b i → (∃ j o c1, get ren j = some o ∧ bk (pl1 o) = some b ∧ get ob1 o = some c1 ∧ live c1 = true) ∨ ∃ j bb o, get osI j = some bb ∧ isTr bb = true ∧ get ren j = some o ∧ b ∈ fM o := by
    rintro b i (⟨j, ob', g1, g2, g3, _⟩ | ⟨j, g1⟩)
    ·obtain ⟨_, _, _, _, o, ho, _⟩ := k2.get_id j ob' g1
     obtain ⟨_, c1, hc1, hl1⟩ := H.bnd j o ho
     rw [renF_some ho] at g3
     exact .inl ⟨j, o, c1, ho, g3, hc1, hl1⟩
    ·obtain ⟨bb, o, g2, g2b, g3, g4⟩ := memI j b g1
     exact .inr ⟨j, bb, o, g2, g2b, g3, g4⟩
   have hz1 : ∀ b i, Z1 b i → ∀ i', ¬ Given osI (renF ren pl1) fI b i' := by
    intro b i hz i' hg
    rcases hgiven b i' hg with ⟨j, o, c1, _, g2, g3, g4⟩ | ⟨j, _, o, _, _, _, g4⟩
    ·exact M1.zfar o c1 b g3 g4 g2 i hz
    ·exact TM.zfar o b g4 i hz
   have post : ∀ v w', (∃ Z' pr,
     (∀ t d, get (instP c.rp (ofHL c.ots r0)).tmps t = some d → DVOK Z' w' pr (instP c.rp (ofHL c.ots r0)).nx d (compV c.rp.tmps.length v t)) ∧
     (c.rp.tmps.length = 1 ∨ ∃ vs : List Value, v = .tuple vs.toArray ∧ vs.length = c.rp.tmps.length) ∧
     Mem ⟨Given osI (renF ren pl1) fI, Z1, fixOf 0 c.ip.objs, renF ren pl1⟩ w Z' pr (instP c.rp (ofHL c.ots r0)).objs (instP c.rp (ofHL c.ots r0)).nx w') → next (a.put o.dst v) w' := by
    rintro v w' ⟨Z2, pr, htm, htup, M2⟩
    have z1 := M2.z0
    have z2 := M2.zn
    have hpr : ∀ j p, c.ip.objs[j]? = some p → isFix p = true → pr j = renF ren pl1 j := fun j p hj hp => (M2.fx j (fixOf_mem.2 ⟨j, p, (Nat.zero_add j).symm, hj, hp⟩)).2
    have eR : instP c.rp (ofHL c.ots r0) = ⟨(iTmps (fun j => j) c.rp.tmps (ofHL c.ots r0)).1, (iObs (fun j => j) 0 c.rp.objs (iTmps (fun j => j) c.rp.tmps (ofHL c.ots r0)).2).1, c.rp.objs.length⟩ := by simp only [instP, len_eq]
    rw [eR] at htm M2
    simp only at htm M2
    have fin : ∀ (obB : List (Nat × Ob G)) (nxB : Nat) (ZB Zr : Nat → Nat → Prop) (plB : Nat → Value) (fB : Nat → List Nat), afterK E o c ren r0 tm obB nxB K = some r → Mem W w0 ZB plB obB nxB w → TrOK W w0.heap.size ZB plB obB nxB w fB → (∀ o k, k ∈ fB o → ∀ i, ¬ Given osI (renF ren pl1) fI k i) → Ext Z w pl nx ZB w plB nxB →
      (∀ j, j < c.ip.objs.length → ∃ o, get ren j = some o ∧ o < nxB ∧ plB o = renF ren pl1 j) → (∀ (j : Nat) ro pl' o, c.ip.objs[j]? = some (.cells ro pl') → get ren j = some o → ∃ ro' ls, get obB o = some (.cells ro' ls) ∧ ls.length = pl'.length) →
      (∀ (j : Nat) p o b, c.ip.objs[j]? = some p → isRow p = true → get ren j = some o → get obB o = some b → live b = true → False) → (∀ o b k, get obB o = some b → live b = true → bk (plB o) = some k → (∀ j, get ren j ≠ some o) → ∀ i, ¬ Given osI (renF ren pl1) fI k i) →
      (∀ b i, ZB b i → ∀ i', ¬ Given osI (renF ren pl1) fI b i') → (∀ b i, ZB b i → Zr b i) → (∀ b i, Zr b i → ZB b i ∨ w.heap.size ≤ b ∨ ∀ j, Given osI (renF ren pl1) fI b j) →
      (∀ t d, get (iTmps (fun j => j) c.rp.tmps (ofHL c.ots r0)).1 t = some d → DVOK Zr w' pr c.rp.objs.length d (compV c.rp.tmps.length v t)) →
      (∃ za fa pa, Mem ⟨Given osI (renF ren pl1) fI, za, fa, pa⟩ w Zr pr (iObs (fun j => j) 0 c.rp.objs (iTmps (fun j => j) c.rp.tmps (ofHL c.ots r0)).2).1 c.rp.objs.length w') → next (a.put o.dst v) w' := by
     intro obB nxB ZB Zr plB fB hafter MB TB hfB X0 hrenB hcellsB hdeadB hfarB hzB hzI hzN htmR ⟨za, fa, pa, M2R⟩
     obtain ⟨hNF, X, M3⟩ := after_mem hc.wf MI MB TI TB hfB M2R rfl hrenB hbnd H.inj hcellsB hI hdeadB hownI hownT hfarB hzB hzI hzN hpr
     obtain ⟨t1, t2⟩ := iTmps_ren (Z := Zr) (w := w') hNF (ps := c.rp.tmps) (vs := ofHL c.ots r0)
     simp only [afterK] at hafter
     rw [t1, len_eq] at hafter
     have hkeys : (iTmps (resF c.ip.objs ren nxB) c.rp.tmps (ofHL c.ots r0)).1.map (·.1) = c.rp.tmps.map (·.1) := iTmps_keys
     have hl : (iTmps (resF c.ip.objs ren nxB) c.rp.tmps (ofHL c.ots r0)).1.length = c.rp.tmps.length := by rw [← List.length_map (f := fun x => x.1), hkeys, List.length_map]
     have hd := dvOf_ok (Z := Zr) (w := w') (ds := (iTmps (resF c.ip.objs ren nxB) c.rp.tmps (ofHL c.ots r0)).1) (v := v) (by rw [hkeys, hl]; exact keysOK_ok hc.keys) (fun t d hg => by
      obtain ⟨d', q1, q2⟩ := t2 t d hg
      rw [hl]
      exact q2 _ (htmR t d' q1)) (by rw [hl]; exact htup)
     exact out_ok hafter (S.at (L' := ⟨tm, _, _⟩) (X0.trans X) M3 rfl) hd hK
    split at h
    ·
     rename_i hbr
     split at h
     ·rename_i hnx
      have hnx := Nat.eq_of_beq_eq_true hnx
      subst hnx
      have hbo := hc.brw hbr
      simp only [brOK] at hbo
      split at hbo
      ·rename_i b1 b2
       obtain ⟨tsT, tsO, hbT, hbO⟩ : ∃ tsT tsO, brTm c.ots c.rp.tmps = some tsT ∧ brO G tsT c.rp.objs = some tsO := by
        unfold brAll at b2
        split at b2
        ·rename_i tsT h1
         split at b2
         ·rename_i tsO h2; exact ⟨tsT, tsO, h1, h2⟩
         ·cases b2
        ·cases b2
       have hpl1 : ∀ o, o < nx → pl1 o = pl o := H.step.ext.hp
       have noarr : ∀ (ps : List POb), noArr ps = true → ∀ (j : Nat) p, isRow p = true → ps[j]? ≠ some p := by
        intro ps
        induction ps with
        | nil => intro _ j p _ h; simp at h
        | cons p ps ih =>
         intro hh j q hq h
         cases p with
         | arr => cases hh
         | ow => cases hh
         | mo => cases hh
         | tk => cases hh
         | cells ro l =>
          cases j with
          | zero => injection h with h; subst h; cases hq
          | succ j => exact ih hh j q hq (by simpa using h)
       have hold : ∀ j o, get ren j = some o → ∃ ro ls, get ob o = some (.cells ro ls) ∧ get ob1 o = some (.cells ro ls) := by
        intro j o ho
        have hj := hbnd j o ho
        cases hp : c.ip.objs[j]? with
        | none => rw [List.getElem?_eq_getElem hj] at hp; cases hp
        | some p =>
         cases p with
         | arr e t => exact absurd hp (noarr _ b1 j _ rfl)
         | ow kp tree e t => exact absurd hp (noarr _ b1 j _ rfl)
         | mo t u tg => exact absurd hp (noarr _ b1 j _ rfl)
         | tk e t => exact absurd hp (noarr _ b1 j _ rfl)
         | cells ro l =>
          obtain ⟨ro', ls, q1, _⟩ := hcells1 j ro l o hp ho
          rcases H.back o _ q1 rfl with q | q
          ·exact ⟨ro', ls, q, q1⟩
          ·exact absurd (H.lt j o ho) (by have : nx ≤ o := q; show ¬ o < nx; omega)
       have notree : ∀ j bb, get osI j = some bb → isTr bb = true → False := by
        intro j bb hg hbb
        obtain ⟨_, hj2, _⟩ := k2.get_id j _ hg
        rw [Nat.zero_add] at hj2
        obtain ⟨b', q1, q2, q3⟩ := hI j _ (List.getElem?_eq_getElem hj2)
        cases hp : c.ip.objs[j]'hj2 with
        | arr e t => exact noarr _ b1 j _ rfl (by rw [List.getElem?_eq_getElem hj2, hp])
        | ow kp tree e t => exact noarr _ b1 j _ rfl (by rw [List.getElem?_eq_getElem hj2, hp])
        | mo t u tg => exact noarr _ b1 j _ rfl (by rw [List.getElem?_eq_getElem hj2, hp])
        | tk e t => exact noarr _ b1 j _ rfl (by rw [List.getElem?_eq_getElem hj2, hp])
        | cells ro l =>
         rw [hp] at q3
         obtain ⟨ls, q3, _⟩ := q3
         rw [hg] at q1
         injection q1 with q1
         rw [q3] at q1
         subst q1
         cases hbb
       obtain ⟨f0, T0⟩ := S.mem.tr
       refine fin ob nx Z Z pl f0 h S.mem T0 (fun o k hk i hgi => ?_) (Ext.refl _ _ _ _) (fun j hj => ?_) (fun j ro pl' o hj ho => ?_) (fun j p o b hj hp => absurd hj (noarr _ b1 j p hp)) (fun o b k hg hl hk hnb i hgi => ?_) (fun b i hz => hz1 b i (H.step.ext.hZ b i hz)) (fun _ _ h => h) (fun _ _ h => .inl h)
        (fun t d hg => (iTmps_br hbT ofHL_map).1 hg (htm t d hg)) ?_
       ·rcases hgiven k i hgi with ⟨j, o', c1, g1, g2, g3, g4⟩ | ⟨j, bb, o', g1, g1b, _⟩
        ·obtain ⟨ro2, ls2, q3, q4⟩ := hold j o' g1
         rw [hpl1 o' (S.mem.lt o' _ q3)] at g2
         exact T0.root o k o' _ hk q3 rfl g2
        ·exact notree j bb g1 g1b
       ·obtain ⟨o, q1, q2, q3⟩ := hren1 j hj
        exact ⟨o, q1, q2, by rw [← hpl1 o q2]; exact q3⟩
       ·obtain ⟨ro', ls, q1, q2⟩ := hcells1 j ro pl' o hj ho
        obtain ⟨ro2, ls2, q3, q4⟩ := hold j o ho
        rw [q1] at q4
        injection q4 with q4
        injection q4 with e1 e2
        subst e1 e2
        exact ⟨ro', ls, q3, q2⟩
       ·rcases hgiven k i hgi with ⟨j, o', c1, g1, g2, g3, g4⟩ | ⟨j, bb, o', g1, g1b, _⟩
        rotate_left
        ·exact notree j bb g1 g1b
        obtain ⟨ro2, ls2, q3, q4⟩ := hold j o' g1
        rw [hpl1 o' (S.mem.lt o' _ q3)] at g2
        have := S.mem.sep o o' b _ k hg hl q3 rfl hk g2
        subst this
        exact hnb j g1
       ·have hrest := (iTmps_br (Z := Z2) (Z' := Z) (w := w') (pl := pr) (n := c.rp.objs.length) (f := fun j => j) hbT (ofHL_map (h := r0))).2
        refine ⟨Z, [], pl, ?_⟩
        exact ⟨M2.lt, fun o b hg => iObs_br hbO hrest hg (M2.ob o b hg), M2.sep, M2.own, fun o b k hg hl hk i hz => M2.zfar o b k hg hl hk i (z1 k i (H.step.ext.hZ k i hz)), fun b i hz => M2.zlt b i (z1 b i (H.step.ext.hZ b i hz)), fun _ _ h => .inl h, fun _ _ h => h, fun j hj => absurd hj List.not_mem_nil, ⟨M2.fr.os, M2.fr.tape, M2.fr.output, M2.fr.size, M2.fr.blk, M2.fr.cel⟩, M2.tr.elim fun f2 T2 => ⟨f2, { T2 with rep := fun o b hg => iObs_brT hbO hrest hg (T2.rep o b hg), zfar := fun o k hk j hz => T2.zfar o k hk j (z1 k j (H.step.ext.hZ k j hz)) }⟩⟩
      ·cases hbo
     ·cases h
    ·obtain ⟨MK, TK⟩ := killArr_mem (ren := ren) (ps := c.ip.objs) (j := 0) M1 TM H.lt
     have hkd : ∀ (j : Nat) p o b, c.ip.objs[j]? = some p → isRow p = true → get ren j = some o → get (killArr ren 0 c.ip.objs ob1) o = some b → live b = true → False := by
      intro j p o b hj hp ho hg hl
      have := (killArr_get hg hl).2 j p hj hp
      rw [Nat.zero_add] at this
      exact this ho
     let fB : Nat → List Nat := fun o => if goneB osI ren c.ip.objs.length o = true then [] else fM o
     have fBno : ∀ o k, k ∈ fB o → k ∈ fM o ∧ ∀ j bb, get osI j = some bb → isTr bb = true → get ren j ≠ some o := by
      intro o k hk
      have hk : k ∈ (if goneB osI ren c.ip.objs.length o = true then [] else fM o) := hk
      split at hk
      ·cases hk
      ·rename_i hn
       refine ⟨hk, fun j bb hg hb ho => hn ?_⟩
       exact goneB_iff.2 ⟨j, bb, hbnd j o ho, hg, hb, ho⟩
     have TB : TrOK W w0.heap.size Z1 pl1 (killArr ren 0 c.ip.objs ob1) nx1 w fB := TK.sub fun o => by
      by_cases hn : goneB osI ren c.ip.objs.length o = true
      ·refine .inr ⟨if_pos hn, fun b hg => ?_⟩
       obtain ⟨j, bb, hj2, hq, hqb, hmr⟩ := goneB_iff.1 hn
       cases hl : live b with
       | false => rfl
       | true =>
        exfalso
        obtain ⟨b2, q1, q2, q3⟩ := hI j _ (List.getElem?_eq_getElem hj2)
        rw [hq] at q1
        injection q1 with q1
        subst q1
        cases hp : c.ip.objs[j]'hj2 with
        | arr e t => exact hkd j _ o b (by rw [List.getElem?_eq_getElem hj2, hp]) rfl hmr hg hl
        | ow kp tree e t => exact hkd j _ o b (by rw [List.getElem?_eq_getElem hj2, hp]) rfl hmr hg hl
        | mo t u tg => exact hkd j _ o b (by rw [List.getElem?_eq_getElem hj2, hp]) rfl hmr hg hl
        | tk e t => exact hkd j _ o b (by rw [List.getElem?_eq_getElem hj2, hp]) rfl hmr hg hl
        | cells ro l =>
         rw [hp] at q3
         obtain ⟨ls, q3, _⟩ := q3
         subst q3
         cases hqb
      ·exact .inl (if_neg hn)
     refine fin (killArr ren 0 c.ip.objs ob1) nx1 Z1 Z2 pl1 fB h MK TB (fun o k hk i hgi => ?_) H.step.ext hren1 (fun j ro pl' o hj ho => ?_) hkd (fun o b k hg hl hk hnb i hgi => ?_) hz1 z1 z2 htm ⟨_, _, _, M2⟩
     ·obtain ⟨h1, h2⟩ := fBno o k hk
      rcases hgiven k i hgi with ⟨j, o', c1, g1, g2, g3, g4⟩ | ⟨j, bb, o', g1, g1b, g2, g3⟩
      ·exact TM.root o k o' c1 h1 g3 g4 g2
      ·have := TM.sep o o' k h1 g3
       subst this
       exact h2 j bb g1 g1b g2
     ·obtain ⟨ro', ls, q1, q2⟩ := hcells1 j ro pl' o hj ho
      refine ⟨ro', ls, ?_, q2⟩
      rw [killArr_far (fun i p hi hp hr => ?_)]
      ·exact q1
      ·rw [Nat.zero_add] at hr
       have := H.inj i j o hr ho
       subst this
       rw [hj] at hi; injection hi with hi; subst hi; cases hp
     ·have hg1 := (killArr_get hg hl).1
      rcases hgiven k i hgi with ⟨j, o', c1, g1, g2, g3, g4⟩ | ⟨j, bb, o', g1, g1b, g2, g3⟩
      rotate_left
      ·exact TM.root o' k o b g3 hg1 hl hk
      have := M1.sep o o' b c1 k hg1 hl g3 g4 hk g2
      subst this
      exact hnb j g1
   rcases hrun with ⟨v, w', q1, q2⟩ | ⟨q1, q2⟩
   ·exact wp_value (exe1 v w' q1) (post v w' q2)
   ·unfold Oper.wp
    rw [exe2 q1, Oper.upon_enter]
    exact q2.mono fun e w'' ⟨v, e1, q⟩ => by subst e1; exact post v w'' q
  ·cases h
 ·cases h
end Go.Proofs.YtmcbhnbemhfifaaDoor.RX
end
section
namespace Go.Proofs.YtmcbhnbemhfifaaDoor.RX.K
open Go Go.Proofs.YtmcbhnbemhfifaaDoor.RX
set_option autoImplicit false
def Ev {α : Type} (g : Nat → Option α) (r : α) : Prop := ∃ K, ∀ k, K ≤ k → g k = some r
section
variable {α β : Type} {r : α}
theorem Ev.now (r : α) : Ev (fun _ => some r) r := ⟨0, fun _ _ => rfl⟩
theorem Ev.of {g : Nat → Option α} (h : ∀ k, g k = some r) : Ev g r := ⟨0, fun k _ => h k⟩
theorem Ev.eq {g : Nat → Option α} {r' : α} (h : Ev g r) (e : r = r') : Ev g r' := e ▸ h
theorem Ev.bind {g : Nat → Option α} {h : Nat → α → Option β} {b : β} (hg : Ev g r) (hh : Ev (fun k => h k r) b) : Ev (fun k => (g k).bind (h k)) b := by
 obtain ⟨K, hK⟩ := hg
 obtain ⟨K', hK'⟩ := hh
 exact ⟨max K K', fun k hk => by show (g k).bind (h k) = _; rw [hK k (by omega)]; exact hK' k (by omega)⟩
theorem Ev.shift {g : Nat → Option α} (h : Ev (fun k => g (k + 1)) r) : Ev g r := by
 obtain ⟨K, hK⟩ := h
 refine ⟨K + 1, fun k hk => ?_⟩
 obtain ⟨m, rfl⟩ : ∃ m, k = m + 1 := ⟨k - 1, by omega⟩
 exact hK m (by omega)
theorem Ev.some {g : Nat → Option α} (h : Ev g r) : ∃ k, g k = some r := by
 obtain ⟨K, hK⟩ := h
 exact ⟨K, hK K (Nat.le_refl _)⟩
theorem Ev.congr {g h : Nat → Option α} (e : ∀ k, g k = h k) (H : Ev h r) : Ev g r := by rwa [show g = h from funext e]
theorem Ev.ite {c : Prop} [Decidable c] {g f : Nat → Option α} (h1 : c → Ev g r) (h2 : ¬ c → Ev f r) : Ev (fun k => if c then g k else f k) r := by
 by_cases h : c
 ·simpa only [if_pos h] using h1 h
 ·simpa only [if_neg h] using h2 h
end
def Evs {α : Type} (g : Nat → Option α) (P : α → Prop) : Prop := ∃ r, P r ∧ Ev g r
section
variable {α β : Type} {P Q : α → Prop}
theorem Evs.of {g : Nat → Option α} {r : α} (h : Ev g r) (p : P r) : Evs g P := ⟨r, p, h⟩
theorem Evs.now {r : α} (h : P r) : Evs (fun _ => Option.some r) P := ⟨r, h, Ev.now r⟩
theorem Evs.bind {g : Nat → Option α} {h : Nat → α → Option β} {S : β → Prop} (hg : Evs g P) (hh : ∀ r, P r → Evs (fun k => h k r) S) : Evs (fun k => (g k).bind (h k)) S := by
 obtain ⟨r, p, e⟩ := hg
 obtain ⟨s, q, e'⟩ := hh r p
 exact ⟨s, q, e.bind e'⟩
theorem Evs.shift {g : Nat → Option α} (h : Evs (fun k => g (k + 1)) P) : Evs g P := by
 obtain ⟨r, p, e⟩ := h
 exact ⟨r, p, e.shift⟩
theorem Evs.mono {g : Nat → Option α} (h : Evs g P) (hq : ∀ r, P r → Q r) : Evs g Q := by
 obtain ⟨r, p, e⟩ := h
 exact ⟨r, hq r p, e⟩
theorem Evs.congr {g h : Nat → Option α} (e : ∀ k, g k = h k) (H : Evs h P) : Evs g P := by rwa [show g = h from funext e]
theorem Evs.ite {c : Prop} [Decidable c] {g f : Nat → Option α} (h1 : c → Evs g P) (h2 : ¬ c → Evs f P) : Evs (fun k => if c then g k else f k) P := by
 by_cases h : c
 ·simpa only [if_pos h] using h1 h
 ·simpa only [if_neg h] using h2 h
end
theorem w64 {x : Int} (h0 : -9223372036854775808 ≤ x) (h1 : x ≤ 9223372036854775807) : IntKind.i64.wrap x = x := by rw [IntKind.wrap_i64]; omega
theorem rdAt_at {α : Type} (d : α) (l : List α) (i : Nat) (h : i < l.length) : rdAt d l (i : Int) = l[i] := by
 simp [rdAt, List.getD_eq_getElem?_getD, h]
theorem rdAt_mem {α : Type} (d : α) (l : List α) (i : Int) (h0 : 0 ≤ i) (h : i < (l.length : Int)) : rdAt d l i ∈ l := by
 obtain ⟨n, rfl⟩ := Int.eq_ofNat_of_zero_le h0
 rw [rdAt_at d l n (by omega)]
 exact List.getElem_mem _
theorem goFrom {α : Type} (l : List α) {P : Int → List α → Prop} (h0 : P (l.length : Int) [])
  (hs : ∀ (i : Int) (x : α) (r : List α), 0 ≤ i → i < (l.length : Int) → (∀ d, rdAt d l i = x) → x ∈ l → (l.length : Int) = i + 1 + (r.length : Int) → l.drop i.toNat = x :: r → l.take (i.toNat + 1) = l.take i.toNat ++ [x] → P (i + 1) r → P i (x :: r)) :
  ∀ n : Nat, n ≤ l.length → P (n : Int) (l.drop n) := by
 intro n hn
 induction hm : l.length - n generalizing n with
 | zero =>
  have : n = l.length := by omega
  subst this
  rw [List.drop_eq_nil_of_le (Nat.le_refl _)]
  exact h0
 | succ m ih =>
  have hlt : n < l.length := by omega
  rw [List.drop_eq_getElem_cons hlt]
  have := ih (n + 1) (by omega) (by omega)
  refine hs n l[n] _ (by omega) (by omega) (fun d => rdAt_at d l n hlt) (List.getElem_mem _) (by rw [List.length_drop]; omega) ?_ ?_ (by simpa using this)
  ·rw [Int.toNat_natCast]; exact List.drop_eq_getElem_cons hlt
  ·rw [Int.toNat_natCast, List.take_succ_eq_append_getElem hlt]
theorem goList {α : Type} (l : List α) {P : Int → List α → Prop} (h0 : P (l.length : Int) [])
  (hs : ∀ (i : Int) (x : α) (r : List α), 0 ≤ i → i < (l.length : Int) → (∀ d, rdAt d l i = x) → x ∈ l → (l.length : Int) = i + 1 + (r.length : Int) → l.drop i.toNat = x :: r → l.take (i.toNat + 1) = l.take i.toNat ++ [x] → P (i + 1) r → P i (x :: r)) : P 0 l := goFrom l h0 hs 0 (Nat.zero_le _)
theorem mid_set {α : Type} {l r : List α} {x y : α} {i : Int} (h : (l.length : Int) = i) : (l ++ x :: r).set i.toNat y = (l ++ [y]) ++ r := by
 rw [show i.toNat = l.length by omega]
 simp
theorem toList_data (c : ByteArray) : c.toList = c.data.toList := by
 have hl : ∀ (i : Nat) (r : List UInt8), i ≤ c.size → ByteArray.toList.loop c i r = r.reverse ++ c.data.toList.drop i := by
  intro i r hi
  induction hd : c.size - i generalizing i r with
  | zero =>
   have : i = c.size := by omega
   subst this
   unfold ByteArray.toList.loop
   have hz : c.data.toList.drop c.size = [] := List.drop_eq_nil_of_le (by rw [Array.length_toList]; exact Nat.le_refl _)
   simp [hz]
  | succ d ih =>
   have hlt : i < c.size := by omega
   unfold ByteArray.toList.loop
   rw [if_pos hlt, ih (i + 1) (c.get! i :: r) (by omega) (by omega)]
   have hlt' : i < c.data.toList.length := by rw [Array.length_toList]; exact hlt
   rw [List.drop_eq_getElem_cons hlt']
   have : c.get! i = c.data.toList[i] := by
    show c.data[i]! = _
    rw [getElem!_pos c.data i hlt, Array.getElem_toList]
   simp [this]
 unfold ByteArray.toList
 rw [hl 0 [] (Nat.zero_le _)]
 simp
theorem toList_inj {a b : ByteArray} : a.toList = b.toList ↔ a = b := by
 refine ⟨fun h => ?_, fun h => h ▸ rfl⟩
 rw [toList_data, toList_data] at h
 cases a; cases b
 simpa using h
theorem size_toList (s : ByteArray) : s.toList.length = s.size := by rw [toList_data, Array.length_toList]; rfl
theorem bytesOf_toList (s : ByteArray) : bytesOf s = s.toList.map fun b => (b.toNat : Int) := by rw [toList_data]; rfl
theorem bytesOf_length (s : ByteArray) : (bytesOf s).length = s.size := by rw [bytesOf_toList, List.length_map, size_toList]
theorem bytesOf_inj {a b : ByteArray} : bytesOf a = bytesOf b ↔ a = b := by
 refine ⟨fun h => toList_inj.1 ?_, fun h => h ▸ rfl⟩
 rw [bytesOf_toList, bytesOf_toList] at h
 exact (List.map_inj_right (fun x y e => UInt8.toNat_inj.1 (by omega))).1 h
theorem bytesOf_extract (s : ByteArray) (a b : Nat) : bytesOf (s.extract a b) = ((bytesOf s).take b).drop a := by
 unfold bytesOf
 rw [← List.map_take, ← List.map_drop]
 congr 1
 rw [ByteArray.data_extract, Array.toList_extract]
 simp [List.extract, List.drop_take]
theorem bt_rd (s : ByteArray) (i : Int) : bt s i = rdAt 0 (bytesOf s) i := by
 unfold bt rdAt bytesOf
 rw [List.getD_eq_getElem?_getD, List.getElem?_map, Array.getElem?_toList, Array.getD_eq_getD_getElem?]
 cases s.data[i.toNat]? <;> rfl
theorem byte_ok (s : ByteArray) : ∀ c ∈ bytesOf s, 0 ≤ c ∧ c ≤ 255 := by
 intro c h
 unfold bytesOf at h
 obtain ⟨b, _, rfl⟩ := List.mem_map.1 h
 have := b.toNat_lt
 omega
def leB (a b : Int) : Bool := decide (a ≤ b)
theorem leB_t {a b : Int} (h : a ≤ b) : leB a b = true := decide_eq_true h
theorem leB_f {a b : Int} (h : ¬ a ≤ b) : leB a b = false := decide_eq_false h
end Go.Proofs.YtmcbhnbemhfifaaDoor.RX.K
end
section
namespace Go.Proofs.YtmcbhnbemhfifaaDoor.RX
open Go Go.RowKit Go.MapKept
open Go.ChangeMaps (setBlock)
set_option autoImplicit false
variable {G : Sig} {R : Type} {P : Program} {W : Rights} {w0 w w' : World} {Z Z' : Nat → Nat → Prop} {pl pl' : Nat → Value} {N : Nat}
variable {E : Env G R} {o : Oper} {L : St G} {K : St G → Option R} {r : R} {a : Act} {next : Act → World → Prop} {Q : Exit → Act → World → Prop}
theorem ScC.rep {t : Ty} {x : G.D t} {v : Value} (h : ScC G t x v) : RepC G Z w t x [v] ∧ v.oneCell' = true := by
 cases t with
 | int k => have h : v = .int k x := h; subst h; exact ⟨.int k x, rfl⟩
 | bool => have h : v = .bool x := h; subst h; exact ⟨.bool x, rfl⟩
 | str => have h : v = .string x := h; subst h; exact ⟨.str x, rfl⟩
 | sl e t => exact h.elim
 | st s => exact h.elim
 | po t => exact h.elim
theorem ScC.of {t : Ty} {x : G.D t} {v : Value} (hs : scalT t = true) (h : RepC G Z w t x [v]) : ScC G t x v := by
 generalize hq : [v] = q at h
 cases h with
 | int k x => injection hq
 | bool b => injection hq
 | str s => injection hq
 | sl => cases hs
 | st => cases hs
 | pn => cases hs
 | ps => cases hs
theorem ScC.key {t : Ty} {x : G.D t} {v : Value} (hk : keyT t = true) (h : ScC G t x v) : IsKey (descOf t) v := by
 cases t with
 | int k => have h : v = .int k x := h; subst h; exact rfl
 | str => have h : v = .string x := h; subst h; exact trivial
 | bool => cases hk
 | sl e t => exact h.elim
 | st s => exact h.elim
 | po t => exact h.elim
theorem scV_ok (S : Sat N W w0 Z pl L a w) {t : Ty} {x : Operand} {k : G.D t} (h : scV t (evalO L x) L = some k) : ScC G t k (a.eval x) := by
 unfold scV at h
 split at h
 ·rename_i l hs hx
  split at h
  ·rename_i v L1 hv
   have hu : LfOK Z w pl L.nx l (a.eval x) := evalO_ok S hx
   obtain ⟨Z1, _, _, R1⟩ := toTV_ok hv S.mem hu
   have := castTo_eq h
   subst this
   exact ScC.of hs R1
  ·cases h
 ·cases h
theorem mapOf_ok (S : Sat N W w0 Z pl L a w) {kt vt : Ty} {x : Operand} {i : Nat} {ks : List (G.D kt)} {vs : List (G.D vt)} (h : mapOf L kt vt (evalO L x) = some (i, ks, vs)) :
  get L.objs i = some (.mo (.sl 0 kt) (.sl 0 vt) ks vs none) ∧ a.eval x = pl i ∧ ∃ r es, pl i = .map (some r) ∧ w.heap[r]? = some (.map es es.size) ∧ MapC G kt vt ks vs es.toList 0 := by
 unfold mapOf at h
 split at h
 ·rename_i o' hx
  split at h
  ·rename_i t u y z hg
   split at h
   ·rename_i ks' vs' h1 h2
    simp only [Option.some.injEq, Prod.mk.injEq] at h
    obtain ⟨rfl, rfl, rfl⟩ := h
    have e1 := castTo_eq h1
    have e2 := castTo_eq h2
    injection e1 with e1 e1'
    injection e2 with e2 e2'
    subst e1 e2
    have e1' := eq_of_heq e1'
    have e2' := eq_of_heq e2'
    subst e1' e2'
    have hu : LfOK Z w pl L.nx (.aref o' : Leaf G) (a.eval x) := evalO_ok S hx
    refine ⟨hg, hu.1.2, ?_⟩
    obtain ⟨kt', vt', ks', vs', e1, e2, r, es, k1, k2, k3⟩ := S.mem.ob o' _ hg
    injection e1 with e1 e1'
    injection e2 with e2 e2'
    injection e1 with _ e1
    injection e2 with _ e2
    subst e1 e2
    have e1' := eq_of_heq e1'
    have e2' := eq_of_heq e2'
    subst e1' e2'
    exact ⟨r, es, k1, k2, k3⟩
   ·cases h
  ·cases h
 ·cases h
theorem mpT_ok (ht : TabOK P G) {T : TypeId} {kt vt : Ty} (h : mpT (G.tab T) = some (kt, vt)) : keyT kt = true ∧ scalT vt = true ∧ ∃ k e i, P.underlying T = some (.map k e) ∧ P.underlying k = some (descOf kt) ∧ P.info? e = some i ∧ i.zero = some (zv (.t vt)) := by
 unfold mpT at h
 split at h
 ·rename_i kt' vt' fl ag ty hT
  split at h
  ·rename_i h1 h2
   simp only [Option.some.injEq, Prod.mk.injEq] at h
   obtain ⟨rfl, rfl⟩ := h
   exact ⟨h1, h2, (ht T _ hT).mp kt' vt' rfl h1 h2⟩
  ·cases h
 ·cases h
section lists
variable {kt vt : Ty}
theorem MapC.length : ∀ {ks : List (G.D kt)} {vs : List (G.D vt)} {es : List MapEntry} {i : Nat}, MapC G kt vt ks vs es i → ks.length = es.length ∧ vs.length = es.length
 | [], [], [], _, _ => ⟨rfl, rfl⟩
 | k :: ks, v :: vs, e :: es, i, h => by
  obtain ⟨a, b⟩ := MapC.length h.2.2.2
  exact ⟨by rw [List.length_cons, List.length_cons, a], by rw [List.length_cons, List.length_cons, b]⟩
 | [], [], _ :: _, _, h => h.elim
 | [], _ :: _, _, _, h => h.elim
 | _ :: _, [], _, _, h => h.elim
 | _ :: _, _ :: _, [], _, h => h.elim
theorem MapC.at : ∀ {ks : List (G.D kt)} {vs : List (G.D vt)} {es : List MapEntry} {i : Nat}, MapC G kt vt ks vs es i → ∀ (j : Nat) e, es[j]? = some e → ∃ k v, ks[j]? = some k ∧ vs[j]? = some v ∧ ScC G kt k e.key ∧ ScC G vt v e.val ∧ e.born = i + j
 | [], [], [], _, _, j, e, he => by simp at he
 | k :: ks, v :: vs, e :: es, i, h, j, e', he => by
  cases j with
  | zero => injection he with he; subst he; exact ⟨k, v, rfl, rfl, h.1, h.2.1, h.2.2.1⟩
  | succ j =>
   obtain ⟨k', v', a, b, c, d, f⟩ := MapC.at h.2.2.2 j e' (by simpa using he)
   exact ⟨k', v', by simpa using a, by simpa using b, c, d, by omega⟩
 | [], [], _ :: _, _, h, _, _, _ => h.elim
 | [], _ :: _, _, _, h, _, _, _ => h.elim
 | _ :: _, [], _, _, h, _, _, _ => h.elim
 | _ :: _, _ :: _, [], _, h, _, _, _ => h.elim
theorem MapC.push {k : G.D kt} {v : G.D vt} {ek ev : Value} (hk : ScC G kt k ek) (hv : ScC G vt v ev) : ∀ {ks : List (G.D kt)} {vs : List (G.D vt)} {es : List MapEntry} {i : Nat}, MapC G kt vt ks vs es i → MapC G kt vt (ks ++ [k]) (vs ++ [v]) (es ++ [⟨ek, ev, i + es.length⟩]) i
 | [], [], [], i, _ => ⟨hk, hv, rfl, trivial⟩
 | k' :: ks, v' :: vs, e :: es, i, h => by
  refine ⟨h.1, h.2.1, h.2.2.1, ?_⟩
  have := MapC.push hk hv h.2.2.2
  rw [show i + (e :: es).length = i + 1 + es.length by rw [List.length_cons]; omega]
  exact this
 | [], [], _ :: _, _, h => h.elim
 | [], _ :: _, _, _, h => h.elim
 | _ :: _, [], _, _, h => h.elim
 | _ :: _, _ :: _, [], _, h => h.elim
theorem MapC.put {v : G.D vt} {ev : Value} (hv : ScC G vt v ev) : ∀ {ks : List (G.D kt)} {vs : List (G.D vt)} {es : List MapEntry} {i : Nat} (j : Nat) (e : MapEntry), MapC G kt vt ks vs es i → es[j]? = some e → MapC G kt vt ks (vs.set j v) (es.set j { e with val := ev }) i
 | [], [], [], i, j, e, _, he => by simp at he
 | k' :: ks, v' :: vs, e :: es, i, j, e', h, he => by
  cases j with
  | zero => injection he with he; subst he; exact ⟨h.1, hv, h.2.2.1, h.2.2.2⟩
  | succ j => exact ⟨h.1, h.2.1, h.2.2.1, MapC.put hv j e' h.2.2.2 (by simpa using he)⟩
 | [], [], _ :: _, _, _, _, h, _ => h.elim
 | [], _ :: _, _, _, _, _, h, _ => h.elim
 | _ :: _, [], _, _, _, _, h, _ => h.elim
 | _ :: _, _ :: _, [], _, _, _, h, _ => h.elim
theorem MapC.keys (hk : keyT kt = true) {ks : List (G.D kt)} {vs : List (G.D vt)} {es : List MapEntry} {i : Nat} (h : MapC G kt vt ks vs es i) : ∀ x ∈ es, IsKey (descOf kt) x.key := by
 intro x hx
 obtain ⟨j, hj⟩ := List.getElem?_of_mem hx
 obtain ⟨k, v, _, _, h1, _⟩ := h.at j x hj
 exact h1.key hk
theorem findNow_idx (hk : keyT kt = true) {k : G.D kt} {kv : Value} (hkv : ScC G kt k kv) : ∀ {ks : List (G.D kt)} {vs : List (G.D vt)} {es : List MapEntry} {i : Nat} (n : Nat), MapC G kt vt ks vs es i →
  (mIdx kt ks k = none ∧ Instr.findNow (descOf kt) kv es n = some none) ∨ ∃ j e, mIdx kt ks k = some j ∧ es[j]? = some e ∧ e.key = kv ∧ Instr.findNow (descOf kt) kv es n = some (some (n + j, e.val))
 | [], [], [], i, n, _ => .inl ⟨(by cases kt <;> first | rfl | cases hk), rfl⟩
 | k' :: ks, v' :: vs, e :: es, i, n, h => by
  obtain ⟨q, hq, hiff⟩ := sameNow_of_keys (hkv.key hk) (h.1.key hk)
  have hidx : (kv = e.key → mIdx kt (k' :: ks) k = some 0) ∧ (¬ kv = e.key → mIdx kt (k' :: ks) k = (mIdx kt ks k).map (· + 1)) := by
   have h1 := h.1
   cases kt with
   | int kk =>
    have h1 : e.key = .int kk k' := h1
    have h2 : kv = .int kk k := hkv
    rw [h1, h2]
    refine ⟨fun hc => ?_, fun hc => ?_⟩
    ·injection hc with _ hc
     exact if_pos (show (k' : Int) = (k : Int) from hc.symm)
    ·exact if_neg (fun e : (k' : Int) = (k : Int) => hc (by rw [e]))
   | str =>
    have h1 : e.key = .string k' := h1
    have h2 : kv = .string k := hkv
    rw [h1, h2]
    refine ⟨fun hc => ?_, fun hc => ?_⟩
    ·injection hc with hc
     exact if_pos (show (show ByteArray from k').toList = (show ByteArray from k).toList by rw [← hc])
    ·exact if_neg (fun e : (show ByteArray from k').toList = (show ByteArray from k).toList => hc (by rw [K.toList_inj.1 e]))
   | _ => cases hk
  cases q with
  | true =>
   have he : kv = e.key := hiff.1 rfl
   refine .inr ⟨0, e, by rw [hidx.1 he], rfl, he.symm, ?_⟩
   simp [Instr.findNow, hq]
  | false =>
   have he : ¬ kv = e.key := fun h => by have := hiff.2 h; cases this
   rcases findNow_idx hk hkv (n + 1) h.2.2.2 with ⟨h1, h2⟩ | ⟨j, e', h1, h2, h3, h4⟩
   ·exact .inl ⟨by rw [hidx.2 he, h1]; rfl, by simp [Instr.findNow, hq, h2]⟩
   ·refine .inr ⟨j + 1, e', by rw [hidx.2 he, h1]; rfl, by simpa using h2, h3, ?_⟩
    simp only [Instr.findNow, hq, h4]
    rw [show n + (j + 1) = n + 1 + j by omega]
 | [], [], _ :: _, _, _, h => h.elim
 | [], _ :: _, _, _, _, h => h.elim
 | _ :: _, [], _, _, _, h => h.elim
 | _ :: _, _ :: _, [], _, _, h => h.elim
end lists
theorem mo_fr (S : Sat N W w0 Z pl L a w) {i b : Nat} {t u : Ty} {x : G.D t} {y : G.D u} {tg : Option (Nat × Option Int)} {ob : Obj} (hg : get L.objs i = some (.mo t u x y tg)) (hb : bk (pl i) = some b) (hd : w.heap[b]? = some ob) (hnc : ∀ cs T fr, ob ≠ .cells cs T fr)
  {w' : World} (e1 : w'.os = w.os) (e2 : w'.tape = w.tape) (e3 : w'.output = w.output) (hs : w.heap.size ≤ w'.heap.size) (hw : ∀ k, k ≠ b → w'.heap[k]? = w.heap[k]?) : Fr W w0.heap.size w w' := by
 have hown := S.mem.own i _ b hg rfl hb
 refine ⟨e1, e2, e3, hs, fun k hk hW => hw k (fun e => ?_), fun k cs T fr hk hn hc => ?_⟩
 ·subst e
  rcases hown with h | h
  ·omega
  ·exact hW 0 (h 0)
 ·by_cases e : k = b
  ·subst e
   rw [hd] at hc
   injection hc with hc
   exact absurd hc (hnc _ _ _)
  ·exact ⟨cs, by rw [hw k e]; exact hc, rfl, fun _ _ => rfl⟩
theorem op_putMap (ht : TabOK P G) {T : TypeId} {m k v : Operand} (h : putMap E o T m k v L K = some r) (exe : ∀ w1, (Instr.mapUpdate T (a.eval m) (a.eval k) (a.eval v)).run P w = .ok () w1 → (execOp a.eval o).run P w = .ok .skip w1)
  (S : Sat E.N W w0 Z pl L a w) (hK : Then E W w0 K r next) : o.wp P a w next Q := by
 unfold putMap at h
 split at h
 ·rename_i kt vt hmp
  obtain ⟨hkt, hvt, kT, eT, ie, hu, huk, _, _⟩ := mpT_ok ht hmp
  split at h
  ·rename_i i ks vs k' v' hm hk hv
   cases L with
   | mk tm ob nx =>
   obtain ⟨hg, hev, rr, es, hp, hheap, hC⟩ := mapOf_ok S hm
   have hkv := scV_ok S hk
   have hvv := scV_ok S hv
   have hkey := hkv.key hkt
   have hbk : bk (pl i) = some rr := by rw [hp]; rfl
   have fin : ∀ es' : Array MapEntry, (Instr.mapUpdate T (a.eval m) (a.eval k) (a.eval v)).run P w = .ok () (setBlock w rr (.map es' es'.size)) → MapC G kt vt (mKs (mIdx kt ks k') ks k') (mVs (mIdx kt ks k') vs v') es'.toList 0 → o.wp P a w next Q := by
    intro es' hrun hC'
    have hset := heap_set (o' := Obj.map es' es'.size) hheap
    have hfr := mo_fr S hg hbk hheap (fun _ _ _ e => by cases e) (w' := setBlock w rr (.map es' es'.size)) rfl rfl rfl (by simp [setBlock]) hset.2
    have S2 := S.write (w' := setBlock w rr (.map es' es'.size)) (ob' := .mo (.sl 0 kt) (.sl 0 vt) (mKs (mIdx kt ks k') ks k') (mVs (mIdx kt ks k') vs v') none) hg rfl hbk hset.2 hfr (fun _ h => h)
     (fun _ => ⟨kt, vt, _, _, rfl, rfl, rr, es', hp, hset.1, hC'⟩)
    exact wp_skip' (exe _ hrun) (out_ok h S2 (show DVOK _ _ _ _ DV.und undef from rfl) hK)
   rcases findNow_idx hkt hkv 0 hC with ⟨h1, h2⟩ | ⟨j, e, h1, h2, h3, h4⟩
   ·refine fin (es.push { key := a.eval k, val := a.eval v, born := es.size }) ?_ ?_
    ·rw [hev, hp]
     simp [Instr.mapUpdate, run_underlying hu, MapKept.run_getObj_map hheap, run_checkKey huk hkey, run_findKey huk h2, MapKept.run_setObj_map _ hheap, Result.andThen, setBlock]
    ·rw [h1]
     have := MapC.push hkv hvv hC
     simpa [mKs, mVs] using this
   ·have hj : es[j]? = some e := by simpa using h2
    refine fin (es.modify j fun e => { e with key := a.eval k, val := a.eval v }) ?_ ?_
    ·rw [hev, hp]
     simp [Instr.mapUpdate, run_underlying hu, MapKept.run_getObj_map hheap, run_checkKey huk hkey, run_findKey huk h4, hj, h3, run_keyThatStays hkey, MapKept.run_setObj_map _ hheap, Result.andThen, setBlock]
    ·rw [h1]
     have := MapC.put hvv j e hC h2
     have e1 : (es.modify j fun e => { e with key := a.eval k, val := a.eval v }).toList = es.toList.set j { e with val := a.eval v } := by
      apply List.ext_getElem?
      intro n
      rw [Array.getElem?_toList, Array.getElem?_modify, List.getElem?_set]
      have hlt : j < es.toList.length := (List.getElem?_eq_some_iff.1 h2).1
      by_cases hn : j = n
      ·subst hn
       rw [if_pos rfl, if_pos rfl, if_pos hlt, hj, ← h3]
       rfl
      ·rw [if_neg hn, if_neg hn, Array.getElem?_toList]
     rw [e1]
     exact this
  ·cases h
 ·cases h
theorem op_makeM (ht : TabOK P G) {T : TypeId} (h : makeM E o T L K = some r) (exe : ∀ u w1, (Instr.makeMap T none).run P w = .ok u w1 → (execOp a.eval o).run P w = .ok (.value u) w1)
  (S : Sat E.N W w0 Z pl L a w) (hK : Then E W w0 K r next) : o.wp P a w next Q := by
 unfold makeM at h
 split at h
 ·rename_i kt vt hmp
  cases L with
  | mk tm ob nx =>
  simp only [newOb] at h
  let v : Value := .map (some w.heap.size)
  have hpl : upd pl nx v nx = v := upd_same _ _ _
  obtain ⟨M, X⟩ := S.mem.newP (w' := w.alloc (.map #[] 0)) (.mo (.sl 0 kt) (.sl 0 vt) ([] : List (G.D kt)) ([] : List (G.D vt)) none) (.map #[] 0) v rfl (Fr.of_grown (World.grownBy_alloc w _ none) S.mem.fr.size (fun k hk => by cases hk)) (fun k hk => Below.heap_alloc w _ _ hk)
   ⟨kt, vt, [], [], rfl, rfl, w.heap.size, #[], hpl, by rw [heap_alloc_new]; rfl, trivial⟩
  exact op_value (exe _ _ (run_makeMap_plain w T)) h (S.at X M rfl) ⟨⟨Nat.lt_succ_self _, hpl.symm⟩, rfl⟩ hK
 ·cases h
theorem op_lookM (ht : TabOK P G) {T : TypeId} {x k : Operand} (h : lookK E o T x k L K = some r) (exe : ∀ u, (Instr.lookup T (a.eval x) (a.eval k) false).run P w = .ok u w → (execOp a.eval o).run P w = .ok (.value u) w)
  (S : Sat E.N W w0 Z pl L a w) (hK : Then E W w0 K r next) : o.rd P a w next := by
 unfold lookK at h
 split at h
 ·rename_i kt vt hmp
  obtain ⟨hkt, hvt, kT, eT, ie, hu, huk, hie, hz⟩ := mpT_ok ht hmp
  split at h
  ·rename_i i ks vs k' hm hk
   obtain ⟨hg, hev, rr, es, hp, hheap, hC⟩ := mapOf_ok S hm
   have hkv := scV_ok S hk
   have hkey := hkv.key hkt
   have hzero : (zeroValue eT).run P w = .ok (zv (.t vt)) w := by simp [zeroValue, typeInfo, hie, hz]
   rcases findNow_idx hkt hkv 0 hC with ⟨h1, h2⟩ | ⟨j, e, h1, h2, h3, h4⟩
   ·rw [h1] at h
    have hd : ScC G vt (dft G vt) (zv (.t vt)) := by cases vt <;> first | rfl | cases hvt
    refine op_read (u := zv (.t vt)) (exe _ ?_) h S hd.rep hK
    rw [hev, hp]
    simp [Instr.lookup, run_underlying hu, MapKept.run_getObj_map hheap, run_checkKey huk hkey, run_findKey huk h2, Result.andThen, hzero]
   ·rw [h1] at h
    obtain ⟨k2, v2, _, g2, _, g4, _⟩ := hC.at j e h2
    have hgv : mGet (some j) vs (dft G vt) = v2 := by simp [mGet, List.getD_eq_getElem?_getD, g2]
    rw [hgv] at h
    refine op_read (u := e.val) (exe _ ?_) h S g4.rep hK
    rw [hev, hp]
    simp [Instr.lookup, run_underlying hu, MapKept.run_getObj_map hheap, run_checkKey huk hkey, run_findKey huk h4, Result.andThen]
  ·cases h
 ·cases h
theorem op_lenM (ht : TabOK P G) {T ty : TypeId} {x : Operand} (h : lenM E o T x L K = some r) (exe : ∀ u, (Builtin.len_ #[T] ty #[a.eval x]).run P w = .ok u w → (execOp a.eval o).run P w = .ok (.value u) w)
  (S : Sat E.N W w0 Z pl L a w) (hK : Then E W w0 K r next) : o.rd P a w next := by
 unfold lenM at h
 split at h
 ·rename_i kt vt hmp
  obtain ⟨hkt, hvt, kT, eT, ie, hu, huk, hie, hz⟩ := mpT_ok ht hmp
  split at h
  ·rename_i i ks vs hm
   obtain ⟨hg, hev, rr, es, hp, hheap, hC⟩ := mapOf_ok S hm
   have hl : ks.length = es.size := hC.length.1
   refine op_read (u := .int .i64 (ks.length : Int)) (exe _ ?_) h S (val_int .i64 _) hK
   rw [hev, hp, hl]
   simp [Builtin.len_, run_underlying hu, MapKept.run_getObj_map hheap, Result.andThen, goInt]
  ·cases h
 ·cases h
theorem upTo_rest (n : Nat) : upTo n = restOf n #[] := by
 unfold upTo restOf
 congr 1
 symm
 rw [List.filter_eq_self]
 intro a _
 simp
theorem op_rangeM (ht : TabOK P G) {T : TypeId} {x : Operand} (h : rangeK E o T x L K = some r) (exe : ∀ u w1, (Instr.range T (a.eval x)).run P w = .ok u w1 → (execOp a.eval o).run P w = .ok (.value u) w1)
  (S : Sat E.N W w0 Z pl L a w) (hK : Then E W w0 K r next) : o.wp P a w next Q := by
 unfold rangeK at h
 split at h
 ·rename_i kt vt hmp
  obtain ⟨hkt, hvt, kT, eT, ie, hu, huk, hie, hz⟩ := mpT_ok ht hmp
  split at h
  ·rename_i m ks vs hm
   obtain ⟨hg, hev, rr, es, hp, hheap, hC⟩ := mapOf_ok S hm
   have hl : ks.length = es.size := hC.length.1
   cases L with
   | mk tm ob nx =>
   simp only [newOb] at h
   have hmlt : m < nx := S.mem.lt m _ hg
   let v : Value := .pointer (some ⟨w.heap.size, 0, none⟩)
   have hpl : upd pl nx v nx = v := upd_same _ _ _
   have hpm : upd pl nx v m = pl m := upd_far pl v (Nat.ne_of_lt hmlt)
   obtain ⟨M, X⟩ := S.mem.newP (w' := w.alloc (.mapIter (some rr) es.size #[] es.size)) (.mo (.int .i64) (.sl 0 (.int .i64)) (ks.length : Int) (upTo ks.length) (some (m, none))) (.mapIter (some rr) es.size #[] es.size) v rfl (Fr.of_grown (World.grownBy_alloc w _ none) S.mem.fr.size (fun k hk => by cases hk)) (fun k hk => Below.heap_alloc w _ _ hk)
    ⟨Nat.lt_succ_of_lt hmlt, ks.length, upTo ks.length, rfl, rfl, w.heap.size, rr, #[], by rw [hpm]; exact hp, hpl, by rw [heap_alloc_new, hl], upTo_rest _, fun c hc => by cases hc⟩
   exact op_value (exe _ _ (by rw [hev, hp]; exact run_range_map w T kT eT rr es es.size hu hheap)) h (S.at X M rfl) ⟨⟨Nat.lt_succ_self _, hpl.symm⟩, rfl⟩ hK
  ·cases h
 ·cases h
theorem iterOf_ok (S : Sat N W w0 Z pl L a w) {x : Operand} {i m : Nat} {n : Int} {rest : List Int} {c : Option Int} (h : iterOf L (evalO L x) = some (i, m, n, rest, c)) :
  get L.objs i = some (.mo (.int .i64) (.sl 0 (.int .i64)) n rest (some (m, c))) ∧ a.eval x = pl i ∧ ∃ (n' : Nat) (rr mr : Nat) (seen : Array Nat), n = (n' : Int) ∧ m < L.nx ∧ pl m = .map (some mr) ∧ pl i = .pointer (some ⟨rr, 0, none⟩) ∧ w.heap[rr]? = some (.mapIter (some mr) n' seen n') ∧ rest = restOf n' seen ∧
   ∀ d, c = some d → ∃ k : Nat, d = (k : Int) ∧ k < n' ∧ seen.back? = some k := by
 unfold iterOf at h
 split at h
 ·rename_i o' hx
  split at h
  ·rename_i n1 rest1 m1 c1 hg
   simp only [Option.some.injEq, Prod.mk.injEq] at h
   obtain ⟨rfl, rfl, rfl, rfl, rfl⟩ := h
   have hu : LfOK Z w pl L.nx (.aref o' : Leaf G) (a.eval x) := evalO_ok S hx
   refine ⟨hg, hu.1.2, ?_⟩
   obtain ⟨hm, n', rest', e1, e2, rr, mr, seen, k1, k2, k3, k4, k5⟩ := S.mem.ob o' _ hg
   injection e1 with _ e1
   injection e2 with _ e2
   exact ⟨n', rr, mr, seen, e1, hm, k1, k2, k3, (show rest = rest' from e2).trans k4, k5⟩
  ·cases h
 ·cases h
theorem mapAt_ok (S : Sat N W w0 Z pl L a w) {m : Nat} {kt vt : Ty} {ks : List (G.D kt)} {vs : List (G.D vt)} (h : mapAt L m = some ⟨kt, vt, ks, vs⟩) :
  keyT kt = true ∧ scalT vt = true ∧ ∃ r es, pl m = .map (some r) ∧ w.heap[r]? = some (.map es es.size) ∧ MapC G kt vt ks vs es.toList 0 := by
 unfold mapAt at h
 split at h
 ·rename_i e1 kt' e2 vt' ks' vs' hg
  split at h
  ·rename_i hk hv
   cases h
   obtain ⟨kt', vt', ks', vs', e1, e2, r, es, k1, k2, k3⟩ := S.mem.ob m _ hg
   injection e1 with e1 e1'
   injection e2 with e2 e2'
   injection e1 with _ e1
   injection e2 with _ e2
   subst e1 e2
   have e1' := eq_of_heq e1'
   have e2' := eq_of_heq e2'
   subst e1' e2'
   exact ⟨hk, hv, r, es, k1, k2, k3⟩
  ·cases h
 ·cases h
theorem restOf_push (n : Nat) (seen : Array Nat) (j : Nat) : restOf n (seen.push j) = (restOf n seen).filter fun x => decide (x ≠ (j : Int)) := by
 unfold restOf
 rw [List.filter_map, List.filter_filter]
 congr 1
 apply List.filter_congr
 intro k _
 by_cases h : k = j
 ·subst h; simp
 ·have h' : ¬ (Int.ofNat k = (j : Int)) := fun e => h (Int.ofNat.inj (show Int.ofNat k = Int.ofNat j from e))
  simp [h]
  exact fun _ e => h' e
theorem pickAll_some {rest : List Int} {F : Int → List Int → Option R} (h : pickAll rest F = some r) : ∀ c, c ∈ rest → F c (rest.filter fun x => decide (x ≠ c)) = some r := by
 unfold pickAll at h
 split at h
 ·rename_i hh
  injection h with h
  intro c hc
  have := (Classical.choose_spec hh).2 c hc
  rw [this, h]
 ·cases h
theorem op_nextM {x : Operand} {ty : TypeId} (h : nextK E o x L K = some r) (exe : ∀ u w1, (Instr.next (a.eval x) false ty).run P w = .ok u w1 → (execOp a.eval o).run P w = .ok (.value u) w1)
  (S : Sat E.N W w0 Z pl L a w) (hK : Then E W w0 K r next) : o.wp P a w next Q := by
 unfold nextK at h
 split at h
 ·rename_i i m n rest c hit
  obtain ⟨hg, hev, n', rr, mr, seen, rfl, hm, hpm, hpi, hheap, hrest, _⟩ := iterOf_ok S hit
  split at h
  ·rename_i kt vt ks vs hat
   obtain ⟨hkt, hvt, r2, es, hpm2, hmap, hC⟩ := mapAt_ok S hat
   rw [hpm] at hpm2
   injection hpm2 with hpm2
   injection hpm2 with hpm2
   subst hpm2
   split at h
   ·rename_i hn
    have hlen : es.toList.length = n' := by have := hC.length.1; omega
    have hsz : es.size = n' := by rw [← hlen]; exact Array.length_toList.symm
    have born : ∀ e ∈ es.toList, ∃ j, j < n' ∧ es.toList[j]? = some e ∧ e.born = j := by
     intro e he
     obtain ⟨j, hj⟩ := List.getElem?_of_mem he
     obtain ⟨_, _, _, _, _, _, hb⟩ := hC.at j e hj
     exact ⟨j, by rw [← hlen]; exact (List.getElem?_eq_some_iff.1 hj).1, hj, by omega⟩
    have hold : ∀ x ∈ es.toList, x.born < n' := fun e he => by obtain ⟨j, h1, _, h3⟩ := born e he; omega
    have hleft : ∀ e, e ∈ (leftOf es seen).toList ↔ e ∈ es.toList ∧ ¬ seen.contains e.born = true := by
     intro e
     unfold leftOf
     rw [Array.toList_filter, List.mem_filter]
     simp
    rcases run_next_at (P := P) w ty rr mr n' n' seen es es.size hheap hmap hold (Nat.le_refl _) with ⟨h0, hrun⟩ | ⟨e, he, w1, hw1, hrun⟩
    ·have hr : rest = [] := by
      rw [hrest]
      unfold restOf
      rw [List.map_eq_nil_iff, List.filter_eq_nil_iff]
      intro j hj
      have hj : j < n' := List.mem_range.1 hj
      have hlt : j < es.toList.length := by omega
      obtain ⟨e, hej⟩ : ∃ e, es.toList[j]? = some e := ⟨_, List.getElem?_eq_getElem hlt⟩
      obtain ⟨_, _, _, _, _, _, hb⟩ := hC.at j e hej
      have hnot : e ∉ (leftOf es seen).toList := by
       have : (leftOf es seen).toList = [] := List.eq_nil_of_length_eq_zero (by rw [Array.length_toList]; exact h0)
       rw [this]; exact List.not_mem_nil
      rw [hleft] at hnot
      have hm' : e ∈ es.toList := List.mem_of_getElem? hej
      have hc : seen.contains e.born = true := Classical.byContradiction fun hc => hnot ⟨hm', hc⟩
      rw [hb, Nat.zero_add] at hc
      simp only [hc]
      simp
     rw [if_pos hr] at h
     rw [← hpi, ← hev] at hrun
     exact op_value (exe _ _ hrun) h S ⟨[.bool false], rfl, .bool false, [], rfl, ⟨rfl, rfl⟩, rfl⟩ hK
    ·obtain ⟨he1, he2⟩ := (hleft e).1 he
     obtain ⟨j, hj, hej, hb⟩ := born e he1
     have hmem : (j : Int) ∈ rest := by
      rw [hrest]
      unfold restOf
      refine List.mem_map.2 ⟨j, List.mem_filter.2 ⟨List.mem_range.2 hj, ?_⟩, rfl⟩
      rw [hb] at he2
      simpa using he2
     have hne : rest ≠ [] := fun e => by rw [e] at hmem; cases hmem
     rw [if_neg hne] at h
     have h := pickAll_some h (j : Int) hmem
     obtain ⟨k1, v1, g1, g2, g3, g4, _⟩ := hC.at j e hej
     cases L with
     | mk tm ob nx =>
     simp only at h
     have hrk : rdAt (dft G kt) ks (j : Int) = k1 := by simp [rdAt, List.getD_eq_getElem?_getD, g1]
     have hrv : rdAt (dft G vt) vs (j : Int) = v1 := by simp [rdAt, List.getD_eq_getElem?_getD, g2]
     rw [hrk, hrv] at h
     have hh1 : w1.heap = w.heap ∧ w1.os = w.os ∧ w1.tape = w.tape ∧ w1.output = w.output := by rcases hw1 with rfl | rfl <;> exact ⟨rfl, rfl, rfl, rfl⟩
     have hheap1 : w1.heap[rr]? = some (.mapIter (some mr) n' seen n') := by rw [hh1.1]; exact hheap
     have hset := heap_set (o' := Obj.mapIter (some mr) n' (seen.push e.born) es.size) hheap1
     have hbk : bk (pl i) = some rr := by rw [hpi]; rfl
     have hother : ∀ k, k ≠ rr → (setBlock w1 rr (.mapIter (some mr) n' (seen.push e.born) es.size)).heap[k]? = w.heap[k]? := fun k hk => by rw [← hh1.1]; exact hset.2 k hk
     have hfr := mo_fr S hg hbk hheap (fun _ _ _ e => by cases e) (w' := setBlock w1 rr (.mapIter (some mr) n' (seen.push e.born) es.size)) hh1.2.1 hh1.2.2.1 hh1.2.2.2 (by simp [setBlock, hh1.1]) hother
     have S2 := S.write (w' := setBlock w1 rr (.mapIter (some mr) n' (seen.push e.born) es.size)) (ob' := .mo (.int .i64) (.sl 0 (.int .i64)) (n' : Int) (show List Int from rest.filter fun x : Int => decide (x ≠ (j : Int))) (some (m, some (j : Int)))) hg rfl hbk hother hfr (fun _ h => h)
      (fun _ => ⟨hm, n', _, rfl, rfl, rr, mr, seen.push e.born, hpm, hpi, by rw [hsz] at hset; rw [hsz]; exact hset.1, by rw [hb, restOf_push, ← hrest], fun d hd => by
       injection hd with hd
       exact ⟨j, hd.symm, hj, by rw [hb]; simp⟩⟩)
     rw [← hpi, ← hev] at hrun
     exact op_value (exe _ _ hrun) h S2 ⟨[.bool true, e.key, e.val], rfl, .bool true, [e.key, e.val], rfl, ⟨rfl, rfl⟩, e.key, [e.val], rfl, g3.rep, e.val, [], rfl, g4.rep, rfl⟩ hK
   ·cases h
  ·cases h
 ·cases h
theorem op_entryM {x : Operand} (h : entryK E o x L K = some r) (exe : ∀ u, (Instr.entry (a.eval x)).run P w = .ok u w → (execOp a.eval o).run P w = .ok (.value u) w)
  (S : Sat E.N W w0 Z pl L a w) (hK : Then E W w0 K r next) : o.rd P a w next := by
 unfold entryK at h
 split at h
 ·rename_i i m n rest c hit
  obtain ⟨hg, hev, n', rr, mr, seen, rfl, hm, hpm, hpi, hheap, hrest, hcur⟩ := iterOf_ok S hit
  split at h
  ·rename_i kt vt ks vs hat
   obtain ⟨hkt, hvt, r2, es, hpm2, hmap, hC⟩ := mapAt_ok S hat
   rw [hpm] at hpm2
   injection hpm2 with hpm2
   injection hpm2 with hpm2
   subst hpm2
   split at h
   ·rename_i hn
    have hlen : es.toList.length = n' := by have := hC.length.1; omega
    have hsz : es.size = n' := by rw [← hlen]; exact Array.length_toList.symm
    obtain ⟨j, rfl, hj, hback⟩ := hcur c rfl
    have hlt : j < es.toList.length := by omega
    obtain ⟨e, hej⟩ : ∃ e, es.toList[j]? = some e := ⟨_, List.getElem?_eq_getElem hlt⟩
    obtain ⟨k1, v1, g1, g2, g3, g4, hb⟩ := hC.at j e hej
    rw [Nat.zero_add] at hb
    have hrk : rdAt (dft G kt) ks (j : Int) = k1 := by simp [rdAt, List.getD_eq_getElem?_getD, g1]
    have hrv : rdAt (dft G vt) vs (j : Int) = v1 := by simp [rdAt, List.getD_eq_getElem?_getD, g2]
    rw [hrk, hrv] at h
    have hseen : ∃ s0 : Array Nat, seen = s0.push j := by
     refine ⟨seen.pop, ?_⟩
     have h1 := Array.back?_eq_some_iff.1 hback
     obtain ⟨xs, hx⟩ := h1
     rw [hx]; simp
    obtain ⟨s0, hs0⟩ := hseen
    have hnd : (es.toList.map (·.born)).Nodup := by
     have : es.toList.map (·.born) = List.range es.toList.length := by
      apply List.ext_getElem?
      intro q
      rw [List.getElem?_map]
      by_cases hq : q < es.toList.length
      ·have hq' : es.toList[q]? = some es.toList[q] := List.getElem?_eq_getElem hq
       obtain ⟨_, _, _, _, _, _, hb'⟩ := hC.at q _ hq'
       rw [hq', List.getElem?_range hq]
       simp only [Option.map_some, Option.some.injEq]
       omega
      ·rw [List.getElem?_eq_none (by omega), List.getElem?_eq_none (by rw [List.length_range]; omega)]
       rfl
     rw [this]; exact List.nodup_range
    have hrun := run_entry_at (P := P) w rr mr n' s0 es es.size e (by rw [hb, ← hs0, hsz]; exact hheap) hmap (List.mem_of_getElem? hej) hnd
    rw [← hpi, ← hev] at hrun
    exact op_read (exe _ hrun) h S ⟨[e.key, e.val], rfl, e.key, [e.val], rfl, g3.rep, e.val, [], rfl, g4.rep, rfl⟩ hK
   ·cases h
  ·cases h
 ·cases h
end Go.Proofs.YtmcbhnbemhfifaaDoor.RX
end
section
namespace Go.Proofs.YtmcbhnbemhfifaaDoor.RX
open Go Go.RowKit
set_option autoImplicit false
variable {G : Sig} {R : Type} {P : Program} {W : Rights} {w0 w w' : World} {Z Z' : Nat → Nat → Prop} {pl pl' : Nat → Value} {N : Nat} {objs : List (Nat × Ob G)} {nx : Nat} {f : Nat → List Nat}
variable {E : Env G R} {o : Oper} {L : St G} {K : St G → Option R} {r : R} {a : Act} {next : Act → World → Prop} {Q : Exit → Act → World → Prop}
theorem takeT_ok {tm : List (Nat × DV G)} {ob : List (Nat × Ob G)} {e : TypeId} {t : Ty} {s : SV G} {xs : List (G.D t)} {L' : St G} (h : takeT ⟨tm, ob, nx⟩ e t s = some (xs, L')) (M : Mem W w0 Z pl ob nx w) (T : TrOK W w0.heap.size Z pl ob nx w f) {D : List Nat} (hD : Det W w0.heap.size Z pl ob w f D)
  {u : Value} (hu : SVOK Z w pl nx s u) : ∃ ob' f' fq vs fp, L' = ⟨tm, ob', nx⟩ ∧ Mem W w0 Z pl ob' nx w ∧ TrOK W w0.heap.size Z pl ob' nx w f' ∧ Det W w0.heap.size Z pl ob' w f' (D ++ fq) ∧ w.ownsRow 0 e (G.csz t) u xs.length vs ∧ OwnR G Z w t xs vs fp ∧
   ((bk u = none ∧ fp = [] ∧ fq = []) ∨ ∃ b, bk u = some b ∧ fq = b :: fp) := by
 unfold takeT at h
 split at h
 ·simp only [Option.some.injEq, Prod.mk.injEq] at h
  obtain ⟨rfl, rfl⟩ := h
  have hu : u = .slice none 0 0 := hu.1
  subst hu
  exact ⟨ob, f, [], [], [], rfl, M, T, by rw [List.append_nil]; exact hD, World.ownsRow_nil w 0 e _, .nil t, .inl ⟨rfl, rfl, rfl⟩⟩
 ·rename_i o'
  simp only at h
  split at h
  ·rename_i e' t' xs' hg
   split at h
   ·rename_i y hy
    simp only [Option.some.injEq, Prod.mk.injEq] at h
    obtain ⟨rfl, rfl⟩ := h
    have he := castTo_eq hy
    injection he with he1 he2
    injection he1 with he1 he3
    subst he1 he3
    have he2 := eq_of_heq he2
    subst he2
    obtain ⟨q1, q2⟩ := hu.1
    obtain ⟨fq, _, _, T', D', vs, fp, o1, o2, o3⟩ := T.take M hD (.inr hg)
    have o2 := o2 hg
    rw [← q2] at o1 o3
    exact ⟨_, _, fq, vs, fp, rfl, M.kill o' q1, T', D', o1, o2, o3⟩
   ·cases h
  ·cases h
 ·cases h
theorem OwnR.append {t : Ty} : ∀ {xs ys : List (G.D t)} {vs us : List Value} {fp fq : List Nat}, OwnR G Z w t xs vs fp → OwnR G Z w t ys us fq → OwnR G Z w t (xs ++ ys) (vs ++ us) (fp ++ fq) := by
 intro xs
 induction xs with
 | nil => intro ys vs us fp fq h k; cases h; exact k
 | cons x xs ih =>
  intro ys vs us fp fq h k
  cases h with
  | cons _ _ _ cs vs fp fp' hl h1 h2 =>
   rw [List.append_assoc, List.append_assoc]
   exact .cons t x (xs ++ ys) cs _ fp _ hl h1 (ih h2 k)
theorem op_appendT (hs : SigOK G) (ht : TabOK P G) {x y : Operand} {T ty : TypeId} {e : TypeId} {t : Ty} {l1 : List LTy} {l2 : List (Nat × Nat)} {l3 : Bool} (hT : G.tab T = some ⟨l1, l2, l3, some (.sl e t)⟩) (S : Sat E.N W w0 Z pl L a w)
  {s i : SV G} (hx : evalO L x = some s) (hy : evalO L y = some i) (h : appendT E o e t s i L K = some r)
  (exe : ∀ u w', (Builtin.append_ #[T, T] ty #[a.eval x, a.eval y]).run P w = .ok u w' → (execOp a.eval o).run P w = .ok (.value u) w') (hK : Then E W w0 K r next) : o.wp P a w next Q := by
 obtain ⟨hu, ie, z, hie, hsz, hzr, hzs, hpos, hcap, hcm⟩ := (ht T _ hT).sl e t rfl
 unfold appendT at h
 split at h
 ·rename_i xs L1 h1
  split at h
  ·rename_i ys L2 h2
   split at h
   ·rename_i hc
    cases L with
    | mk tm ob nx =>
    obtain ⟨f, T0⟩ := S.mem.tr
    obtain ⟨ob1, f1, fq1, vs, fp1, rfl, M1, T1, D1, o1, r1, q1⟩ := takeT_ok h1 S.mem T0 Det.nil (evalO_ok S hx)
    obtain ⟨ob2, f2, fq2, us, fp2, rfl, M2, T2, D2, o2, r2, q2⟩ := takeT_ok h2 M1 T1 D1 (evalO_ok S hy)
    rw [List.nil_append] at D2
    have hbytes : (xs.length + ys.length) * ie.bytes ≤ 140737488355328 := Nat.le_trans (Nat.mul_le_mul_right _ hc) hcap
    have h63 : xs.length + ys.length ≤ maxLen := Nat.le_trans hc hcm
    have hul : us.length = ys.length * G.csz t := o2.1
    have hone : ∀ u ∈ us, u.oneCell' = true := r2.rows.one
    have hrun : ∃ v' w', (Builtin.append_ #[T, T] ty #[a.eval x, a.eval y]).run P w = .ok v' w' ∧ w'.ownsRow 0 e (G.csz t) v' (xs.length + ys.length) (vs ++ us) ∧ w.grownBy w' (a.eval x).ownBlock ∧ (v'.ownBlock = (a.eval x).ownBlock ∨ v'.ownBlock = some w.heap.size) := by
     rcases o2.2 with ⟨e1, e2⟩ | ⟨g, cap, cur, e1, _⟩
     ·have hys : ys = [] := List.eq_nil_of_length_eq_zero e2
      subst hys
      have hus : us = [] := List.eq_nil_of_length_eq_zero (by rw [hul]; simp)
      subst hus
      rw [e1]
      refine ⟨a.eval x, w, run_append_none hu hie o1 0, ?_, World.grownBy.refl w _, .inl rfl⟩
      rw [List.append_nil]; exact o1
     ·have hcell := fun j u hj => o2.cells (g := g) (by rw [e1]; rfl) j u hj
      rw [e1]
      obtain ⟨v', w', k1, k2, k3, _, k4⟩ := run_append_own_at (P := P) w 0 T ty e ie z (G.csz t) ie.bytes hu hie hzr hsz rfl hzs hpos (a.eval x) xs.length vs o1 ⟨g, 0, none⟩ ys.length cap us hul (fun j u hj => hcell j u hj) hone h63 hbytes (Nat.zero_le _)
      exact ⟨v', w', k1, k2, k3, k4⟩
    obtain ⟨v', w', k1, k2, k3, k4⟩ := hrun
    simp only [newOb] at h
    have bkx : ∀ k, (a.eval x).ownBlock = some k → k ∈ fq1 := by
     intro k hk
     rw [← bk_own (b := k) o1] at hk
     rcases q1 with ⟨e1, _⟩ | ⟨b, e1, e2⟩
     ·rw [e1] at hk; cases hk
     ·rw [e1] at hk; injection hk with hk; subst hk; rw [e2]; exact List.mem_cons_self
    have hmem := fun k (hk : k ∈ fq1) => D2.mem k (List.mem_append_left _ hk)
    have hfr : Fr W w0.heap.size w w' := Fr.of_grown k3 M2.fr.size (fun k hk => (hmem k (bkx k hk)).2.2.1)
    have stay : ∀ k, k < w.heap.size → (∀ b, (a.eval x).ownBlock = some b → k ≠ b) → w'.heap[k]? = w.heap[k]? := fun k hk hne => k3.block k hk (fun ee => hne k ee.symm rfl)
    have stayB : ∀ o' b k, get ob2 o' = some b → live b = true → bk (pl o') = some k → w'.heap[k]? = w.heap[k]? := fun o' b k hg hl hk => stay k (M2.blt hg hl hk) (fun b' hb' ee => by subst ee; exact (hmem k (bkx k hb')).2.1 o' b hg hl hk)
    have stayF : ∀ o' k, k ∈ f2 o' → w'.heap[k]? = w.heap[k]? := fun o' k hk => stay k (T2.lt o' k hk) (fun b' hb' ee => by subst ee; exact (hmem k (bkx k hb')).1 o' hk)
    have hsub1 : ∀ k, k ∈ fp1 → k ∈ fq1 := fun k hk => by
     rcases q1 with ⟨_, e1, _⟩ | ⟨b, _, e1⟩
     ·rw [e1] at hk; cases hk
     ·rw [e1]; exact List.mem_cons_of_mem _ hk
    have hsub2 : ∀ k, k ∈ fp2 → k ∈ fq2 := fun k hk => by
     rcases q2 with ⟨_, e1, _⟩ | ⟨b, _, e1⟩
     ·rw [e1] at hk; cases hk
     ·rw [e1]; exact List.mem_cons_of_mem _ hk
    have nd := D2.nd
    have nd1 : fp1.Nodup := by
     rw [List.nodup_append] at nd
     rcases q1 with ⟨_, e1, _⟩ | ⟨b, _, e1⟩
     ·rw [e1]; exact List.nodup_nil
     ·have := nd.1; rw [e1] at this; exact (List.nodup_cons.1 this).2
    have nd2 : fp2.Nodup := by
     rw [List.nodup_append] at nd
     rcases q2 with ⟨_, e1, _⟩ | ⟨b, _, e1⟩
     ·rw [e1]; exact List.nodup_nil
     ·have := nd.2.1; rw [e1] at this; exact (List.nodup_cons.1 this).2
    have ndd : (fp1 ++ fp2).Nodup := by
     rw [List.nodup_append] at nd ⊢
     exact ⟨nd1, nd2, fun a ha b hb => nd.2.2 a (hsub1 a ha) b (hsub2 b hb)⟩
    have inD : ∀ k, k ∈ fp1 ++ fp2 → k ∈ fq1 ++ fq2 := fun k hk => by
     rcases List.mem_append.1 hk with hk | hk
     ·exact List.mem_append_left _ (hsub1 k hk)
     ·exact List.mem_append_right _ (hsub2 k hk)
    have notroot : ∀ k, k ∈ fp1 ++ fp2 → ∀ b, (a.eval x).ownBlock = some b → k ≠ b := by
     intro k hk b hb ee
     subst ee
     rw [← bk_own (b := k) o1] at hb
     rcases q1 with ⟨e1, _⟩ | ⟨b', e1, e2⟩
     ·rw [e1] at hb; cases hb
     ·rw [e1] at hb
      injection hb with hb
      subst hb
      rw [List.nodup_append] at nd
      rcases List.mem_append.1 hk with hk | hk
      ·have := nd.1; rw [e2] at this; exact (List.nodup_cons.1 this).1 hk
      ·exact nd.2.2 b' (by rw [e2]; exact List.mem_cons_self) b' (hsub2 b' hk) rfl
    have hzs' : ∀ k j, Z k j → w'.heap[k]? = w.heap[k]? := fun k j hz => stay k (M2.zlt k j hz) (fun b' hb' ee => by subst ee; exact (hmem k (bkx k hb')).2.2.2.1 j hz)
    have hO : OwnR G Z w' t (xs ++ ys) (vs ++ us) (fp1 ++ fp2) := (r1.append r2).mono ⟨fun k hk => stay k (D2.mem k (inD k hk)).2.2.2.2 (notroot k hk), fun _ _ h => h, fun k j hz => cell_of_blk (hzs' k j hz) j⟩
    have X := (Ext.of_chg (Z := Z) (pl := pl) (nx := nx) (w' := w') hzs').upd rfl v'
    have hpl : upd pl nx v' nx = v' := upd_same _ _ _
    have hrow : w'.ownsRow 0 e (G.csz t) (upd pl nx v' nx) (xs ++ ys).length (vs ++ us) := by rw [hpl, List.length_append]; exact k2
    have K1 := M2.keep X (fun o' b k hg hl hk => ⟨stayB o' b k hg hl hk, M2.zfar o' b k hg hl hk⟩) (fun k j hz => Nat.lt_of_lt_of_le (M2.zlt k j hz) hfr.size) (fun _ _ h => .inl h) hfr ⟨f2, T2, fun o' k hk => ⟨stayF o' k hk, T2.zfar o' k hk⟩⟩
    have T3 := T2.keep (pl' := upd pl nx v') (nx' := nx + 1) (w' := w') (Z' := Z) M2.lt (Nat.le_succ _) X.hp (fun o' b k hg hl hk => stayB o' b k hg hl hk) X.hZ X.hw (fun o' k hk => ⟨stayF o' k hk, T2.zfar o' k hk⟩) hfr.size
    have hnone : ∀ b, get ob2 nx = some b → False := fun b hb => Nat.lt_irrefl _ (M2.lt nx b hb)
    have T4 := T3.set nx (fp1 ++ fp2) (fun b hb => (hnone b hb).elim) ndd (fun k hk => by
     obtain ⟨a1, a2, a3, a4, a5⟩ := D2.mem k (inD k hk)
     exact .inr ⟨a1, fun o' b hgb hl hb => a2 o' b hgb hl (by rw [← X.hp o' (M2.lt o' b hgb)]; exact hb), a3, a4, Nat.lt_of_lt_of_le a5 hfr.size⟩)
    have hroot : ∀ k, bk v' = some k → (a.eval x).ownBlock = some k ∨ k = w.heap.size := by
     intro k hk
     rw [bk_own (b := k) k2] at hk
     rcases k4 with k4 | k4
     ·rw [hk] at k4; exact .inl k4.symm
     ·rw [hk] at k4; injection k4 with k4; exact .inr k4
    have T5 := T4.put nx (.tr e t (xs ++ ys)) (by
     show ∃ vs, _ ∧ OwnR G Z w' t (xs ++ ys) vs (if nx = nx then fp1 ++ fp2 else f2 nx)
     rw [if_pos rfl]
     exact ⟨_, hrow, hO⟩) (fun _ k hk o' hm => by
     rw [hpl] at hk
     have hm : k ∈ (if o' = nx then fp1 ++ fp2 else f2 o') := hm
     rcases hroot k hk with h | h
     ·split at hm
      ·exact notroot k hm k h rfl
      ·exact (hmem k (bkx k h)).1 o' hm
     ·subst h
      split at hm
      ·exact Nat.lt_irrefl _ (D2.mem _ (inD _ hm)).2.2.2.2
      ·exact Nat.lt_irrefl _ (T2.lt o' _ hm))
    have M : Mem W w0 Z (upd pl nx v') ((nx, .tr e t (xs ++ ys)) :: ob2) (nx + 1) w' := K1.add nx (.tr e t (xs ++ ys)) (Nat.lt_succ_self _) ⟨_, hrow⟩ (fun _ k hk => by
     rw [hpl] at hk
     rcases hroot k hk with h | h
     ·obtain ⟨a1, a2, a3, a4, a5⟩ := hmem k (bkx k h)
      refine ⟨a3, a4, fun o' b' ho' hg' hl' hk' => ?_⟩
      rw [upd_far pl v' ho'] at hk'
      exact a2 o' b' hg' hl' hk'
     ·subst h
      refine ⟨.inl M2.fr.size, fun j hz => Nat.lt_irrefl _ (M2.zlt _ j hz), fun o' b' ho' hg' hl' hk' => ?_⟩
      rw [upd_far pl v' ho'] at hk'
      exact Nat.lt_irrefl _ (M2.blt hg' hl' hk')) ⟨_, T5⟩
    exact op_value (exe v' w' k1) h (S.at (L' := ⟨tm, _, nx + 1⟩) X M rfl) ⟨⟨Nat.lt_succ_self _, hpl.symm⟩, by
     rcases k2.2 with ⟨e1, _⟩ | ⟨g, cap, cur, e1, _⟩ <;> rw [e1] <;> rfl⟩ hK
   ·cases h
  ·cases h
 ·cases h
end Go.Proofs.YtmcbhnbemhfifaaDoor.RX
end
section
namespace Go.Proofs.YtmcbhnbemhfifaaDoor.RX
open Go Go.RowKit
set_option autoImplicit false
variable {G : Sig} {R : Type} {P : Program} {W : Rights} {w0 w w' : World} {Z Z' : Nat → Nat → Prop} {pl pl' : Nat → Value} {N : Nat}
variable {E : Env G R} {o : Oper} {L : St G} {K : St G → Option R} {r : R} {a : Act} {next : Act → World → Prop} {Q : Exit → Act → World → Prop}
theorem toList_one {α : Type} {xs : Array α} {x : α} (h : xs.toList = [x]) : xs = #[x] := by cases xs; simpa using h
theorem toList_two {α : Type} {xs : Array α} {x y : α} (h : xs.toList = [x, y]) : xs = #[x, y] := by cases xs; simpa using h
theorem run_builtin {c : Call} {b : Builtin} (hc : c.callee = .builtin b) (ho : o.op = .call c) : ∃ cs, ∀ w, (execOp a.eval o).run P w = (builtin b c.argTypes o.type cs (c.args.map a.eval)).run P w := by
 refine ⟨c.args.map (fun | .const _ => true | _ => false), fun w => ?_⟩
 unfold execOp
 rw [ho]
 simp only [resolve, hc, Sem.run_bind, Sem.run_pure, Result.andThen_ok, invoke]
 rfl
theorem op_len (ht : TabOK P G) {c : Call} (ho : o.op = .call c) (hc : c.callee = .builtin .len) (hmp : ∀ T, c.argTypes.toList = [T] → mpT (G.tab T) = none) (h : semOp E o L K = some r) (S : Sat E.N W w0 Z pl L a w) (hK : Then E W w0 K r next) : o.pu P a w next := by
 obtain ⟨cs, exe⟩ := run_builtin (P := P) (a := a) hc ho
 simp only [semOp, ho, hc] at h
 split at h
 ·rename_i x T h1 h2
  have e1 := toList_one h1
  have e2 := toList_one h2
  split at h
  ·rename_i s hx
   split at h
   ·rename_i n hn
    refine op_pure (u := .int .i64 n) (fun w' => ?_) h S (val_int .i64 n) hK
    rw [exe, e1, e2]
    have := run_len (P := P) (T' := o.type) ht S hx hn
    simp only [builtin, List.map_toArray, List.map_cons, List.map_nil]
    exact run_v _ (this w')
   ·simp only [lenM, hmp T h2] at h
    cases h
  ·cases h
 ·cases h
theorem op_len1 (ht : TabOK P G) {c : Call} (ho : o.op = .call c) (hc : c.callee = .builtin .len) (h : semOp E o L K = some r) (S : Sat E.N W w0 Z pl L a w) (hK : Then E W w0 K r next) : o.rd P a w next := by
 by_cases hmp : ∀ T, c.argTypes.toList = [T] → mpT (G.tab T) = none
 ·exact pu_rd (op_len ht ho hc hmp h S hK)
 ·obtain ⟨cs, exe⟩ := run_builtin (P := P) (a := a) hc ho
  simp only [semOp, ho, hc] at h
  split at h
  ·rename_i x T h1 h2
   have e1 := toList_one h1
   have e2 := toList_one h2
   split at h
   ·rename_i s hx
    split at h
    ·rename_i n hn
     refine op_read (u := .int .i64 n) ?_ h S (val_int .i64 n) hK
     rw [exe, e1, e2]
     have := run_len (P := P) (T' := o.type) ht S hx hn
     simp only [builtin, List.map_toArray, List.map_cons, List.map_nil]
     exact run_v _ (this w)
    ·refine op_lenM (ty := o.type) ht h (fun u hu => ?_) S hK
     rw [exe, e1, e2]
     simp only [builtin, List.map_toArray, List.map_cons, List.map_nil]
     exact run_v _ hu
   ·cases h
  ·cases h
theorem op_call (hs : SigOK G) (ht : TabOK P G) (hct : ∀ f c, E.ct f = some c → c.Holds P f) {c : Call} (ho : o.op = .call c) (h : semOp E o L K = some r) (S : Sat E.N W w0 Z pl L a w) (hK : Then E W w0 K r next) : o.wp P a w next Q := by
 cases hc : c.callee with
 | invoke x m => simp [semOp, ho, hc] at h
 | builtin b =>
  obtain ⟨cs, exe⟩ := run_builtin (P := P) (a := a) hc ho
  cases b with
  | len => exact rd_wp (op_len1 ht ho hc h S hK)
  | append =>
   simp only [semOp, ho, hc] at h
   split at h
   ·rename_i x y T T' h1 h2
    have e1 := toList_two h1
    have e2 := toList_two h2
    split at h
    ·rename_i hTT
     have hTT := Nat.eq_of_beq_eq_true hTT
     subst hTT
     split at h
     ·rename_i e t hT
      split at h
      ·split at h
       ·rename_i s i hx hy
        refine op_appendT hs ht hT S hx hy h (ty := o.type) (fun u w' hu => ?_) hK
        rw [exe, e1, e2]
        simp only [builtin, List.map_toArray, List.map_cons, List.map_nil]
        exact run_v _ hu
       ·cases h
      split at h
      ·rename_i s i hx hy
       split at h
       ·rename_i ys xs L' hi hg
        split at h
        ·rename_i hcap
         obtain ⟨Z1, S1, e3⟩ := S.frzI i
         refine op_append hs ht hT S1 ((evalO_tm e3).trans hx) ((evalO_tm e3).trans hy) hi hg hcap h (ty := o.type) (fun u w' hu => ?_) hK
         rw [exe, e1, e2]
         simp only [builtin, List.map_toArray, List.map_cons, List.map_nil]
         exact run_v _ hu
        ·cases h
       ·cases h
      ·cases h
     ·cases h
    ·cases h
   ·cases h
  | _ => simp [semOp, ho, hc] at h
 | value x =>
  cases x with
  | func f =>
   simp only [semOp, ho, hc] at h
   split at h
   ·rename_i ct hctf
    split at h
    ·rename_i l hl
     obtain ⟨k1, k2⟩ := argsK_ok S hl
     have hrun : (execOp a.eval o).run P w = (callFunc f (c.args.toList.map a.eval).toArray).run P w := by
      unfold execOp
      rw [ho]
      have : c.args.map a.eval = (c.args.toList.map a.eval).toArray := by cases c.args; simp
      simp only [resolve, hc, Deferred.ofValue, Act.eval, Sem.run_bind, Sem.run_pure, Result.andThen_ok, invoke]
      rw [← this]
      simp only [Array.empty_append, Array.append_empty]
     exact op_callK hs (hct f ct hctf) (vals := c.args.toList.map a.eval) (by rw [k1, List.length_map]) (fun t d hg => by have := (k2 t d hg).2.2; rwa [Nat.sub_zero] at this) h S (fun v w' hh => by rw [hrun]; exact hh) (fun hh => by rw [hrun]; exact hh) hK
    ·cases h
   ·cases h
  | tmp t =>
   simp only [semOp, ho, hc] at h
   split at h
   ·rename_i f caps hg
    split at h
    ·rename_i ct hctf
     split at h
     ·rename_i l hl
      obtain ⟨k1, k2⟩ := argsK_ok S hl
      obtain ⟨⟨q1, q2⟩, _⟩ := S.tm t _ hg
      obtain ⟨m1, m2⟩ := capsK_ok (G := G) (Z := Z) (w := w) (caps := caps) (j := len l) q1
      have hrun : (execOp a.eval o).run P w = (callFunc f (c.args.toList.map a.eval ++ caps.map pl).toArray).run P w := by
       unfold execOp
       rw [ho]
       have : c.args.map a.eval = (c.args.toList.map a.eval).toArray := by cases c.args; simp
       simp only [resolve, hc, Act.eval, q2, Deferred.ofValue, Sem.run_bind, Sem.run_pure, Result.andThen_ok, invoke]
       have e : (#[] : Array Value) ++ c.args.map a.eval ++ (caps.map pl).toArray = (c.args.toList.map a.eval ++ caps.map pl).toArray := by rw [this]; simp
       show (callFunc f (#[] ++ c.args.map a.eval ++ (caps.map pl).toArray)).run P w = _
       rw [e]
      refine op_callK hs (hct f ct hctf) (vals := c.args.toList.map a.eval ++ caps.map pl) (by rw [List.length_append, List.length_append, k1, m1, List.length_map, List.length_map]) (fun t' d hg' => ?_) h S (fun v w' hh => by rw [hrun]; exact hh) (fun hh => by rw [hrun]; exact hh) hK
      rcases get_app hg' with hg' | hg'
      ·obtain ⟨_, n2, n3⟩ := k2 t' d hg'
       rw [Nat.sub_zero] at n3
       rw [List.getD_eq_getElem?_getD] at n3 ⊢
       rw [List.getElem?_append_left (by rw [List.length_map]; omega)]
       exact n3
      ·obtain ⟨n1, n2⟩ := m2 t' d hg'
       rw [len_eq, k1] at n1 n2
       rw [List.getD_eq_getElem?_getD] at n2 ⊢
       rw [List.getElem?_append_right (by rw [List.length_map]; exact n1), List.length_map]
       exact n2
     ·cases h
    ·cases h
   ·cases h
  | const v => simp [semOp, ho, hc] at h
  | global g => simp [semOp, ho, hc] at h
theorem semOp_ok (hs : SigOK G) (ht : TabOK P G) (hct : ∀ f c, E.ct f = some c → c.Holds P f) (h : semOp E o L K = some r) (S : Sat E.N W w0 Z pl L a w) (hK : Then E W w0 K r next) : o.wp P a w next Q := by
 cases ho : o.op with
 | move x => exact rd_wp (pu_rd (op_move (by simp only [semOp, ho] at h; exact h) (.inl ho) S hK))
 | assign x => exact rd_wp (pu_rd (op_move (by simp only [semOp, ho] at h; exact h) (.inr ho) S hK))
 | pick c x y => exact rd_wp (pu_rd (op_pick ho h S hK))
 | alloc T => exact op_alloc hs ht ho h S hK
 | box T x => exact op_box ho h S hK
 | makeSlice T l c => exact op_makeSlice hs ht ho h S hK
 | build T ps => exact rd_wp (pu_rd (op_build ht ho h S hK))
 | buildSlice T n ps => exact op_buildSlice hs ht ho h S hK
 | load T x => exact rd_wp (op_load hs ht ho h S hK)
 | store T x v => exact op_store hs ht ho h S hK
 | nilCheck x => exact rd_wp (pu_rd (op_nilCheck ho h S hK))
 | binOp op T x y T' => exact rd_wp (pu_rd (op_binOp ht ho h S hK))
 | unOp op T x => exact rd_wp (pu_rd (op_unOp ho h S hK))
 | convert T T' x => exact op_convert_any hs ht ho h S hK
 | makeFunc fn fst caps =>
  cases fn with
  | func f => exact op_makeFunc ho h S hK
  | _ => simp [semOp, ho] at h
 | slice T x lo hi mx => exact rd_wp (pu_rd (op_slice ht ho h S hK))
 | fieldAddr T x f => exact rd_wp (pu_rd (op_fieldAddr hs ht ho h S hK))
 | field T x f => exact rd_wp (pu_rd (op_field ht ho h S hK))
 | indexAddr T x i => exact rd_wp (pu_rd (op_indexAddr hs ht ho h S hK))
 | index T x i => exact rd_wp (pu_rd (op_index ht ho h S hK))
 | extract x i => exact rd_wp (pu_rd (op_extract ho h S hK))
 | call c => exact op_call hs ht hct ho h S hK
 | makeMap T r0 =>
  cases r0 with
  | none =>
   simp only [semOp, ho] at h
   refine op_makeM ht h (fun u w1 hu => ?_) S hK
   unfold execOp
   rw [ho]
   exact run_v _ hu
  | some _ => simp [semOp, ho] at h
 | insert T m k v =>
  simp only [semOp, ho] at h
  refine op_putMap ht h (fun w1 hu => ?_) S hK
  unfold execOp
  rw [ho]
  exact run_u _ hu
 | mapUpdate T m k v =>
  simp only [semOp, ho] at h
  refine op_putMap ht h (fun w1 hu => ?_) S hK
  unfold execOp
  rw [ho]
  exact run_u _ hu
 | lookup T x k ok =>
  cases ok with
  | false =>
   simp only [semOp, ho] at h
   refine rd_wp (op_lookM ht h (fun u hu => ?_) S hK)
   unfold execOp
   rw [ho]
   exact run_v _ hu
  | true => simp [semOp, ho] at h
 | range T x =>
  simp only [semOp, ho] at h
  refine op_rangeM ht h (fun u w1 hu => ?_) S hK
  unfold execOp
  rw [ho]
  exact run_v _ hu
 | next x s =>
  cases s with
  | false =>
   simp only [semOp, ho] at h
   refine op_nextM (ty := o.type) h (fun u w1 hu => ?_) S hK
   unfold execOp
   rw [ho]
   exact run_v _ hu
  | true => simp [semOp, ho] at h
 | entry x =>
  simp only [semOp, ho] at h
  refine rd_wp (op_entryM h (fun u hu => ?_) S hK)
  unfold execOp
  rw [ho]
  exact run_v _ hu
 | _ => simp [semOp, ho] at h
theorem semOp_pu (ht : TabOK P G) (hs : SigOK G) (hk : Nat.beq (kd G o.op) 2 = true) (h : semOp E o L K = some r) (S : Sat E.N W w0 Z pl L a w) (hK : Then E W w0 K r next) : o.pu P a w next := by
 cases ho : o.op with
 | move x => exact op_move (by simp only [semOp, ho] at h; exact h) (.inl ho) S hK
 | assign x => exact op_move (by simp only [semOp, ho] at h; exact h) (.inr ho) S hK
 | slice T x lo hi mx => exact op_slice ht ho h S hK
 | fieldAddr T x f => exact op_fieldAddr hs ht ho h S hK
 | pick c x y => exact op_pick ho h S hK
 | nilCheck x => exact op_nilCheck ho h S hK
 | binOp op T x y T' => exact op_binOp ht ho h S hK
 | unOp op T x => exact op_unOp ho h S hK
 | field T x f => exact op_field ht ho h S hK
 | indexAddr T x i => exact op_indexAddr hs ht ho h S hK
 | index T x i => exact op_index ht ho h S hK
 | extract x i => exact op_extract ho h S hK
 | build T ps => exact op_build ht ho h S hK
 | call c =>
  rw [ho] at hk
  simp only [kd] at hk
  split at hk
  ·rename_i hc
   refine op_len ht ho hc (fun T hT => ?_) h S hK
   rw [hT] at hk
   simp only at hk
   split at hk
   ·cases hk
   ·rename_i hm; exact hm
  ·cases hk
 | convert T T' x =>
  rw [ho] at hk
  simp only [kd] at hk
  split at hk
  ·rename_i e; exact op_convert ht ⟨_, _, _, _, e⟩ ho h S hK
  ·cases hk
 | _ => rw [ho] at hk; cases hk
theorem semOp_rd (ht : TabOK P G) (hs : SigOK G) (hk : Nat.ble 1 (kd G o.op) = true) (h : semOp E o L K = some r) (S : Sat E.N W w0 Z pl L a w) (hK : Then E W w0 K r next) : o.rd P a w next := by
 by_cases h2 : Nat.beq (kd G o.op) 2 = true
 ·exact pu_rd (semOp_pu ht hs h2 h S hK)
 cases ho : o.op with
 | load T x => exact op_load hs ht ho h S hK
 | call c =>
  rw [ho] at hk
  simp only [kd] at hk
  split at hk
  ·rename_i hc; exact op_len1 ht ho hc h S hK
  ·cases hk
 | convert T T' x =>
  rw [ho] at hk h2
  simp only [kd] at hk h2
  split at hk
  ·rename_i e; simp [e] at h2
  ·cases hk
 | _ => first | (rw [ho] at hk; cases hk; done) | (rw [ho] at h2; exact absurd rfl h2)
end Go.Proofs.YtmcbhnbemhfifaaDoor.RX
end
section
namespace Go.Proofs.YtmcbhnbemhfifaaDoor.RX
open Go Go.RowKit
set_option autoImplicit false
def edgesIn (m : List Nat) : List Edge → Bool
 | [] => true
 | e :: es => match Region.binds .any e with
  | false => edgesIn m es
  | true => match hasN m e.on with | true => edgesIn m es | false => false
def readyL (m : List Nat) : Nat → List Oper → List Nat
 | _, [] => []
 | j, o :: os => match hasN m j, edgesIn m o.after.toList with
  | false, true => j :: readyL m (j + 1) os
  | _, _ => readyL m (j + 1) os
def closeB (i : Nat) : List Nat → Nat → List Oper → List Nat
 | b, _, [] => b
 | b, j, o :: os => match Nat.beq j i, hasN b j, edgesIn b o.after.toList with
  | false, false, true => closeB i (j :: b) (j + 1) os
  | _, _, _ => closeB i b (j + 1) os
def closedB (i : Nat) (b : List Nat) : Nat → List Oper → Bool
 | _, [] => true
 | j, o :: os => match Nat.beq j i, hasN b j, edgesIn b o.after.toList with
  | false, false, true => false
  | _, _, _ => closedB i b (j + 1) os
def apartB (G : Sig) (all : Array Oper) (oi : Oper) (i : Nat) (m b : List Nat) : Nat → List Oper → Bool
 | _, [] => true
 | j, o :: os => match Nat.beq j i, hasN b j, hasN m j with
  | false, true, false => match oi.apart all o, Nat.ble 2 (kd G oi.op), Nat.ble 1 (kd G o.op) with
   | true, true, _ => apartB G all oi i m b (j + 1) os
   | true, _, true => apartB G all oi i m b (j + 1) os
   | _, _, _ => false
  | _, _, _ => apartB G all oi i m b (j + 1) os
def takeB (G : Sig) (ops : List Oper) (m : List Nat) (i : Nat) : Bool :=
 match nth ops i with
 | some oi => match Nat.ble 1 (kd G oi.op), subN m (closeB i m 0 ops), closedB i (closeB i m 0 ops) 0 ops, apartB G ops.toArray oi i m (closeB i m 0 ops) 0 ops with
  | true, true, true, true => true
  | _, _, _, _ => false
 | none => false
def tails (i : Nat) : List (List Nat) → List (List Nat)
 | [] => []
 | (j :: p) :: ps => match Nat.beq i j with | true => p :: tails i ps | false => tails i ps
 | [] :: ps => tails i ps
def hasNil : List (List Nat) → Bool
 | [] => false
 | [] :: _ => true
 | (_ :: _) :: ps => hasNil ps
def eachB (f : Nat → Bool) : List Nat → Bool
 | [] => true
 | i :: is => match f i with | true => eachB f is | false => false
def waysB (G : Sig) (ops : List Oper) : Nat → List Nat → List (List Nat) → Bool
 | 0, m, ps => match readyL m 0 ops with | [] => hasNil ps | _ :: _ => false
 | n + 1, m, ps => match readyL m 0 ops with
  | [] => hasNil ps
  | r :: rs => match ps with
   | (i :: _) :: _ => match takeB G ops m i, hasN (r :: rs) i with
    | true, true => match tails i ps with | [] => false | q :: qs => waysB G ops n (i :: m) (q :: qs)
    | _, _ => eachB (fun i => waysB G ops n (i :: m) (tails i ps)) (r :: rs)
   | _ => false
section
variable {G : Sig} {P : Program} {ops : List Oper} {Q : Exit → Act → World → Prop}
theorem hasN_if {l : List Nat} {n : Nat} : hasN l n = true ↔ n ∈ l := by
 induction l with
 | nil => simp [hasN]
 | cons k l ih =>
  unfold hasN
  split
  ·rename_i h; simp [Nat.eq_of_beq_eq_true h]
  ·rename_i h
   rw [ih]
   constructor
   ·exact fun h => List.mem_cons_of_mem _ h
   ·intro h'
    rcases List.mem_cons.1 h' with e | e
    ·subst e; rw [Nat.beq_refl] at h; cases h
    ·exact e
theorem edgesIn_iff {m : List Nat} {l : List Edge} : edgesIn m l = true ↔ ∀ e ∈ l, Region.binds .any e = true → e.on ∈ m := by
 induction l with
 | nil => simp [edgesIn]
 | cons e l ih =>
  unfold edgesIn
  split
  ·rename_i h; rw [ih]; simp [h]
  ·rename_i h
   split
   ·rename_i h'; rw [ih]; simp [h, hasN_if.1 h']
   ·rename_i h'
    simp only [Bool.false_eq_true, List.mem_cons, forall_eq_or_imp, h, false_iff, true_implies, not_and]
    intro h2
    rw [hasN_if.2 h2] at h'
    cases h'
theorem mem_readyL {m : List Nat} : ∀ {l : List Oper} {k j : Nat}, j ∈ readyL m k l ↔ j ∉ m ∧ k ≤ j ∧ ∃ o, l[j - k]? = some o ∧ ∀ e ∈ o.after, Region.binds .any e = true → e.on ∈ m
 | [], k, j => by simp [readyL]
 | o :: l, k, j => by
  unfold readyL
  have rest : (j ∉ m ∧ k + 1 ≤ j ∧ ∃ o, l[j - (k + 1)]? = some o ∧ ∀ e ∈ o.after, Region.binds .any e = true → e.on ∈ m) ↔ (j ∉ m ∧ k < j ∧ ∃ o', (o :: l)[j - k]? = some o' ∧ ∀ e ∈ o'.after, Region.binds .any e = true → e.on ∈ m) := by
   constructor
   ·rintro ⟨h1, h2, h3⟩
    refine ⟨h1, h2, ?_⟩
    rw [show j - k = (j - (k + 1)) + 1 by omega, List.getElem?_cons_succ]
    exact h3
   ·rintro ⟨h1, h2, h3⟩
    refine ⟨h1, h2, ?_⟩
    rw [show j - k = (j - (k + 1)) + 1 by omega, List.getElem?_cons_succ] at h3
    exact h3
  split
  ·rename_i h1 h2
   have h1' : k ∉ m := fun h => by rw [hasN_if.2 h] at h1; cases h1
   have h2' := edgesIn_iff.1 h2
   rw [List.mem_cons, mem_readyL, rest]
   constructor
   ·rintro (e | ⟨a, b, c⟩)
    ·subst e
     exact ⟨h1', Nat.le_refl _, o, by simp, fun e he => h2' e (by simpa using he)⟩
    ·exact ⟨a, by omega, c⟩
   ·rintro ⟨a, b, c⟩
    by_cases e : j = k
    ·exact .inl e
    ·exact .inr ⟨a, by omega, c⟩
  ·rename_i hne
   rw [mem_readyL, rest]
   constructor
   ·rintro ⟨a, b, c⟩
    exact ⟨a, by omega, c⟩
   ·rintro ⟨a, b, o', c1, c2⟩
    refine ⟨a, ?_, o', c1, c2⟩
    by_cases e : j = k
    ·subst e
     rw [Nat.sub_self, List.getElem?_cons_zero] at c1
     injection c1 with c1
     subst c1
     refine absurd (edgesIn_iff.2 fun e he => c2 e (by simpa using he)) fun h => hne ?_ h
     cases hh : hasN m j with
     | false => rfl
     | true => exact absurd (hasN_if.1 hh) a
    ·omega
theorem mem_ready0 {m : List Nat} {j : Nat} : j ∈ readyL m 0 ops ↔ j ∉ m ∧ ∃ o, ops[j]? = some o ∧ ∀ e ∈ o.after, Region.binds .any e = true → e.on ∈ m := by
 rw [mem_readyL]
 simp
def stepX (G : Sig) (P : Program) (ops : List Oper) (Q : Exit → Act → World → Prop) (i : Nat) (K : Act → World → Prop) (a : Act) (w : World) : Prop :=
 match ops[i]? with
 | none => K a w
 | some o => match Region.wanted o (yielded ops.toArray a.tmps) with
  | true => match kd G o.op with
   | 0 => o.wp P a w K Q
   | 1 => o.rd P a w K
   | _ => o.pu P a w K
  | false => K (a.put o.dst undef) w
def AnyX (G : Sig) (P : Program) (ops : List Oper) (Q : Exit → Act → World → Prop) : Nat → List Nat → Act → World → Prop
 | 0, m, a, w => readyL m 0 ops = [] ∧ Q .normal a w
 | n + 1, m, a, w => (readyL m 0 ops = [] → Q .normal a w) ∧ ∀ i ∈ readyL m 0 ops, stepX G P ops Q i (AnyX G P ops Q n (i :: m)) a w
theorem stepX_wp {i : Nat} {K : Act → World → Prop} {a : Act} {w : World} (h : stepX G P ops Q i K a w) : wpOp P ops.toArray Q i K a w := by
 unfold stepX at h
 unfold wpOp
 simp only [List.getElem?_toArray]
 split
 ·rename_i e; rw [e] at h; exact h
 ·rename_i o e
  rw [e] at h
  simp only at h
  split at h
  ·rename_i hw
   rw [if_pos hw]
   split at h
   ·exact .inl h
   ·exact .inl (rd_wp h)
   ·exact .inl (rd_wp (pu_rd h))
  ·rename_i hw
   rw [if_neg (by rw [hw]; decide)]
   exact h
theorem stepX_mono {i : Nat} {K K' : Act → World → Prop} {a : Act} {w : World} (hh : ∀ a w, K a w → K' a w) (h : stepX G P ops Q i K a w) : stepX G P ops Q i K' a w := by
 unfold stepX at *
 split
 ·rename_i e; rw [e] at h; exact hh _ _ h
 ·rename_i o e
  rw [e] at h
  simp only at h
  split
  ·rename_i hw
   rw [hw] at h
   simp only at h
   split
   ·rename_i hk; rw [hk] at h; exact Oper.wp_mono hh h
   ·rename_i hk; rw [hk] at h; obtain ⟨u, h1, h2⟩ := h; exact ⟨u, h1, hh _ _ h2⟩
   ·rename_i hk1 hk2
    split at h
    ·rename_i hk; exact absurd hk hk1
    ·rename_i hk; exact absurd hk hk2
    ·obtain ⟨u, h1, h2⟩ := h; exact ⟨u, h1, hh _ _ h2⟩
  ·rename_i hw
   rw [hw] at h
   exact hh _ _ h
theorem AnyX_wp : ∀ (n : Nat) (m : List Nat) (listed : Array Bool) (a : Act) (w : World), listed.size = ops.length → (∀ j, listed.getD j false = hasN m j) → AnyX G P ops Q n m a w → wpAny P .any ops.toArray Q n listed a w := by
 intro n
 have rd : ∀ (m : List Nat) (listed : Array Bool), listed.size = ops.length → (∀ j, listed.getD j false = hasN m j) → ∀ j, j ∈ Region.ready .any ops.toArray listed ↔ j ∈ readyL m 0 ops := by
  intro m listed hs hl j
  rw [mem_ready, mem_ready0]
  have e1 : ∀ e : Edge, (listed.getD e.on false = true ↔ e.on ∈ m) := fun e => by rw [hl, hasN_if]
  constructor
  ·rintro ⟨h1, o, h2, h3⟩
   refine ⟨fun hm => ?_, o, by simpa using h2, fun e he hb => (e1 e).1 (h3 e he hb)⟩
   have := (hl j).trans (hasN_if.2 hm)
   have hlt : j < listed.size := by
    rcases Nat.lt_or_ge j listed.size with h | h
    ·exact h
    ·rw [Array.getD_eq_getD_getElem?, Array.getElem?_eq_none h] at this; cases this
   rw [Array.getD_eq_getD_getElem?, Array.getElem?_eq_getElem hlt] at this h1
   simp at this h1
   rw [this] at h1
   cases h1
  ·rintro ⟨h1, o, h2, h3⟩
   refine ⟨?_, o, by simpa using h2, fun e he hb => (e1 e).2 (h3 e he hb)⟩
   have hlt : j < listed.size := by rw [hs]; exact (List.getElem?_eq_some_iff.1 h2).1
   have := hl j
   rw [show hasN m j = false from by cases hh : hasN m j with | false => rfl | true => exact absurd (hasN_if.1 hh) h1] at this
   rw [Array.getD_eq_getD_getElem?, Array.getElem?_eq_getElem hlt] at this ⊢
   simpa using this
 have em : ∀ (m : List Nat) (listed : Array Bool), listed.size = ops.length → (∀ j, listed.getD j false = hasN m j) → Region.ready .any ops.toArray listed = [] → readyL m 0 ops = [] := by
  intro m listed hs hl h
  rw [List.eq_nil_iff_forall_not_mem] at h ⊢
  exact fun j hj => h j ((rd m listed hs hl j).2 hj)
 have em' : ∀ (m : List Nat) (listed : Array Bool), listed.size = ops.length → (∀ j, listed.getD j false = hasN m j) → readyL m 0 ops = [] → Region.ready .any ops.toArray listed = [] := by
  intro m listed hs hl h
  rw [List.eq_nil_iff_forall_not_mem] at h ⊢
  exact fun j hj => h j ((rd m listed hs hl j).1 hj)
 induction n with
 | zero => exact fun m listed a w hs hl h => ⟨em' m listed hs hl h.1, h.2⟩
 | succ n ih =>
  intro m listed a w hs hl h
  refine ⟨fun h0 => h.1 (em m listed hs hl h0), fun i hi => ?_⟩
  have hi' := (rd m listed hs hl i).1 hi
  refine wpOp_mono (fun a w => ih (i :: m) _ a w (by simpa using hs) fun j => ?_) (stepX_wp (h.2 i hi'))
  obtain ⟨_, o, ho, _⟩ := mem_ready0.1 hi'
  have hlt : i < listed.size := by rw [hs]; exact (List.getElem?_eq_some_iff.1 ho).1
  unfold hasN
  split
  ·rename_i e
   have e := Nat.eq_of_beq_eq_true e
   subst e
   simp [hlt]
  ·rename_i e
   rw [getD_set_ne false (fun h => by subst h; rw [Nat.beq_refl] at e; cases e)]
   exact hl j
theorem wp_region_X {id : Nat} {a : Act} {w : World} (hm : P.follows .mixedOrders = true) (h : AnyX G P ops Q ops.length [] a { w with drawn := w.drawn + 1 }) : (Code.region id ops.toArray true).wp P Q a w := by
 refine wp_region_any hm (AnyX_wp _ [] _ _ _ (by simp) (fun j => ?_) (by simpa using h))
 rw [Array.getD_eq_getD_getElem?, Array.getElem?_replicate]
 split <;> rfl
theorem AnyX_congr : ∀ (n : Nat) (m m' : List Nat) (a : Act) (w : World), (∀ j, j ∈ m ↔ j ∈ m') → AnyX G P ops Q n m a w → AnyX G P ops Q n m' a w := by
 intro n
 have rd : ∀ (m m' : List Nat), (∀ j, j ∈ m ↔ j ∈ m') → ∀ j, j ∈ readyL m 0 ops ↔ j ∈ readyL m' 0 ops := by
  intro m m' h j
  rw [mem_ready0, mem_ready0]
  simp only [h]
 have em : ∀ (m m' : List Nat), (∀ j, j ∈ m ↔ j ∈ m') → readyL m 0 ops = [] → readyL m' 0 ops = [] := by
  intro m m' h h0
  rw [List.eq_nil_iff_forall_not_mem] at h0 ⊢
  exact fun j hj => h0 j ((rd m m' h j).2 hj)
 induction n with
 | zero => exact fun m m' a w h H => ⟨em m m' h H.1, H.2⟩
 | succ n ih =>
  intro m m' a w h H
  refine ⟨fun h0 => H.1 (em m' m (fun j => (h j).symm) h0), fun i hi => stepX_mono (fun a w => ih _ _ a w fun j => ?_) (H.2 i ((rd m m' h i).2 hi))⟩
  simp only [List.mem_cons, h]
def YX (G : Sig) (P : Program) (ops : List Oper) (o : Oper) (v : Value) (a : Act) (w : World) : Prop :=
 (Region.wanted o (yielded ops.toArray a.tmps) = true ∧ (execOp a.eval o).run P w = .ok (.value v) w ∧ (2 ≤ kd G o.op → ∀ w', (execOp a.eval o).run P w' = .ok (.value v) w')) ∨
 (Region.wanted o (yielded ops.toArray a.tmps) = false ∧ v = undef)
theorem YX.same {o : Oper} {v : Value} {a a' : Act} {w : World} (h : YX G P ops o v a w) (he : execOp a'.eval o = execOp a.eval o) (hw : Region.wanted o (yielded ops.toArray a'.tmps) = Region.wanted o (yielded ops.toArray a.tmps)) : YX G P ops o v a' w := by
 unfold YX at *
 rw [he, hw]
 exact h
theorem YX.far {o : Oper} {v : Value} {a : Act} {w w' : World} (h : YX G P ops o v a w) (hk : 2 ≤ kd G o.op) : YX G P ops o v a w' := by
 rcases h with ⟨h1, _, h3⟩ | h
 ·exact .inl ⟨h1, h3 hk w', h3⟩
 ·exact .inr h
theorem YX.of_step {i : Nat} {o : Oper} {K : Act → World → Prop} {a : Act} {w : World} (hi : ops[i]? = some o) (hk : 1 ≤ kd G o.op) (h : stepX G P ops Q i K a w) : ∃ v, YX G P ops o v a w ∧ K (a.put o.dst v) w := by
 unfold stepX at h
 rw [hi] at h
 simp only at h
 split at h
 ·rename_i hw
  split at h
  ·rename_i h0; omega
  ·rename_i h1; obtain ⟨u, k1, k2⟩ := h; exact ⟨u, .inl ⟨hw, k1, fun h => by omega⟩, k2⟩
  ·obtain ⟨u, k1, k2⟩ := h; exact ⟨u, .inl ⟨hw, k1 w, fun _ => k1⟩, k2⟩
 ·rename_i hw; exact ⟨undef, .inr ⟨hw, rfl⟩, h⟩
theorem YX.step {i : Nat} {o : Oper} {K : Act → World → Prop} {v : Value} {a : Act} {w : World} (hi : ops[i]? = some o) (hk : 1 ≤ kd G o.op) (hy : YX G P ops o v a w) (h : K (a.put o.dst v) w) : stepX G P ops Q i K a w := by
 unfold stepX
 rw [hi]
 simp only
 rcases hy with ⟨h1, h2, h3⟩ | ⟨h1, h2⟩
 ·rw [h1]
  simp only
  split
  ·rename_i h0; omega
  ·exact ⟨v, h2, h⟩
  ·rename_i n0 n1
   have n0 : kd G o.op ≠ 0 := n0
   have n1 : kd G o.op ≠ 1 := n1
   exact ⟨v, h3 (by omega), h⟩
 ·rw [h1]
  subst h2
  exact h
theorem stepX_put {j : Nat} {oi oj : Oper} {v : Value} (hj : ops[j]? = some oj) (hap : oi.apart ops.toArray oj = true) (hsi : ∀ cs b, oi.op ≠ .select cs b) (hsj : ∀ cs b, oj.op ≠ .select cs b) (hk : 2 ≤ kd G oi.op ∨ 1 ≤ kd G oj.op)
  (hQ : ∀ c a w, Q (.panic c) (a.put oi.dst v) w → Q (.panic c) a w) {K : Act → World → Prop} {a : Act} {w : World} (hy : YX G P ops oi v a w) (h : stepX G P ops Q j K (a.put oi.dst v) w) :
  stepX G P ops Q j (fun a' w' => YX G P ops oi v a' w' ∧ K (a'.put oi.dst v) w') a w := by
 obtain ⟨h1, h2, h3⟩ := Oper.apart_spec hap
 have keep : ∀ (a : Act) (w : World), YX G P ops oi v a w → ∀ u, YX G P ops oi v (a.put oj.dst u) w := fun a w hy u =>
  hy.same (execOp_put oi hsi a oj.dst u h3) (wanted_put oi a oj.dst u h3)
 have keepD : ∀ w d, YX G P ops oi v a w → YX G P ops oi v { a with defers := d :: a.defers } w := fun w d h => h.same rfl rfl
 unfold stepX at *
 rw [hj] at *
 simp only at *
 rw [wanted_put oj a oi.dst v h1] at h
 split
 ·rename_i hw
  rw [hw] at h
  simp only at h
  split
  ·rename_i h0
   rw [h0] at h
   simp only at h
   have hk2 : 2 ≤ kd G oi.op := hk.resolve_right (by omega)
   unfold Oper.wp at *
   rw [execOp_put oj hsj a oi.dst v h1] at h
   generalize (execOp a.eval oj).run P w = r at *
   cases r with
   | ok n w' =>
    have hy' : ∀ w', YX G P ops oi v a w' := fun w' => hy.far hk2
    cases n <;> simp only [Oper.upon] at h ⊢
    case value u => exact ⟨keep a _ (hy' _) u, by rw [← Act.put_comm a v u h2]; exact h⟩
    case skip => exact ⟨keep a _ (hy' _) _, by rw [← Act.put_comm a v undef h2]; exact h⟩
    case defer d =>
     refine ⟨keep _ _ (keepD _ d (hy' _)) _, ?_⟩
     rw [← Act.put_comm _ v undef h2, ← Act.put_defers]
     exact h
    case enter f args =>
     refine Calls.mono h fun e w'' he => ?_
     cases e with
     | returned u => exact ⟨keep a _ (hy' _) u, by rw [← Act.put_comm a v u h2]; exact he⟩
     | panicked c => exact hQ _ _ _ he
     | outgrown => exact he
    case row row args => exact Rows.mono h fun u w'' he => ⟨keep a _ (hy' _) u, by rw [← Act.put_comm a v u h2]; exact he⟩
   | halt x w' =>
    cases x <;> simp only [Oper.upon] at h ⊢
    case panic u => exact hQ _ _ _ h
  ·rename_i h0
   rw [h0] at h
   simp only at h
   obtain ⟨u, k1, k2⟩ := h
   rw [execOp_put oj hsj a oi.dst v h1] at k1
   exact ⟨u, k1, keep a _ hy u, by rw [← Act.put_comm a v u h2]; exact k2⟩
  ·rename_i n0 n1
   split at h
   ·rename_i h0; exact absurd h0 n0
   ·rename_i h0; exact absurd h0 n1
   ·obtain ⟨u, k1, k2⟩ := h
    refine ⟨u, fun w' => ?_, keep a _ hy u, by rw [← Act.put_comm a v u h2]; exact k2⟩
    have := k1 w'
    rwa [execOp_put oj hsj a oi.dst v h1] at this
 ·rename_i hw
  rw [hw] at h
  simp only at h
  exact ⟨keep a _ hy _, by rw [← Act.put_comm a v undef h2]; exact h⟩
theorem AnyX_first {i : Nat} {oi : Oper} {v : Value} {B : List Nat} (hi : ops[i]? = some oi) (hk : 1 ≤ kd G oi.op) (hsel : ∀ (j : Nat) (o : Oper) cs b, ops[j]? = some o → o.op ≠ .select cs b)
  (hQ : ∀ c a w, Q (.panic c) (a.put oi.dst v) w → Q (.panic c) a w) (hB : ∀ j o, ops[j]? = some o → j ≠ i → (∀ e ∈ o.after, Region.binds .any e = true → e.on ∈ B) → j ∈ B) : ∀ (n : Nat) (m : List Nat) (a : Act) (w : World), (∀ j ∈ m, j ∈ B) →
   (∀ j oj, ops[j]? = some oj → j ≠ i → j ∈ B → j ∉ m → oi.apart ops.toArray oj = true ∧ (2 ≤ kd G oi.op ∨ 1 ≤ kd G oj.op)) → i ∈ readyL m 0 ops → YX G P ops oi v a w → AnyX G P ops Q n (i :: m) (a.put oi.dst v) w → AnyX G P ops Q (n + 1) m a w := by
 intro n
 have mono : ∀ {m : List Nat} {j k : Nat}, j ∈ readyL m 0 ops → j ≠ k → j ∈ readyL (k :: m) 0 ops := by
  intro m j k h hne
  rw [mem_ready0] at *
  obtain ⟨h1, o, h2, h3⟩ := h
  exact ⟨by simp [hne, h1], o, h2, fun e he hb => List.mem_cons_of_mem _ (h3 e he hb)⟩
 induction n with
 | zero =>
  intro m a w hm hfree hr hy H
  refine ⟨fun h => (by rw [h] at hr; cases hr), fun j hj => ?_⟩
  by_cases hji : j = i
  ·subst hji; exact hy.step hi hk H
  ·have := mono hj hji
   rw [H.1] at this
   cases this
 | succ n ih =>
  intro m a w hm hfree hr hy H
  refine ⟨fun h => (by rw [h] at hr; cases hr), fun j hj => ?_⟩
  by_cases hji : j = i
  ·subst hji; exact hy.step hi hk H
  ·have h1 := H.2 j (mono hj hji)
   obtain ⟨hjun, oj, hoj, hall⟩ := mem_ready0.1 hj
   have hjB : j ∈ B := hB j oj hoj hji fun e he hb => hm _ (hall e he hb)
   obtain ⟨f1, f2⟩ := hfree j oj hoj hji hjB hjun
   have h2 := stepX_put hoj f1 (fun cs b => hsel i oi cs b hi) (fun cs b => hsel j oj cs b hoj) f2 hQ hy h1
   refine stepX_mono (fun a' w' h3 => ih (j :: m) a' w' ?_ ?_ (mono hr (Ne.symm hji)) h3.1 ?_) h2
   ·intro k hk
    rcases List.mem_cons.1 hk with e | e
    ·subst e; exact hjB
    ·exact hm k e
   ·exact fun k ok hok hki hkB hkm => hfree k ok hok hki hkB fun h => hkm (List.mem_cons_of_mem _ h)
   ·exact AnyX_congr _ _ _ _ _ (fun k => by simp only [List.mem_cons]; exact or_left_comm) h3.2
theorem closedB_ok {i : Nat} {b : List Nat} : ∀ {l : List Oper} {k : Nat}, closedB i b k l = true → ∀ j o, l[j]? = some o → k + j ≠ i → (∀ e ∈ o.after, Region.binds .any e = true → e.on ∈ b) → k + j ∈ b
 | [], k, _, j, o, ho, _, _ => by simp at ho
 | o' :: l, k, h, j, o, ho, hne, he => by
  unfold closedB at h
  cases j with
  | zero =>
   simp only [List.getElem?_cons_zero, Option.some.injEq] at ho
   subst ho
   rw [Nat.add_zero] at hne ⊢
   split at h
   ·cases h
   ·rename_i hn
    cases hh : hasN b k with
    | true => exact hasN_if.1 hh
    | false =>
     refine absurd (edgesIn_iff.2 fun e hm => he e (by simpa using hm)) fun h3 => hn ?_ hh h3
     cases h4 : Nat.beq k i with
     | false => rfl
     | true => exact absurd (Nat.eq_of_beq_eq_true h4) hne
  | succ j =>
   rw [List.getElem?_cons_succ] at ho
   have h' : closedB i b (k + 1) l = true := by
    split at h
    ·cases h
    ·exact h
   have := closedB_ok h' j o ho (by omega) he
   rwa [show k + 1 + j = k + (j + 1) by omega] at this
theorem apartB_ok {all : Array Oper} {oi : Oper} {i : Nat} {m b : List Nat} : ∀ {l : List Oper} {k : Nat}, apartB G all oi i m b k l = true → ∀ j o, l[j]? = some o → k + j ≠ i → k + j ∈ b → k + j ∉ m → oi.apart all o = true ∧ (2 ≤ kd G oi.op ∨ 1 ≤ kd G o.op)
 | [], k, _, j, o, ho, _, _, _ => by simp at ho
 | o' :: l, k, h, j, o, ho, hne, hb, hm => by
  unfold apartB at h
  cases j with
  | zero =>
   simp only [List.getElem?_cons_zero, Option.some.injEq] at ho
   subst ho
   rw [Nat.add_zero] at hne hb hm
   have e1 : Nat.beq k i = false := by
    cases h4 : Nat.beq k i with
    | false => rfl
    | true => exact absurd (Nat.eq_of_beq_eq_true h4) hne
   have e2 := hasN_if.2 hb
   have e3 : hasN m k = false := by
    cases h4 : hasN m k with
    | false => rfl
    | true => exact absurd (hasN_if.1 h4) hm
   rw [e1, e2, e3] at h
   simp only at h
   split at h
   ·rename_i _ h1 h2; exact ⟨h1, .inl (ble_iff.1 h2)⟩
   ·rename_i h1 h2 _; exact ⟨h1, .inr (ble_iff.1 h2)⟩
   ·cases h
  | succ j =>
   rw [List.getElem?_cons_succ] at ho
   have h' : apartB G all oi i m b (k + 1) l = true := by
    split at h
    ·split at h
     ·exact h
     ·exact h
     ·cases h
    ·exact h
   exact apartB_ok h' j o ho (by omega) (by rwa [show k + 1 + j = k + (j + 1) by omega]) (by rwa [show k + 1 + j = k + (j + 1) by omega])
theorem subN_ok' {l b : List Nat} (h : subN l b = true) : ∀ j ∈ l, j ∈ b := by
 induction l with
 | nil => intro j hj; cases hj
 | cons k l ih =>
  unfold subN at h
  split at h
  ·rename_i hk
   intro j hj
   rcases List.mem_cons.1 hj with e | e
   ·subst e; exact hasN_if.1 hk
   ·exact ih h j e
  ·cases h
theorem AnyX_take {i n : Nat} {m : List Nat} {a : Act} {w : World} (ht : takeB G ops m i = true) (hr : i ∈ readyL m 0 ops) (hsel : ∀ (j : Nat) (o : Oper) cs b, ops[j]? = some o → o.op ≠ .select cs b)
  (hQ : ∀ c a d v w, Q (.panic c) (a.put d v) w → Q (.panic c) a w) (h : stepX G P ops Q i (AnyX G P ops Q n (i :: m)) a w) : AnyX G P ops Q (n + 1) m a w := by
 unfold takeB at ht
 split at ht
 ·rename_i oi hi
  rw [nth_eq] at hi
  split at ht
  ·rename_i h1 h2 h3 h4
   have hk := ble_iff.1 h1
   obtain ⟨v, hy, hK⟩ := YX.of_step hi hk h
   refine AnyX_first (B := closeB i m 0 ops) hi hk hsel (fun c a w => hQ c a _ _ w) (fun j o ho hne he => ?_) n m a w (subN_ok' h2) (fun j oj hoj hne hb hm => ?_) hr hy hK
   ·have := closedB_ok h3 j o ho (by omega) he
    rwa [Nat.zero_add] at this
   ·have := apartB_ok h4 j oj hoj (by omega) (by rwa [Nat.zero_add]) (by rwa [Nat.zero_add])
    exact this
  ·cases ht
 ·cases ht
end
end Go.Proofs.YtmcbhnbemhfifaaDoor.RX
end
section
namespace Go.Proofs.YtmcbhnbemhfifaaDoor.RX
open Go Go.RowKit
set_option autoImplicit false
variable {G : Sig} {R : Type} {r : R}
def Both (r : R) (x y z : Option R) : Prop := x = some r → y = some r → z = some r
section
variable {E : Env G R} {o : Oper} {A B C : St G → Option R}
theorem Both.none {y z : Option R} : Both r Option.none y z := fun h => by cases h
theorem out_both (h : ∀ L, Both r (A L) (B L) (C L)) (v : DV G) (L : St G) : Both r (out E o v L A) (out E o v L B) (out E o v L C) := by
 unfold out
 cases o.dst with
 | none => exact h L
 | some d =>
  simp only
  cases Nat.blt d E.N with
  | true => exact h _
  | false => exact .none
theorem ite_both {p : Prop} [Decidable p] {a b c a' b' c' : Option R} (h : Both r a b c) (h' : Both r a' b' c') : Both r (if p then a else a') (if p then b else b') (if p then c else c') := by
 split
 ·exact h
 ·exact h'
theorem condK_both {s : SV G} {a b c a' b' c' : Option R} (h : Both r a b c) (h' : Both r a' b' c') : Both r (condK s a a') (condK s b b') (condK s c c') := by
 unfold condK
 cases s with
 | agg ls => exact .none
 | one l =>
  cases l with
  | kb b => cases b with | true => exact h | false => exact h'
  | prop p d => exact @ite_both _ _ p d _ _ _ _ _ _ h h'
  | val t x => cases t with | bool => exact ite_both h h' | _ => exact .none
  | _ => exact .none
theorem binI_both {op : BinOp} {k : IntKind} {x y : Int} {f g h : Leaf G → Option R} (hh : ∀ l, Both r (f l) (g l) (h l)) : Both r (binI op k x y f) (binI op k x y g) (binI op k x y h) := by
 unfold binI
 cases op <;> first | exact hh _ | exact ite_both .none (hh _) | exact .none
theorem binS_both {op : BinOp} {x y : ByteArray} {f g h : Leaf G → Option R} (hh : ∀ l, Both r (f l) (g l) (h l)) : Both r (binS op x y f) (binS op x y g) (binS op x y h) := by
 unfold binS
 cases op <;> first | exact hh _ | exact ite_both (hh _) .none | exact .none
theorem binK_both {T : Option TI} {op : BinOp} {x y : SV G} {f g h : Leaf G → Option R} (hh : ∀ l, Both r (f l) (g l) (h l)) : Both r (binK T op x y f) (binK T op x y g) (binK T op x y h) := by
 unfold binK
 repeat' (first | exact Both.none | exact hh _ | exact binI_both hh | exact binS_both hh | split)
theorem bind_both {α : Type} {x : Option α} {f g h : α → Option R} (hh : ∀ a, Both r (f a) (g a) (h a)) : Both r (x.bind f) (x.bind g) (x.bind h) := by
 cases x with
 | none => exact .none
 | some a => exact hh a
theorem gdK_both : ∀ {gs : List Nat} {x y z : Option R}, Both r x y z → Both r (gdK gs x) (gdK gs y) (gdK gs z)
 | [], _, _, _, h => h
 | n :: gs, _, _, _, h => ite_both (gdK_both h) .none
theorem loadT_both {ti : TI} {L : St G} {i n z off : Nat} {e : TypeId} {t : Ty} {xs : List (G.D t)} (ho : ∀ (v : DV G) (L : St G), Both r (out E o v L A) (out E o v L B) (out E o v L C)) : Both r (loadT E o ti L i n z off e t xs A) (loadT E o ti L i n z off e t xs B) (loadT E o ti L i n z off e t xs C) := by
 unfold loadT
 repeat' (first | exact Both.none | exact ho _ _ | split)
theorem storeT_both {s : SV G} {L : St G} {i n z off : Nat} {e : TypeId} {t : Ty} {xs : List (G.D t)} (ho : ∀ (v : DV G) (L : St G), Both r (out E o v L A) (out E o v L B) (out E o v L C)) : Both r (storeT E o s L i n z off e t xs A) (storeT E o s L i n z off e t xs B) (storeT E o s L i n z off e t xs C) := by
 unfold storeT
 repeat' (first | exact Both.none | exact gdK_both (ho _ _) | split)
theorem storeH_both {s : SV G} {L : St G} {i n z off i0 off0 : Nat} {e : TypeId} {t : Ty} {xs : List (G.D t)} (ho : ∀ (v : DV G) (L : St G), Both r (out E o v L A) (out E o v L B) (out E o v L C)) : Both r (storeH E o s L i n z off e t xs i0 off0 A) (storeH E o s L i n z off e t xs i0 off0 B) (storeH E o s L i n z off e t xs i0 off0 C) := by
 unfold storeH
 repeat' (first | exact Both.none | exact ite_both (ho _ _) Both.none | split)
theorem loadW_both {ti : TI} {L : St G} {i n z off n1 i1 : Nat} {e : TypeId} {t : Ty} {xs : List (G.D t)} (ho : ∀ (v : DV G) (L : St G), Both r (out E o v L A) (out E o v L B) (out E o v L C)) : Both r (loadW E o ti L i n z off e t xs n1 i1 A) (loadW E o ti L i n z off e t xs n1 i1 B) (loadW E o ti L i n z off e t xs n1 i1 C) := by
 unfold loadW
 repeat' (first | exact Both.none | exact ho _ _ | split)
theorem moveW_both {ti : TI} {L : St G} {i n z off m : Nat} {e : TypeId} {t : Ty} {xs : List (G.D t)} (ho : ∀ (v : DV G) (L : St G), Both r (out E o v L A) (out E o v L B) (out E o v L C)) : Both r (moveW E o ti L i n z off e t xs m A) (moveW E o ti L i n z off e t xs m B) (moveW E o ti L i n z off e t xs m C) := by
 unfold moveW
 repeat' (first | exact Both.none | exact ite_both (ho _ _) Both.none | split)
theorem sliceT_both {L : St G} {i : Nat} {l : Int} {e : TypeId} {t : Ty} (ho : ∀ (v : DV G) (L : St G), Both r (out E o v L A) (out E o v L B) (out E o v L C)) : Both r (sliceT E o L i l e t A) (sliceT E o L i l e t B) (sliceT E o L i l e t C) := by
 unfold sliceT
 repeat' (first | exact Both.none | exact ite_both (ite_both (ho _ _) Both.none) Both.none | split)
theorem storeW_both {s : SV G} {L : St G} {i n z off n1 i1 n2 i2 : Nat} {e : TypeId} {t : Ty} {xs : List (G.D t)} {st : Bool} (ho : ∀ (v : DV G) (L : St G), Both r (out E o v L A) (out E o v L B) (out E o v L C)) : Both r (storeW E o s L i n z off e t xs n1 i1 n2 i2 st A) (storeW E o s L i n z off e t xs n1 i1 n2 i2 st B) (storeW E o s L i n z off e t xs n1 i1 n2 i2 st C) := by
 unfold storeW
 repeat' (first | exact Both.none | exact ite_both (ho _ _) Both.none | split)
theorem newOb_both {b : Ob G} {L : St G} {f g k : Nat → St G → Option R} (h : ∀ i L, Both r (f i L) (g i L) (k i L)) : Both r (newOb b L f) (newOb b L g) (newOb b L k) := by
 unfold newOb
 cases L
 exact h _ _
theorem buildT_both {e : TypeId} {t : Ty} {n : Nat} {ps : List (Nat × Operand)} {L : St G} (ho : ∀ (v : DV G) (L : St G), Both r (out E o v L A) (out E o v L B) (out E o v L C)) : Both r (buildT E o e t n ps L A) (buildT E o e t n ps L B) (buildT E o e t n ps L C) := by
 unfold buildT
 repeat' (first | exact Both.none | exact gdK_both (newOb_both fun _ _ => ho _ _) | exact newOb_both fun _ _ => ho _ _ | split)
theorem appendT_both {e : TypeId} {t : Ty} {s i : SV G} {L : St G} (ho : ∀ (v : DV G) (L : St G), Both r (out E o v L A) (out E o v L B) (out E o v L C)) : Both r (appendT E o e t s i L A) (appendT E o e t s i L B) (appendT E o e t s i L C) := by
 unfold appendT
 repeat' (first | exact Both.none | refine ite_both (newOb_both fun _ _ => ho _ _) Both.none | split)
theorem pickAll_both {rest : List Int} {f g k : Int → List Int → Option R} (h : ∀ i l, Both r (f i l) (g i l) (k i l)) : Both r (pickAll rest f) (pickAll rest g) (pickAll rest k) := by
 intro h1 h2
 have a1 := pickAll_some h1
 have a2 := pickAll_some h2
 have hne : rest ≠ [] := by
  intro e
  unfold pickAll at h1
  split at h1
  ·rename_i hh
   exact absurd e (Classical.choose_spec hh).1
  ·cases h1
 have hk : ∃ s, rest ≠ [] ∧ ∀ c, c ∈ rest → k c (rest.filter fun x => decide (x ≠ c)) = some s := ⟨r, hne, fun c hc => h _ _ (a1 c hc) (a2 c hc)⟩
 unfold pickAll
 rw [dif_pos hk]
 obtain ⟨c, hc⟩ := List.exists_mem_of_ne_nil rest hne
 have e1 := (Classical.choose_spec hk).2 c hc
 have e2 := h _ _ (a1 c hc) (a2 c hc)
 rw [e1] at e2
 exact e2
theorem nextK_both {x : Operand} {L : St G} (ho : ∀ (v : DV G) (L : St G), Both r (out E o v L A) (out E o v L B) (out E o v L C)) : Both r (nextK E o x L A) (nextK E o x L B) (nextK E o x L C) := by
 unfold nextK
 split
 ·split
  ·refine ite_both (ite_both (ho _ _) (pickAll_both fun i l => ?_)) .none
   cases L
   exact ho _ _
  ·exact .none
 ·exact .none
theorem maps_both {T : TypeId} {x k v : Operand} {L : St G} (ho : ∀ (v : DV G) (L : St G), Both r (out E o v L A) (out E o v L B) (out E o v L C)) : Both r (putMap E o T x k v L A) (putMap E o T x k v L B) (putMap E o T x k v L C) ∧
  Both r (entryK E o x L A) (entryK E o x L B) (entryK E o x L C) ∧ Both r (rangeK E o T x L A) (rangeK E o T x L B) (rangeK E o T x L C) ∧ Both r (lookK E o T x k L A) (lookK E o T x k L B) (lookK E o T x k L C) ∧ Both r (lenM E o T x L A) (lenM E o T x L B) (lenM E o T x L C) ∧
  Both r (makeM E o T L A) (makeM E o T L B) (makeM E o T L C) := by
 unfold putMap entryK rangeK lookK lenM makeM
 refine ⟨?_, ?_, ?_, ?_, ?_, ?_⟩ <;> repeat' (first | exact Both.none | exact ho _ _ | exact newOb_both fun _ _ => ho _ _ | refine ite_both ?_ Both.none | split)
theorem semOp_both (h : ∀ L, Both r (A L) (B L) (C L)) (L : St G) : Both r (semOp E o L A) (semOp E o L B) (semOp E o L C) := by
 have ho := fun v L => out_both (E := E) (o := o) h v L
 have hc : ∀ (c : Ct G) l L, Both r (callK E o c l L A) (callK E o c l L B) (callK E o c l L C) := by
  intro c l L
  cases L with
  | mk tm ob nx =>
  simp only [callK]
  split
  ·split
   ·refine bind_both fun x => ?_
    split
    ·split
     ·exact ho _ _
     ·exact .none
    ·exact ho _ _
   ·exact .none
  ·exact .none
 cases hop : o.op with
 | call c =>
  simp only [semOp, hop]
  repeat' (first | exact Both.none | exact ho _ _ | exact hc _ _ _ | exact (maps_both (x := ‹Operand›) (k := ‹Operand›) (v := ‹Operand›) ho).2.2.2.2.1 | exact appendT_both ho | refine ite_both ?_ Both.none | split)
 | unOp op T x =>
  cases op <;> simp only [semOp, hop]
  all_goals repeat' (first | exact Both.none | exact ho _ _ | split)
 | makeFunc f x y =>
  cases f <;> simp only [semOp, hop]
  all_goals repeat' (first | exact Both.none | exact ho _ _ | split)
 | makeMap T r0 =>
  cases r0 with
  | none => simp only [semOp, hop]; exact (maps_both (x := .const default) (k := .const default) (v := .const default) ho).2.2.2.2.2
  | some _ => simp only [semOp, hop]; exact .none
 | insert T m k v => simp only [semOp, hop]; exact (maps_both ho).1
 | mapUpdate T m k v => simp only [semOp, hop]; exact (maps_both ho).1
 | lookup T x k ok =>
  cases ok with
  | false => simp only [semOp, hop]; exact (maps_both (v := x) ho).2.2.2.1
  | true => simp only [semOp, hop]; exact .none
 | range T x => simp only [semOp, hop]; exact (maps_both (k := x) (v := x) ho).2.2.1
 | next x s =>
  cases s with
  | false => simp only [semOp, hop]; exact nextK_both ho
  | true => simp only [semOp, hop]; exact .none
 | entry x => simp only [semOp, hop]; exact (maps_both (T := 0) (k := x) (v := x) ho).2.1
 | _ =>
  simp only [semOp, hop]
  repeat' (first | exact Both.none | exact ho _ _ | exact loadT_both ho | exact loadW_both ho | exact moveW_both ho | exact sliceT_both ho | exact storeW_both ho | exact storeT_both ho | exact storeH_both ho | exact buildT_both ho | exact binK_both fun _ => ho _ _ | exact bind_both fun _ => ho _ _ | refine condK_both ?_ ?_ | refine ite_both ?_ Both.none | split)
theorem semG_both {all : List Oper} (h : ∀ L, Both r (A L) (B L) (C L)) (L : St G) : Both r (semG E all o L A) (semG E all o L B) (semG E all o L C) := by
 have ho := fun v L => out_both (E := E) (o := o) h v L
 unfold semG
 repeat' (first | exact Both.none | exact ho _ _ | exact semOp_both h _ | refine condK_both ?_ ?_ | split)
theorem semG_all {all : List Oper} {ι : Type} {f : ι → St G → Option R} (L : St G) (q : ι) : ∀ (qs : List ι), (∀ x ∈ q :: qs, semG E all o L (f x) = some r) →
  semG E all o L (fun L' => @ite _ (∀ x ∈ q :: qs, f x L' = some r) (Classical.propDecidable _) (some r) none) = some r := by
 intro qs
 induction qs with
 | nil =>
  intro h
  refine semG_both (r := r) (A := f q) (B := f q) (C := _) (fun L' h1 _ => ?_) L (h q List.mem_cons_self) (h q List.mem_cons_self)
  rw [if_pos]
  intro x hx
  rw [List.mem_singleton.1 hx]
  exact h1
 | cons q' qs ih =>
  intro h
  refine semG_both (r := r) (A := f q') (C := _) (fun L' h1 h2 => ?_) L (h q' (by simp)) (ih fun x hx => h x (by rcases List.mem_cons.1 hx with e | e <;> simp [e]))
  split at h2
  ·rename_i h3
   rw [if_pos]
   intro x hx
   rcases List.mem_cons.1 hx with e | e
   ·subst e; exact h3 _ List.mem_cons_self
   ·rcases List.mem_cons.1 e with e | e
    ·subst e; exact h1
    ·exact h3 _ (List.mem_cons_of_mem _ e)
  ·cases h2
end
end Go.Proofs.YtmcbhnbemhfifaaDoor.RX
end
section
namespace Go.Proofs.YtmcbhnbemhfifaaDoor.RX
open Go Go.RowKit
set_option autoImplicit false
variable {G : Sig} {R : Type} {P : Program} {W : Rights} {w0 w w' : World} {Z Z' : Nat → Nat → Prop} {pl pl' : Nat → Value} {N : Nat}
variable {o : Oper} {L : St G} {K : St G → Option R} {r : R} {a : Act} {next : Act → World → Prop} {Q : Exit → Act → World → Prop}
theorem tmp_bool {a : Act} {t : Nat} {b : Bool} (h : a.tmps.getD t undef = .bool b) : a.tmps[t]? = some (.bool b) := by
 rw [Array.getD_eq_getD_getElem?] at h
 cases hh : a.tmps[t]? with
 | none => rw [hh] at h; cases h
 | some v => rw [hh] at h; simp only [Option.getD_some] at h; rw [h]
theorem semG_ok {E : Env G R} (all : List Oper) {o : Oper} {K : St G → Option R} {L : St G} {a : Act} {w : World} {Z : Nat → Nat → Prop} {pl : Nat → Value} {next : Act → World → Prop} {X : Prop}
  (h : semG E all o L K = some r) (S : Sat E.N W w0 Z pl L a w) (hK : Then E W w0 K r next) (hX : ∀ L, semOp E o L K = some r → Sat E.N W w0 Z pl L a w → X) :
  (Region.wanted o (yielded all.toArray a.tmps) = true → X) ∧ (Region.wanted o (yielded all.toArray a.tmps) = false → next (a.put o.dst undef) w) := by
 unfold semG at h
 split at h
 ·rename_i hg
  refine ⟨fun _ => hX L h S, fun hw => ?_⟩
  simp only [Region.wanted, hg] at hw
  cases hw
 ·rename_i j want hg
  have hwant : Region.wanted o (yielded all.toArray a.tmps) = (yielded all.toArray a.tmps j == some want) := by simp only [Region.wanted, hg]
  rw [hwant]
  split at h
  ·rename_i oj hj
   split at h
   ·rename_i t hdt
    rw [nth_eq] at hj
    have hyb : ∀ b, a.tmps.getD t undef = .bool b → yielded all.toArray a.tmps j = some b := by
     intro b hb
     simp only [yielded, List.getElem?_toArray, hj, Option.bind_some, hdt, tmp_bool hb]
    have hyu : a.tmps.getD t undef = undef → yielded all.toArray a.tmps j = none := by
     intro hu
     rw [Array.getD_eq_getD_getElem?] at hu
     simp only [yielded, List.getElem?_toArray, hj, Option.bind_some, hdt]
     cases hh : a.tmps[t]? with
     | none => rfl
     | some v => rw [hh] at hu; simp only [Option.getD_some] at hu; rw [hu]; rfl
    split at h
    ·rename_i s hst
     obtain ⟨b, hb, h1, h2⟩ := condK_ok h (S.tm t _ hst)
     rw [hyb b hb]
     cases b with
     | true =>
      have h1 := h1 rfl
      cases want with
      | true => exact ⟨fun _ => hX _ h1 (S.know t true hb), fun hw => absurd hw (by decide)⟩
      | false => exact ⟨fun hw => absurd hw (by decide), fun _ => out_ok h1 (S.know t true hb) (show DVOK _ _ _ _ DV.und undef from rfl) hK⟩
     | false =>
      have h2 := h2 rfl
      cases want with
      | false => exact ⟨fun _ => hX _ h2 (S.know t false hb), fun hw => absurd hw (by decide)⟩
      | true => exact ⟨fun hw => absurd hw (by decide), fun _ => out_ok h2 (S.know t false hb) (show DVOK _ _ _ _ DV.und undef from rfl) hK⟩
    ·rename_i hst
     rw [hyu (S.tm t _ hst)]
     exact ⟨fun hw => (by cases want <;> exact absurd hw (by decide)), fun _ => out_ok h S (show DVOK _ _ _ _ DV.und undef from rfl) hK⟩
    ·cases h
   ·cases h
  ·cases h
theorem semOps_ok {E : Env G R} (hs : SigOK G) (ht : TabOK P G) (hct : ∀ f c, E.ct f = some c → c.Holds P f) (all : List Oper) : ∀ (l : List Oper) {L : St G} {a : Act} {w : World} {Z : Nat → Nat → Prop} {pl : Nat → Value},
  semOps E all l L K = some r → Sat E.N W w0 Z pl L a w → Then E W w0 K r (fun a' w' => Q .normal a' w') → wpList P all.toArray Q l a w
 | [], L, a, w, Z, pl, h, S, hK => wpList_nil (hK L a w Z pl h S)
 | o :: l, L, a, w, Z, pl, h, S, hK => by
  have rest : ∀ (K' : Act → World → Prop), (∀ a w, wpList P all.toArray Q l a w → K' a w) → Then E W w0 (fun L' => semOps E all l L' K) r K' :=
   fun K' hK' L' a' w' Z' pl' h' S' => hK' a' w' (semOps_ok hs ht hct all l h' S' hK)
  simp only [semOps] at h
  refine wpList_step fun K' hK' => ?_
  obtain ⟨h1, h2⟩ := semG_ok (X := o.wp P a w K' Q) all h S (rest K' hK') (fun L' h' S' => semOp_ok hs ht hct h' S' (rest K' hK'))
  cases hw : Region.wanted o (yielded all.toArray a.tmps) with
  | true => rw [if_pos rfl]; exact h1 hw
  | false => rw [if_neg (by decide)]; exact h2 hw
theorem semG_step {E : Env G R} (hs : SigOK G) (ht : TabOK P G) (hct : ∀ f c, E.ct f = some c → c.Holds P f) (all : List Oper) {o : Oper} {i : Nat} (hi : all[i]? = some o) {K : St G → Option R} {L : St G} {a : Act} {w : World} {Z : Nat → Nat → Prop} {pl : Nat → Value} {next : Act → World → Prop}
  (h : semG E all o L K = some r) (S : Sat E.N W w0 Z pl L a w) (hK : Then E W w0 K r next) : stepX G P all Q i next a w := by
 unfold stepX
 rw [hi]
 simp only
 obtain ⟨h1, h2⟩ := semG_ok all h S hK (X := match kd G o.op with | 0 => o.wp P a w next Q | 1 => o.rd P a w next | _ => o.pu P a w next) (fun L' h' S' => by
  split
  ·exact semOp_ok hs ht hct h' S' hK
  ·rename_i hk; exact semOp_rd ht hs (by rw [hk]; rfl) h' S' hK
  ·rename_i n0 n1
   refine semOp_pu ht hs ?_ h' S' hK
   have n0 : kd G o.op ≠ 0 := n0
   have n1 : kd G o.op ≠ 1 := n1
   have : kd G o.op ≤ 2 := by
    unfold kd
    repeat' (first | (decide; done) | omega | split)
   rw [show kd G o.op = 2 by omega]
   rfl)
 cases hw : Region.wanted o (yielded all.toArray a.tmps) with
 | true => exact h1 hw
 | false => exact h2 hw
theorem tails_mem {i : Nat} {q : List Nat} : ∀ {ps : List (List Nat)}, q ∈ tails i ps → i :: q ∈ ps
 | [], h => by simp [tails] at h
 | [] :: ps, h => by simp only [tails] at h; exact List.mem_cons_of_mem _ (tails_mem h)
 | (j :: p) :: ps, h => by
  unfold tails at h
  split at h
  ·rename_i e
   have e := Nat.eq_of_beq_eq_true e
   subst e
   rcases List.mem_cons.1 h with h | h
   ·subst h; exact List.mem_cons_self
   ·exact List.mem_cons_of_mem _ (tails_mem h)
  ·exact List.mem_cons_of_mem _ (tails_mem h)
theorem hasNil_mem : ∀ {ps : List (List Nat)}, hasNil ps = true → [] ∈ ps
 | [], h => by simp [hasNil] at h
 | [] :: _, _ => List.mem_cons_self
 | (_ :: _) :: _, h => by unfold hasNil at h; exact List.mem_cons_of_mem _ (hasNil_mem h)
theorem waysB_nil {ops : List Oper} : ∀ {n : Nat} {m : List Nat}, waysB G ops n m [] = true → False
 | 0, m, h => by unfold waysB at h; split at h <;> simp [hasNil] at h
 | n + 1, m, h => by unfold waysB at h; split at h <;> simp [hasNil] at h
theorem eachB_ok {f : Nat → Bool} : ∀ {is : List Nat}, eachB f is = true → ∀ i ∈ is, f i = true
 | [], _, i, hi => by cases hi
 | j :: is, h, i, hi => by
  unfold eachB at h
  split at h
  ·rename_i hj
   rcases List.mem_cons.1 hi with e | e
   ·subst e; exact hj
   ·exact eachB_ok h i e
  ·cases h
theorem Sat.drew {L : St G} {a : Act} {w : World} {Z : Nat → Nat → Prop} {pl : Nat → Value} (S : Sat N W w0 Z pl L a w) (d : Nat) : Sat N W w0 Z pl L a { w with drawn := d } :=
 have X : Ext Z w pl L.nx Z { w with drawn := d } pl L.nx := ⟨Nat.le_refl _, fun _ _ => rfl, fun _ _ h => h, fun _ _ _ => rfl⟩
 S.at X (S.mem.keep X (fun o b k hg hl hk => ⟨rfl, fun i => S.mem.zfar o b k hg hl hk i⟩) (fun b i hz => S.mem.zlt b i hz) (fun b i hz => .inl hz)
  ⟨rfl, rfl, rfl, Nat.le_refl _, fun _ _ _ => rfl, fun _ cs _ _ _ _ h => ⟨cs, h, rfl, fun _ _ => rfl⟩⟩ (S.mem.tr.elim fun f T => ⟨f, T, fun o k hk => ⟨rfl, T.zfar o k hk⟩⟩)) rfl
theorem ways_ok {E : Env G R} (hs : SigOK G) (ht : TabOK P G) (hct : ∀ f c, E.ct f = some c → c.Holds P f) (ops : List Oper) (hsel : ∀ (j : Nat) (o : Oper) cs b, ops[j]? = some o → o.op ≠ .select cs b)
  (hQ : ∀ c a d v w, Q (.panic c) (a.put d v) w → Q (.panic c) a w) (hK : Then E W w0 K r (fun a' w' => Q .normal a' w')) : ∀ (n : Nat) (m : List Nat) (ps : List (List Nat)) (L : St G) (a : Act) (w : World) (Z : Nat → Nat → Prop) (pl : Nat → Value),
  waysB G ops n m ps = true → (∀ p ∈ ps, semS E ops p L K = some r) → Sat E.N W w0 Z pl L a w → AnyX G P ops Q n m a w := by
 have nilcase : ∀ (ps : List (List Nat)) (L : St G) (a : Act) (w : World) (Z : Nat → Nat → Prop) (pl : Nat → Value), hasNil ps = true → (∀ p ∈ ps, semS E ops p L K = some r) → Sat E.N W w0 Z pl L a w → Q .normal a w :=
  fun ps L a w Z pl h hp S => hK L a w Z pl (hp [] (hasNil_mem h)) S
 intro n
 induction n with
 | zero =>
  intro m ps L a w Z pl h hp S
  unfold waysB at h
  split at h
  ·rename_i hr; exact ⟨hr, nilcase ps L a w Z pl h hp S⟩
  ·cases h
 | succ n ih =>
  intro m ps L a w Z pl h hp S
  have one : ∀ i, i ∈ readyL m 0 ops → waysB G ops n (i :: m) (tails i ps) = true → stepX G P ops Q i (AnyX G P ops Q n (i :: m)) a w := by
   intro i hi hw
   obtain ⟨_, o, ho, _⟩ := mem_ready0.1 hi
   cases hq : tails i ps with
   | nil => rw [hq] at hw; exact (waysB_nil hw).elim
   | cons q qs =>
    have hall : ∀ x ∈ q :: qs, semG E ops o L (fun L' => semS E ops x L' K) = some r := by
     intro x hx
     have := hp (i :: x) (tails_mem (by rw [hq]; exact hx))
     simp only [semS, nth_eq, ho] at this
     exact this
    have comb := semG_all (f := fun x L' => semS E ops x L' K) L q qs hall
    refine semG_step hs ht hct ops ho comb S ?_
    intro L' a' w' Z' pl' hk S'
    simp only at hk
    split at hk
    ·rename_i hk'
     exact ih (i :: m) (tails i ps) L' a' w' Z' pl' hw (by rw [hq]; exact hk') S'
    ·cases hk
  unfold waysB at h
  split at h
  ·rename_i hr
   exact ⟨fun _ => nilcase ps L a w Z pl h hp S, fun i hi => by rw [hr] at hi; cases hi⟩
  ·rename_i r0 rs hr
   have each : eachB (fun i => waysB G ops n (i :: m) (tails i ps)) (r0 :: rs) = true → AnyX G P ops Q (n + 1) m a w := fun he =>
    ⟨fun h0 => (by rw [hr] at h0; cases h0), fun i hi => one i hi (eachB_ok he i (by rw [← hr]; exact hi))⟩
   split at h
   ·rename_i i _ _
    split at h
    ·rename_i h1 h2
     split at h
     ·cases h
     ·rename_i q qs hq
      have hi : i ∈ readyL m 0 ops := by rw [hr]; exact hasN_if.1 h2
      exact AnyX_take h1 hi hsel hQ (one i hi (by rw [hq]; exact h))
    ·exact each h
   ·cases h
def ordsB (G : Sig) (ords : List (Nat × List (List Nat))) : Code → Bool
 | .region id ops true => match get ords id with
  | some ps => match waysB G ops.toList ops.toList.length [] ps, Region.noSelect ops with | true, true => true | _, _ => false
  | none => false
 | .seq a b => match ordsB G ords a with | true => ordsB G ords b | false => false
 | .cond _ a b => match ordsB G ords a with | true => ordsB G ords b | false => false
 | .block _ a => ordsB G ords a
 | .loop a => ordsB G ords a
 | _ => true
def PtGood (E : Nat → Env G R) (p : Pt G R) (c : Cut G R) : Prop :=
 match p.kd with
 | .loop => (∀ h, c.g 0 h = none) ∧ ∀ k h, c.g (k + 1) h = semP E p k (instP c.pat (ofHL c.ts h))
 | .draw _ => ∀ k h r, c.g k h = some r → semP E p k (instP c.pat (ofHL c.ts h)) = some r
 | .join => ∀ k h, c.g k h = semP E p k (instP c.pat (ofHL c.ts h))
def AllGood (E : Nat → Env G R) (l : List (Pt G R)) : Prop := ∀ p ∈ l, ∀ c, cutOf E p = some c → PtGood E p c
structure Fam (P : Program) (W : Rights) (E : Nat → Env G R) : Prop where
 N : ∀ k, (E k).N = (E 0).N
 k : ∀ k, (E k).k = k
 pre : ∀ k, (E k).pre = W.fix
 loops : ∀ k, (E k).loops = (E 0).loops
 joins : ∀ k, (E k).joins = (E 0).joins
 ords : ∀ k, (E k).ords = (E 0).ords
theorem drawPts_mem {id : Nat} {c : Code} {Kf : Nat → Ex → St G → Option R} : ∀ {ps : List (List Nat)} {p : List Nat}, p ∈ ps → (⟨.draw p, some id, c, Kf⟩ : Pt G R) ∈ drawPts id c Kf ps
 | q :: ps, p, h => by
  unfold drawPts
  rcases List.mem_cons.1 h with e | e
  ·subst e; exact List.mem_cons_self
  ·exact List.mem_cons_of_mem _ (drawPts_mem e)
def PostQ (Q : Exit → Act → World → Prop) : Ex → Act → World → Prop
 | .nrm => Q .normal
 | .exit i => Q (.exit i)
 | .ret => Q .ret
theorem go_ok (hs : SigOK G) {E : Nat → Env G R} (F : Fam P W E) {k : Nat} {c : Cut G R} (h : c.go (E k).pre k L = some r) (S : Sat N W w0 Z pl L a w) :
  ∃ hh Z' pl', c.g k hh = some r ∧ Sat N W w0 Z' pl' (instP c.pat (ofHL c.ts hh)) a w := by
 simp only [Cut.go] at h
 split at h
 ·rename_i m hm
  split at h
  ·rename_i hh hhl
   rw [F.pre] at hm
   obtain ⟨Z', pl', H⟩ := matchP_ok hs hm S.closeAll.mem (idRen_lt (fun j hj => (S.closeAll.mem.fx j hj).1)) (val := fun t => a.tmps.getD t undef) S.closeAll.tm
   obtain ⟨m1, m2⟩ := H.inst
   have e := toHL_ofHL hhl
   refine ⟨hh, Z', renF m.ren pl', h, ?_⟩
   rw [e]
   exact ⟨S.size, S.defers, m2, m1⟩
  ·cases h
 ·cases h
theorem semC_ok (hs : SigOK G) (ht : TabOK P G) (hm : P.follows .mixedOrders = true) {E : Nat → Env G R} (F : Fam P W E) (r : R) : ∀ (code : Code) (k : Nat) (hct : ∀ j, j ≤ k → ∀ f c, (E j).ct f = some c → c.Holds P f) (Kf : Nat → Ex → St G → Option R) (Q : Exit → Act → World → Prop) (L : St G) (a : Act) (w : World) (Z : Nat → Nat → Prop) (pl : Nat → Value),
  semC (E k) code L (Kf k) = some r → Sat (E 0).N W w0 Z pl L a w → AllGood E (ptsOf E code Kf) → ordsB G (E 0).ords code = true → (∀ c a d v w, Q (.panic c) (a.put d v) w → Q (.panic c) a w) →
  (∀ k', k' ≤ k → ∀ e L' a' w' Z' pl', Kf k' e L' = some r → Sat (E 0).N W w0 Z' pl' L' a' w' → PostQ Q e a' w') → code.wp P Q a w := by
 intro code
 induction code with
 | skip => exact fun k hct Kf Q L a w Z pl h S _ _ _ hK => wp_skip (hK k (Nat.le_refl _) .nrm L a w Z pl h S)
 | exit id => exact fun k hct Kf Q L a w Z pl h S _ _ _ hK => wp_exit (hK k (Nat.le_refl _) (.exit id) L a w Z pl h S)
 | ret => exact fun k hct Kf Q L a w Z pl h S _ _ _ hK => wp_ret (hK k (Nat.le_refl _) .ret L a w Z pl h S)
 | region id ops draw =>
  intro k hct Kf Q L a w Z pl h S hg ho hQ hK
  cases draw with
  | true =>
   simp only [ordsB] at ho
   split at ho
   ·rename_i ps hps
    split at ho
    ·rename_i hw hsel
     have go : ∀ (L : St G) (Z : Nat → Nat → Prop) (pl : Nat → Value), (∀ p ∈ ps, semS (E k) ops.toList p L (Kf k .nrm) = some r) → Sat (E 0).N W w0 Z pl L a w → (Code.region id ops true).wp P Q a w := by
      intro L Z pl hp S
      have := wp_region_X (id := id) (ops := ops.toList) hm (ways_ok (Q := Q) hs ht (hct k (Nat.le_refl _)) ops.toList (fun j o cs b hj => Region.noSelect_spec hsel j o cs b (by rw [← hj]; exact Array.getElem?_toList.symm)) hQ (fun L' a' w' Z' pl' h' S' => hK k (Nat.le_refl _) .nrm L' a' w' Z' pl' h' (by rw [F.N] at S'; exact S')) ops.toList.length [] ps L a _ Z pl hw hp (by rw [F.N]; exact S.drew (w.drawn + 1)))
      simpa using this
     simp only [semC, F.ords, hps] at h
     split at h
     ·rename_i p hp
      injection hp with hp
      subst hp
      exact go L Z pl (fun q hq => by rw [List.mem_singleton.1 hq]; exact h) S
     ·rename_i p q qs hp
      injection hp with hp
      subst hp
      split at h
      ·rename_i c hc
       rw [F.k] at h
       obtain ⟨hh, Z2, pl2, g1, g2⟩ := go_ok hs F h S
       refine go _ Z2 pl2 (fun x hx => ?_) g2
       have := hg ⟨.draw x, some (id + 100000), .region id ops true, Kf⟩ (by simp only [ptsOf, hps]; exact drawPts_mem hx) c (by rw [F.joins] at hc; exact hc)
       have this : ∀ k h r, c.g k h = some r → semS (E k) ops.toList x (instP c.pat (ofHL c.ts h)) (Kf k .nrm) = some r := this
       exact this _ _ _ g1
      ·cases h
     ·cases h
    ·cases ho
   ·cases ho
  | false =>
   simp only [semC] at h
   refine wp_region_list ?_
   have := semOps_ok (Q := Q) hs ht (hct k (Nat.le_refl _)) ops.toList ops.toList h (by rw [F.N]; exact S) (fun L' a' w' Z' pl' h' S' => hK k (Nat.le_refl _) .nrm L' a' w' Z' pl' h' (by rw [F.N] at S'; exact S'))
   simpa using this
 | seq x y ihx ihy =>
  intro k hct Kf Q L a w Z pl h S hg ho hQ hK
  simp only [semC] at h
  obtain ⟨ho1, ho2⟩ : ordsB G (E 0).ords x = true ∧ ordsB G (E 0).ords y = true := by
   simp only [ordsB] at ho
   split at ho
   ·rename_i h1; exact ⟨h1, ho⟩
   ·cases ho
  refine wp_seq (ihx k hct (fun k => seqK (E k) y (fun L' => semC (E k) y L' (Kf k)) (Kf k)) _ L a w Z pl h S (fun p hp => hg p (by simp only [ptsOf]; exact List.mem_cons_of_mem _ (List.mem_append_left _ hp))) ho1 hQ ?_)
  intro k' hk' e L' a' w' Z' pl' h' S'
  have hgy : AllGood E (ptsOf E y Kf) := fun p hp => hg p (by simp only [ptsOf]; exact List.mem_cons_of_mem _ (List.mem_append_right _ hp))
  have hy := ihy k' (fun j hj => hct j (Nat.le_trans hj hk')) Kf Q
  have hK' := fun k'' (hk'' : k'' ≤ k') => hK k'' (Nat.le_trans hk'' hk')
  cases e with
  | nrm =>
   show y.wp P Q a' w'
   simp only [seqK] at h'
   split at h'
   ·rename_i c hc
    rw [F.k] at h'
    obtain ⟨hh, Z2, pl2, g1, g2⟩ := go_ok hs F h' S'
    have := hg ⟨.join, rid y, y, Kf⟩ (by simp only [ptsOf]; exact List.mem_cons_self) c (by rw [F.joins] at hc; exact hc)
    have this : ∀ k h, c.g k h = semC (E k) y (instP c.pat (ofHL c.ts h)) (Kf k) := this
    rw [this] at g1
    exact hy _ a' w' Z2 pl2 g1 g2 hgy ho2 hQ hK'
   ·exact hy L' a' w' Z' pl' h' S' hgy ho2 hQ hK'
  | exit i => exact hK k' hk' (.exit i) L' a' w' Z' pl' h' S'
  | ret => exact hK k' hk' .ret L' a' w' Z' pl' h' S'
 | cond c x y ihx ihy =>
  intro k hct Kf Q L a w Z pl h S hg ho hQ hK
  simp only [semC] at h
  obtain ⟨ho1, ho2⟩ : ordsB G (E 0).ords x = true ∧ ordsB G (E 0).ords y = true := by
   simp only [ordsB] at ho
   split at ho
   ·rename_i h1; exact ⟨h1, ho⟩
   ·cases ho
  split at h
  ·rename_i s hsc
   obtain ⟨b, hb, h1, h2⟩ := condK_ok h (evalO_ok S hsc)
   have gx : AllGood E (ptsOf E x Kf) := fun p hp => hg p (by simp only [ptsOf]; exact List.mem_append_left _ hp)
   have gy : AllGood E (ptsOf E y Kf) := fun p hp => hg p (by simp only [ptsOf]; exact List.mem_append_right _ hp)
   refine wp_cond hb ?_
   cases b with
   | true => exact ihx k hct Kf Q _ a w Z pl (h1 rfl) (S.knowO c true hb) gx ho1 hQ hK
   | false => exact ihy k hct Kf Q _ a w Z pl (h2 rfl) (S.knowO c false hb) gy ho2 hQ hK
  ·cases h
 | block id x ih =>
  intro k hct Kf Q L a w Z pl h S hg ho hQ hK
  simp only [semC] at h
  refine wp_block (ih k hct (fun k => blockK id (Kf k)) _ L a w Z pl h S (fun p hp => hg p (by simp only [ptsOf]; exact hp)) ho hQ ?_)
  intro k' hk' e L' a' w' Z' pl' h' S'
  cases e with
  | nrm => exact hK k' hk' .nrm L' a' w' Z' pl' h' S'
  | exit i =>
   simp only [blockK] at h'
   show Exit.inBlock id Q (.exit i) a' w'
   split at h'
   ·rename_i hi
    have hi := Nat.eq_of_beq_eq_true hi
    simp only [Exit.inBlock, if_pos hi]
    exact hK k' hk' .nrm L' a' w' Z' pl' h' S'
   ·rename_i hi
    have hi : i ≠ id := by intro e; rw [e, Nat.beq_refl] at hi; cases hi
    simp only [Exit.inBlock, if_neg hi]
    exact hK k' hk' (.exit i) L' a' w' Z' pl' h' S'
  | ret => exact hK k' hk' .ret L' a' w' Z' pl' h' S'
 | loop x ih =>
  intro k hct Kf Q L a w Z pl h S hg ho hQ hK
  simp only [semC, goLoop] at h
  split at h
  ·rename_i c hc
   rw [F.k] at h
   rw [F.loops] at hc
   have hgood := hg ⟨.loop, rid x, x, Kf⟩ (by simp only [ptsOf]; exact List.mem_cons_self) c hc
   obtain ⟨g0, gs⟩ : (∀ h, c.g 0 h = none) ∧ ∀ k h, c.g (k + 1) h = semC (E k) x (instP c.pat (ofHL c.ts h)) (loopK (E k) x (Kf k)) := hgood
   have hgx : AllGood E (ptsOf E x (fun k => loopK (E k) x (Kf k))) := fun p hp => hg p (by simp only [ptsOf]; exact List.mem_cons_of_mem _ hp)
   obtain ⟨hh, Z1, pl1, q1, q2⟩ := go_ok hs F h S
   refine wp_loop_ghost (fun n a w => n ≤ k ∧ ∃ hh Z pl, c.g n hh = some r ∧ Sat (E 0).N W w0 Z pl (instP c.pat (ofHL c.ts hh)) a w) k ⟨Nat.le_refl _, hh, Z1, pl1, q1, q2⟩ ?_
   rintro n a1 w1 ⟨hn, hh1, Z2, pl2, p1, p2⟩
   cases n with
   | zero => rw [g0] at p1; cases p1
   | succ n =>
    rw [gs] at p1
    refine ih n (fun j hj => hct j (by omega)) (fun k => loopK (E k) x (Kf k)) _ _ a1 w1 Z2 pl2 p1 p2 hgx ho hQ ?_
    intro k' hk' e L' a' w' Z' pl' h' S'
    cases e with
    | nrm =>
     simp only [loopK, goLoop] at h'
     rw [F.loops, hc] at h'
     simp only at h'
     rw [F.k] at h'
     obtain ⟨hh2, Z3, pl3, t1, t2⟩ := go_ok hs F h' S'
     exact ⟨k', by omega, by omega, hh2, Z3, pl3, t1, t2⟩
    | exit i => exact hK k' (by omega) (.exit i) L' a' w' Z' pl' h' S'
    | ret => exact hK k' (by omega) .ret L' a' w' Z' pl' h' S'
  ·cases h
 | _ => intro k hct Kf Q L a w Z pl h; simp [semC] at h
end Go.Proofs.YtmcbhnbemhfifaaDoor.RX
end
section
namespace Go.Proofs.YtmcbhnbemhfifaaDoor.RX
open Go Go.RowKit
set_option autoImplicit false
variable {G : Sig} {P : Program} {W : Rights} {w0 w w' : World} {Z Z' : Nat → Nat → Prop} {pl pl' : Nat → Value} {N : Nat} {L : St G} {a : Act}
def resM (tmps : Array Value) : ResultVar → Sem Value
 | .tmp t => pure (tmps.getD t undef)
 | .cell t T => do loadVar T (← asAddr (tmps.getD t undef))
theorem resK_ok (ht : TabOK P G) (S : Sat N W w0 Z pl L a w) : ∀ {rs : List ResultVar} {j : Nat} {ds : List (Nat × DV G)}, resK L j rs = some ds →
  ∃ vals : List Value, (rs.mapM (resM a.tmps)).run P w = .ok vals w ∧ vals.length = rs.length ∧ ds.map (·.1) = List.range' j rs.length ∧ ∀ t d, get ds t = some d → j ≤ t ∧ DVOK Z w pl L.nx d (vals.getD (t - j) undef)
 | [], j, ds, h => by simp only [resK, Option.some.injEq] at h; subst h; exact ⟨[], rfl, rfl, rfl, fun t d hg => by simp [get] at hg⟩
 | rv :: rs, j, ds, h => by
  have step : ∀ (s : SV G) (u : Value) (l : List (Nat × DV G)), (resM a.tmps rv).run P w = .ok u w → SVOK Z w pl L.nx s u → resK L (j + 1) rs = some l → ds = (j, .sv s) :: l →
    ∃ vals : List Value, ((rv :: rs).mapM (resM a.tmps)).run P w = .ok vals w ∧ vals.length = (rv :: rs).length ∧ ds.map (·.1) = List.range' j (rv :: rs).length ∧ ∀ t d, get ds t = some d → j ≤ t ∧ DVOK Z w pl L.nx d (vals.getD (t - j) undef) := by
   intro s u l h1 h2 h3 h4
   subst h4
   obtain ⟨vals, k1, k2, k3, k4⟩ := resK_ok ht S h3
   refine ⟨u :: vals, ?_, by simp [k2], by simp only [List.map_cons, k3, List.length_cons, List.range'_succ], fun t d hg => ?_⟩
   ·rw [List.mapM_cons, Sem.run_bind, h1]
    simp only [Result.andThen_ok]
    rw [Sem.run_bind, k1]
    rfl
   ·rw [get_cons] at hg
    split at hg
    ·rename_i e
     injection hg with hg
     subst e hg
     rw [Nat.sub_self]
     exact ⟨Nat.le_refl _, h2⟩
    ·obtain ⟨m1, m2⟩ := k4 t d hg
     refine ⟨by omega, ?_⟩
     rw [show t - j = (t - (j + 1)) + 1 by omega, List.getD_cons_succ]
     exact m2
  cases rv with
  | tmp t =>
   simp only [resK] at h
   split at h
   ·rename_i s hs
    split at h
    ·rename_i l hl
     injection h with h
     exact step s _ l rfl (S.tm t _ hs) hl h.symm
    ·cases h
   ·cases h
  | cell t T =>
   simp only [resK] at h
   split at h
   ·rename_i i off ti hx hti
    have tk := ht T ti hti
    split at h
    ·rename_i ro ls hg
     split at h
     ·rename_i hle
      rw [len_eq, len_eq] at hle
      have hle := ble_iff.1 hle
      split at h
      ·rename_i s hsl
       rw [len_eq] at hsl
       split at h
       ·rename_i l hl
        injection h with h
        obtain ⟨⟨_, b, hb, hv⟩, _⟩ := S.tm t _ hx
        obtain ⟨b', T', cs, k1, k2, k3⟩ := S.mem.ob i _ hg
        rw [hb] at k1
        injection k1 with k1
        injection k1 with k1
        injection k1 with k1
        subst k1
        have hlen := k3.length
        obtain ⟨u, u1, u2, u3, _⟩ := svLs_ok hsl ((k3.drop off).take ti.leaves.length)
        obtain ⟨u', v1, v2, v3⟩ := run_loadAt (w := w) ti tk (b := b) (off := off) (cs := (cs.drop off).take ti.leaves.length) (fun j v hj => by
         rw [List.getElem?_take] at hj
         split at hj
         ·rw [List.getElem?_drop] at hj
          exact row_cells k2 _ _ hj
         ·cases hj) (by rw [List.length_take, List.length_drop]; omega)
        have : u' = u := by
         cases hagg : ti.agg with
         | true => rw [v2 hagg, u2 hagg]
         | false => have := (v3 hagg).symm.trans (u3 hagg); injection this
        subst this
        refine step s u' l ?_ u1 hl h.symm
        show ((do loadVar T (← asAddr (a.tmps.getD t undef))) : Sem Value).run P w = _
        rw [hv]
        have v1' := v1
        unfold Instr.loadAt at v1'
        simp only [Instr.sureAddr, Sem.run_bind, Sem.run_pure, Result.andThen_ok] at v1'
        simp only [asAddr, Sem.run_bind, Sem.run_pure, Result.andThen_ok]
        exact v1'
       ·cases h
      ·cases h
     ·cases h
    ·cases h
   ·cases h
theorem results_run {fn : Func} {tmps : Array Value} {vals : List Value} (h : (fn.results.toList.mapM (resM tmps)).run P w = .ok vals w) : (results fn tmps).run P w = .ok (if _h : vals.toArray.size = 1 then vals.toArray[0] else .tuple vals.toArray) w := by
 unfold results
 rw [Sem.run_bind]
 have e : (fn.results.mapM (fun (x : ResultVar) => match x with
  | .tmp t => (pure (tmps.getD t undef) : Sem Value)
  | .cell a t => do loadVar t (← asAddr (tmps.getD a undef)))).run P w = (Result.ok vals.toArray w : Result (Array Value)) := by
  rw [Array.mapM_eq_mapM_toList, Sem.run_map]
  have : (fun (x : ResultVar) => match x with
   | .tmp t => (pure (tmps.getD t undef) : Sem Value)
   | .cell a t => do loadVar t (← asAddr (tmps.getD a undef))) = resM tmps := by
   funext x
   cases x <;> rfl
  rw [this, h]
  rfl
 erw [e]
 rfl
theorem fn_ok (hs : SigOK G) (ht : TabOK P G) (hm : P.follows .mixedOrders = true) {fid : FuncId} {fn : Func} {body : Code} (hf : P.funcs[fid]? = some fn) (hb : fn.body = some body) (hname : (fn.name == "runtime.NumGoroutine") = false)
  (c : Ct G) (E : Nat → Env G (HL G.S c.ots)) (k : Nat) (hN : ∀ j, (E j).N = fn.ntmps) (hk : ∀ j, (E j).k = j) (hpre : ∀ j, (E j).pre = fixOf 0 c.ip.objs) (hl : ∀ j, (E j).loops = (E 0).loops) (hj : ∀ j, (E j).joins = (E 0).joins) (ho : ∀ j, (E j).ords = (E 0).ords) (hords : ordsB G (E 0).ords body = true)
  (hct : ∀ j, j ≤ k → ∀ f c', (E j).ct f = some c' → c'.Holds P f) (hgood : AllGood E (ptsOf E body (fun _ => retK fn c))) (hF : ∀ h, c.F h = semF c (E k) fn body h)
  (hsz : c.ip.tmps.length ≤ fn.ntmps) (hrs : c.rp.tmps.length = fn.results.toList.length) (wf : okIO c.ip.objs c.rp.objs = true) (keys : keysOK 0 c.rp.tmps = true) (brw : c.br = true → brOK c = true) : c.Holds P fid := by
 refine ⟨wf, keys, brw, fun Wr Z pl w args h r hFr hargs htm M => .inr ⟨?_, ?_⟩⟩
 ·simp only [callFunc, Sem.run_bind, run_program, Result.andThen_ok, hf]
  rw [if_neg (by rw [hname]; decide), hb]
  rfl
 ·refine calls_of_wp hf hb ?_
  rw [hF] at hFr
  let W : Rights := ⟨Wr, Z, fixOf 0 c.ip.objs, pl⟩
  have F : Fam P W E := ⟨fun j => by rw [hN, hN], hk, hpre, hl, hj, ho⟩
  have S : Sat (E 0).N W w Z pl (instP c.ip (ofHL c.its h)) { tmps := args ++ Array.replicate (fn.ntmps - args.size) undef, defers := [] } w := by
   refine ⟨?_, rfl, fun t d hg => ?_, M⟩
   ·rw [hN]; simp only [Array.size_append, Array.size_replicate]; omega
   ·have := htm t d hg
    have e : (args ++ Array.replicate (fn.ntmps - args.size) undef).getD t undef = args.getD t undef := by
     rw [Array.getD_eq_getD_getElem?, Array.getD_eq_getD_getElem?, Array.getElem?_append]
     split
     ·rfl
     ·rename_i hlt
      rw [Array.getElem?_eq_none (xs := args) (by omega), Array.getElem?_replicate]
      split <;> rfl
    show DVOK _ _ _ _ _ ((args ++ Array.replicate (fn.ntmps - args.size) undef).getD t undef)
    rw [e]
    exact this
  refine semC_ok (W := W) hs ht hm F r body k hct (fun _ => retK fn c) _ _ _ w Z pl hFr S hgood hords (fun ch a d v w h => by cases d <;> exact h) ?_
  intro k' _ e L' a' w' Z' pl' h' S'
  have fin : (match resK L' 0 fn.results.toList with
   | some ds => match closeAll L' with
    | ⟨_, ob, nx⟩ => match wkDs ob c.rp.tmps ds with
     | (ds', gs) => gdK gs (retM c ds' ob nx)
   | none => none) = some r → a'.defers = [] ∧ ∃ v, (results fn a'.tmps).run P w' = .ok v w' ∧ ∃ v', Ending.returned v = .returned v' ∧ ∃ Z' pr,
   (∀ t d, get (instP c.rp (ofHL c.ots r)).tmps t = some d → DVOK Z' w' pr (instP c.rp (ofHL c.ots r)).nx d (compV c.rp.tmps.length v' t)) ∧
   (c.rp.tmps.length = 1 ∨ ∃ vs : List Value, v' = .tuple vs.toArray ∧ vs.length = c.rp.tmps.length) ∧
   Mem W w Z' pr (instP c.rp (ofHL c.ots r)).objs (instP c.rp (ofHL c.ots r)).nx w' := by
   intro h'
   split at h'
   ·rename_i ds hds
    obtain ⟨vals, r1, r2, r3, r4⟩ := resK_ok ht S' hds
    have hnx := (closeAll_tm L').2
    have S2 := S'.closeAll
    generalize closeAll L' = LC at h' hnx S2
    cases LC with
    | mk tm ob nx =>
    have hnx : nx = L'.nx := hnx
    simp only at h'
    obtain ⟨hgs, h'⟩ := gdK_some h'
    simp only [retM] at h'
    have M2 : Mem W w Z' pl' ob nx w' := S2.mem
    split at h'
    ·rename_i m hm
     obtain ⟨Z2, pl2, H⟩ := matchP_ok hs hm (show Mem W w Z' pl' ob nx w' from S2.mem) (idRen_lt (fun j hj => (S2.mem.fx j hj).1)) (val := fun t => vals.getD t undef)
      (wkDs_ok M2 hgs (val := fun t => vals.getD t undef) fun t d hg => by have := (r4 t d hg).2; rw [Nat.sub_zero] at this; rw [hnx]; exact this)
     obtain ⟨m1, m2⟩ := Matched.inst H
     have e := toHL_ofHL h'
     refine ⟨S'.defers, _, results_run r1, _, rfl, Z2, renF m.ren pl2, ?_, ?_, by rw [e]; exact m1⟩
     ·rw [e]
      intro t d hg
      have hd := m2 t d hg
      have hkeys : (instP c.rp m.out).tmps.map (·.1) = List.range' 0 c.rp.tmps.length := by
       have : (instP c.rp m.out).tmps = (iTmps (fun j => j) c.rp.tmps m.out).1 := rfl
       rw [this, iTmps_keys, keysOK_ok keys]
      have hlt : t < c.rp.tmps.length := by
       have hm := List.mem_map_of_mem (f := fun x => x.1) (get_mem hg)
       rw [hkeys, List.mem_range'_1] at hm
       omega
      have hvl : vals.length = c.rp.tmps.length := by rw [r2, hrs]
      unfold compV
      split
      ·rename_i h1
       rw [dif_pos (by rw [List.size_toArray, hvl, h1])]
       have ht0 : t = 0 := by omega
       subst ht0
       rw [show vals.getD 0 undef = vals.toArray[0]'(by rw [List.size_toArray]; omega) from by simp [List.getD, show 0 < vals.length by omega]] at hd
       exact hd
      ·rename_i h1
       rw [dif_neg (by rw [List.size_toArray, hvl]; exact h1)]
       simp only
       rw [show vals.toArray.getD t undef = vals.getD t undef from by simp [Array.getD_eq_getD_getElem?, List.getD_eq_getElem?_getD]]
       exact hd
     ·by_cases h1 : c.rp.tmps.length = 1
      ·exact .inl h1
      ·refine .inr ⟨vals, ?_, by rw [r2, hrs]⟩
       rw [dif_neg (by rw [List.size_toArray, r2, ← hrs]; exact h1)]
    ·cases h'
   ·cases h'
  cases e with
  | nrm => exact fin h'
  | exit i => cases h'
  | ret => exact fin h'
end Go.Proofs.YtmcbhnbemhfifaaDoor.RX
end
section
namespace Go.Proofs.YtmcbhnbemhfifaaDoor.RX
open Go Go.RowKit
set_option autoImplicit false
variable {G : Sig} {R : Type} {P : Program}
def cutAt (x : Option (Pt G R × Cut G R)) : Option (Cut G R) := match x with | some (_, c) => some c | none => none
def kdAt (x : Option (Pt G R × Cut G R)) : Bool := match x with | none => false | some (p, _) => match p.kd with | .loop => true | _ => false
theorem used_mem {E : Nat → Env G R} : ∀ {l : List (Pt G R)} {p : Pt G R} {c : Cut G R}, p ∈ l → cutOf E p = some c → (p, c) ∈ used E l
 | q :: l, p, c, h, hc => by
  rcases List.mem_cons.1 h with h | h
  ·subst h
   unfold used
   rw [hc]
   exact List.mem_cons_self
  ·unfold used
   split
   ·exact List.mem_cons_of_mem _ (used_mem h hc)
   ·exact used_mem h hc
def AtGood (E : Nat → Env G R) (x : Option (Pt G R × Cut G R)) : Prop := ∀ p c, x = some (p, c) → PtGood E p c
theorem allGood {E : Nat → Env G R} {l : List (Pt G R)} (n : Nat) (hn : len (used E l) = n) (h : ∀ i, i < n → AtGood E (nth (used E l) i)) : AllGood E l := by
 intro p hp c hc
 obtain ⟨i, hi⟩ := List.getElem?_of_mem (used_mem hp hc)
 have hlt : i < n := by
  rw [← hn, len_eq]
  exact (List.getElem?_eq_some_iff.1 hi).1
 refine h i hlt p c ?_
 rw [nth_eq]
 exact hi
def fldB (P : Program) (n : Nat) : List Field → List (Nat × Nat) → Bool
 | [], [] => true
 | f :: fs, (d, m) :: r => match P.info? f.type, P.underlying f.type with
  | some i, some dd => Nat.beq f.offset d && (Nat.beq i.size m && (Nat.ble (d + m) n && ((!Nat.beq m 1 || !isAggD dd) && fldB P n fs r)))
  | _, _ => false
 | _, _ => false
def stfB (G : Sig) : Nat → List Ty → List (Nat × Nat) → Bool
 | _, [], _ => true
 | _, _ :: _, [] => true
 | o, t :: ts, (d, m) :: r => Nat.beq d o && (Nat.beq m (G.csz t) && stfB G (o + G.csz t) ts r)
theorem fldB_ok {n : Nat} : ∀ {fs : List Field} {l : List (Nat × Nat)}, fldB P n fs l = true → fs.mapM (fun f => (P.info? f.type).map fun i => (f.offset, i.size)) = some l ∧
  ∀ f d m, nth l f = some (d, m) → ∃ fd, fs[f]? = some fd ∧ fd.offset = d ∧ d + m ≤ n ∧ ∃ i, P.info? fd.type = some i ∧ i.size = m ∧ (m = 1 → ∃ dd, P.underlying fd.type = some dd ∧ isAggD dd = false)
 | [], [], _ => ⟨rfl, fun f d m h => by cases f <;> cases h⟩
 | f :: fs, (d, m) :: r, h => by
  simp only [fldB] at h
  split at h
  ·rename_i i dd hi hd
   simp only [Bool.and_eq_true, Bool.or_eq_true, Bool.not_eq_true'] at h
   obtain ⟨h1, h2, h3, h4, h5⟩ := h
   obtain ⟨k1, k2⟩ := fldB_ok h5
   have h1 := Nat.eq_of_beq_eq_true h1
   have h2 := Nat.eq_of_beq_eq_true h2
   have h3 := ble_iff.1 h3
   refine ⟨?_, fun g d' m' hg => ?_⟩
   ·rw [List.mapM_cons, hi, k1]
    simp [h1, h2]
   ·cases g with
    | zero =>
     simp only [nth, Option.some.injEq, Prod.mk.injEq] at hg
     obtain ⟨e1, e2⟩ := hg
     subst e1 e2
     refine ⟨f, rfl, h1, h3, i, hi, h2, fun hm => ⟨dd, hd, ?_⟩⟩
     subst hm
     rcases h4 with h4 | h4
     ·cases h4
     ·exact h4
    | succ g => exact k2 g d' m' hg
  ·cases h
theorem stfB_ok : ∀ {ts : List Ty} {l : List (Nat × Nat)} {o : Nat}, stfB G o ts l = true → ∀ f d n t, nth l f = some (d, n) → nth ts f = some t → d = o + sumSz G (ts.take f) ∧ n = G.csz t
 | [], l, o, _, f, d, n, t, _, ht => by cases f <;> cases ht
 | _ :: _, [], o, _, f, d, n, t, hl, _ => by cases f <;> cases hl
 | u :: ts, (d', m') :: r, o, h, f, d, n, t, hl, ht => by
  simp only [stfB, Bool.and_eq_true] at h
  obtain ⟨h1, h2, h3⟩ := h
  cases f with
  | zero =>
   simp only [nth, Option.some.injEq, Prod.mk.injEq] at hl ht
   obtain ⟨e1, e2⟩ := hl
   subst e1 e2 ht
   exact ⟨Nat.eq_of_beq_eq_true h1, Nat.eq_of_beq_eq_true h2⟩
  | succ f =>
   obtain ⟨k1, k2⟩ := stfB_ok h3 f d n t hl ht
   refine ⟨?_, k2⟩
   rw [k1, List.take_succ_cons]
   show _ = o + (G.csz u + sumSz G (ts.take f))
   omega
def fsOf (P : Program) (T : TypeId) : List Field := match P.underlying T with | some (.struct fs) => fs.toList | _ => []
def isStruct (P : Program) (T : TypeId) : Bool := match P.underlying T with | some (.struct _) => true | _ => false
section
variable {T : TypeId}
theorem opt_map {α β : Type} {f : α → β} {x : Option α} {y : β} (h : x.map f = some y) : ∃ a, x = some a ∧ f a = y := by
 cases x with
 | none => cases h
 | some a => exact ⟨a, rfl, by injection h⟩
theorem tokScal {d : TypeDesc} (l : LTy) (t : Option Ty) (hi : (P.info? T).map (fun i => (i.size, i.zero)) = some (1, some (zv l))) (hu : P.underlying T = some d) (ha : isAggD d = false)
  (hlv : ∀ u, t = some u → G.csz u = 1 ∧ isSt u = false)
  (hsl : ∀ e u, t = some (.sl e u) → d = .slice e ∧ ∃ i z, P.info? e = some i ∧ i.size = G.csz u ∧ i.zero = some z ∧ z.cells.size = G.csz u ∧ 0 < G.csz u ∧ G.cap e * i.bytes ≤ 140737488355328 ∧ G.cap e ≤ maxLen)
  (hint : ∀ k, t = some (.int k) → d = .int k) (hstr : t = some .str → d = .string) (hbool : t = some .bool → d = .bool)
  (hptr : l = .ptr → ∃ e, d = .pointer e) (hfn : l = .fn → ∃ x y z, d = .func x y z)
  (hmp : ∀ kt vt, l = .mp kt vt → keyT kt = true → scalT vt = true → ∃ k e i, d = .map k e ∧ P.underlying k = some (descOf kt) ∧ P.info? e = some i ∧ i.zero = some (zv (.t vt)) := by intro kt vt h; cases h) : TOK P G T ⟨[l], [], false, t⟩ := by
 obtain ⟨i, h1, h2⟩ := opt_map hi
 injection h2 with h2 h3
 exact {
  size := ⟨i, h1, h2, fun _ => h3⟩
  agg := ⟨d, hu, ha⟩
  one := fun _ => ⟨l, rfl⟩
  lv := hlv
  sl := fun e u h => by obtain ⟨a, b⟩ := hsl e u h; subst a; exact ⟨hu, b⟩
  int := fun k h => by rw [← hint k h]; exact hu
  str := fun h => by rw [← hstr h]; exact hu
  bool := fun h => by rw [← hbool h]; exact hu
  mp := fun kt vt h h1 h2 => by obtain ⟨k, e, i, he, b⟩ := hmp kt vt (by injection h) h1 h2; subst he; exact ⟨k, e, i, hu, b⟩
  ptr := fun h => by obtain ⟨e, he⟩ := hptr (by injection h); subst he; exact ⟨e, hu⟩
  fn := fun h => by obtain ⟨x, y, z, he⟩ := hfn (by injection h); subst he; exact ⟨x, y, z, hu⟩
  flds := fun f d n h => by cases f <;> cases h
  bld := fun h => by cases h
  stf := fun s h f d n t h' => by cases f <;> cases h' }
theorem tokInt (k : IntKind) (hi : (P.info? T).map (fun i => (i.size, i.zero)) = some (1, some (zv (.t (.int k))))) (hu : P.underlying T = some (.int k)) : TOK P G T ⟨[.t (.int k)], [], false, some (.int k)⟩ :=
 tokScal _ _ hi hu rfl (by rintro u ⟨⟩; exact ⟨rfl, rfl⟩) (by intro e u h; cases h) (by rintro k' ⟨⟩; rfl) (by intro h; cases h) (by intro h; cases h) (by intro h; cases h) (by intro h; cases h)
theorem tokBool (hi : (P.info? T).map (fun i => (i.size, i.zero)) = some (1, some (zv (.t .bool)))) (hu : P.underlying T = some .bool) : TOK P G T ⟨[.t .bool], [], false, some .bool⟩ :=
 tokScal _ _ hi hu rfl (by rintro u ⟨⟩; exact ⟨rfl, rfl⟩) (by intro e u h; cases h) (by intro k h; cases h) (by intro h; cases h) (by intro _; rfl) (by intro h; cases h) (by intro h; cases h)
theorem tokStr (hi : (P.info? T).map (fun i => (i.size, i.zero)) = some (1, some (zv (.t .str)))) (hu : P.underlying T = some .string) : TOK P G T ⟨[.t .str], [], false, some .str⟩ :=
 tokScal _ _ hi hu rfl (by rintro u ⟨⟩; exact ⟨rfl, rfl⟩) (by intro e u h; cases h) (by intro k h; cases h) (by intro _; rfl) (by intro h; cases h) (by intro h; cases h) (by intro h; cases h)
theorem tokPtr {e : TypeId} (hi : (P.info? T).map (fun i => (i.size, i.zero)) = some (1, some (zv .ptr))) (hu : P.underlying T = some (.pointer e)) : TOK P G T ⟨[.ptr], [], false, none⟩ :=
 tokScal _ _ hi hu rfl (by intro u h; cases h) (by intro e u h; cases h) (by intro k h; cases h) (by intro h; cases h) (by intro h; cases h) (by intro _; exact ⟨e, rfl⟩) (by intro h; cases h)
theorem tokSl (e : TypeId) (t : Ty) {n : Nat} (hi : (P.info? T).map (fun i => (i.size, i.zero)) = some (1, some (zv (.t (.sl e t))))) (hu : P.underlying T = some (.slice e))
  {z : Value} (he : (P.info? e).map (fun i => (i.size, i.zero, i.bytes)) = some (G.csz t, some z, n)) (hz : z.cells.size = G.csz t) (hp : 0 < G.csz t) (hc : G.cap e * n ≤ 140737488355328) (hm : G.cap e ≤ maxLen) : TOK P G T ⟨[.t (.sl e t)], [], false, some (.sl e t)⟩ :=
 tokScal _ _ hi hu rfl (by rintro u ⟨⟩; exact ⟨rfl, rfl⟩) (by
  intro e' u h
  injection h with h
  injection h with h h'
  subst h h'
  refine ⟨rfl, ?_⟩
  obtain ⟨i, h1, h2⟩ := opt_map he
  injection h2 with h2 h3
  injection h3 with h3 h4
  exact ⟨i, z, h1, h2, h3, hz, hp, by rw [h4]; exact hc, hm⟩) (by intro k h; cases h) (by intro h; cases h) (by intro h; cases h) (by intro h; cases h) (by intro h; cases h)
theorem tokAgg (ls : List LTy) (fl : List (Nat × Nat)) (t : Option Ty) (hs : isStruct P T = true) {z : Option Value} (hi : (P.info? T).map (fun i => (i.size, i.zero)) = some (len ls, z)) (hz : zls (G := G) ls ≠ none → z = some (zval ⟨ls, fl, true, t⟩)) (hf : fldB P (len ls) (fsOf P T) fl = true)
  (hlv : ∀ u, t = some u → ∃ s, u = .st s ∧ G.sz s = len ls ∧ stfB G 0 (G.fs s) fl = true) (hne : ls ≠ [.ptr]) (hne' : ls ≠ [.fn]) (hne2 : ∀ kt vt, ls ≠ [.mp kt vt]) : TOK P G T ⟨ls, fl, true, t⟩ := by
 obtain ⟨i, h1, h2⟩ := opt_map hi
 injection h2 with h2 h3
 unfold isStruct at hs
 split at hs
 ·rename_i fs hu
  have e : fsOf P T = fs.toList := by unfold fsOf; rw [hu]
  rw [e] at hf
  obtain ⟨k1, k2⟩ := fldB_ok hf
  have cs : ∀ u, t = some u → ∃ s, u = .st s ∧ G.sz s = ls.length := fun u hu => by obtain ⟨s, a, b, _⟩ := hlv u hu; exact ⟨s, a, by rw [b, len_eq]⟩
  exact {
   size := ⟨i, h1, by rw [h2, len_eq], fun h => by rw [h3]; exact hz h⟩
   agg := ⟨_, hu, rfl⟩
   one := fun h => by cases h
   lv := fun u hu => by obtain ⟨s, a, b⟩ := cs u hu; subst a; exact ⟨b, rfl⟩
   sl := fun e u h => by obtain ⟨s, a, _⟩ := cs _ h; cases a
   int := fun k h => by obtain ⟨s, a, _⟩ := cs _ h; cases a
   str := fun h => by obtain ⟨s, a, _⟩ := cs _ h; cases a
   bool := fun h => by obtain ⟨s, a, _⟩ := cs _ h; cases a
   mp := fun kt vt h _ _ => absurd h (hne2 kt vt)
   ptr := fun h => absurd h hne
   fn := fun h => absurd h hne'
   flds := fun f d n h => by
    obtain ⟨fd, a, b, c, d'⟩ := k2 f d n h
    refine ⟨fs, fd, hu, by rw [← a, Array.getElem?_toList], b, by rw [← len_eq]; exact c, d'⟩
   bld := fun _ => ⟨fs, hu, k1⟩
   stf := fun s h f d n u h' h'' => by
    obtain ⟨s', a, _, b⟩ := hlv _ h
    injection a with a
    subst a
    have := stfB_ok b f d n u h' h''
    rwa [Nat.zero_add] at this }
 ·cases hs
end
def TokAll (P : Program) (G : Sig) : List (Nat × TI) → Prop
 | [] => True
 | (T, ti) :: r => TOK P G T ti ∧ TokAll P G r
theorem tabOK_of {P : Program} {G : Sig} (l : List (Nat × TI)) (h : G.tab = get l) (H : TokAll P G l) : TabOK P G := by
 intro T ti hT
 rw [h] at hT
 clear h
 induction l with
 | nil => simp [get] at hT
 | cons p l ih =>
  obtain ⟨T', ti'⟩ := p
  rw [get_cons] at hT
  split at hT
  ·rename_i e
   injection hT with hT
   subst e hT
   exact H.1
  ·exact ih H.2 hT
def CtsAll (P : Program) {G : Sig} : List (Nat × Ct G) → Prop
 | [] => True
 | (f, c) :: r => c.Holds P f ∧ CtsAll P r
theorem ctsOK {P : Program} {G : Sig} {l : List (Nat × Ct G)} (H : CtsAll P l) (f : FuncId) (c : Ct G) (h : get l f = some c) : c.Holds P f := by
 induction l with
 | nil => simp [get] at h
 | cons p l ih =>
  obtain ⟨f', c'⟩ := p
  rw [get_cons] at h
  split at h
  ·rename_i e
   injection h with h
   subst e h
   exact H.1
  ·exact ih H.2 h
def bodyOf (f : Func) : Code := match f.body with | some c => c | none => .skip
structure FD (G : Sig) (R : Type) where
 cts : Nat → List (Nat × Ct G)
 loops : List (Nat × Cut G R)
 joins : List (Nat × Cut G R)
 ords : List (Nat × List (List Nat))
 fz : List Nat
def FD.env (d : FD G R) (N : Nat) (pre : List Nat) (k : Nat) : Env G R := ⟨N, pre, k, get (d.cts k), d.loops, d.joins, d.ords, d.fz⟩
def gAt (x : Option (Pt G R × Cut G R)) : Cut G R := match x with | some (_, c) => c | none => ⟨⟨[], []⟩, [], fun _ _ => none⟩
def l0 (b : Bool) (o : Option R) : Option R := match b with | true => none | false => o
def bump (b : Bool) (k : Nat) : Nat := match b with | true => k + 1 | false => k
def One (E : Nat → Env G R) (x : Option (Pt G R × Cut G R)) : Prop :=
 (∀ h, (gAt x).g 0 h = l0 (kdAt x) ((gAt x).g 0 h)) ∧ ∀ k h, (gAt x).g (bump (kdAt x) k) h = semPt E x k (instP (gAt x).pat (ofHL (gAt x).ts h))
theorem One.good {E : Nat → Env G R} {x : Option (Pt G R × Cut G R)} (H : One E x) : AtGood E x := by
 rintro p c rfl
 obtain ⟨h1, h2⟩ := H
 unfold PtGood
 cases e : p.kd with
 | loop =>
  have e' : kdAt (some (p, c)) = true := by simp only [kdAt, e]
  rw [e'] at h1 h2
  exact ⟨h1, h2⟩
 | join =>
  have e' : kdAt (some (p, c)) = false := by simp only [kdAt, e]
  rw [e'] at h2
  exact h2
 | draw o =>
  have e' : kdAt (some (p, c)) = false := by simp only [kdAt, e]
  rw [e'] at h2
  exact fun k h r hr => (h2 k h).symm.trans hr
def AllOne (E : Nat → Env G R) (l : List (Pt G R × Cut G R)) : Nat → Prop
 | 0 => True
 | n + 1 => One E (nth l n) ∧ AllOne E l n
theorem AllOne.at {E : Nat → Env G R} {l : List (Pt G R × Cut G R)} : ∀ {n : Nat}, AllOne E l n → ∀ i, i < n → AtGood E (nth l i)
 | n + 1, H, i, hi => by
  by_cases e : i = n
  ·subst e; exact H.1.good
  ·exact AllOne.at H.2 i (by omega)
structure Kit (P : Program) (G : Sig) : Prop where
 ok : SigOK G
 tab : TabOK P G
 mixed : P.follows .mixedOrders = true
def brB (c : Ct G) : Bool := !c.br || brOK c
theorem fnOk (K : Kit P G) {fid : FuncId} (fn : Func) (c : Ct G) (d : FD G (HL G.S c.ots)) (n : Nat) (k : Nat) (hct : ∀ j, j ≤ k → CtsAll P (d.cts j))
  (hf : P.funcs[fid]? = some fn := by kernel_rfl) (hb : fn.body = some (bodyOf fn) := by kernel_rfl) (hname : (fn.name == "runtime.NumGoroutine") = false := by kernel_rfl)
  (hords : ordsB G d.ords (bodyOf fn) = true := by kernel_rfl)
  (hn : len (used (d.env fn.ntmps (fixOf 0 c.ip.objs)) (ptsOf (d.env fn.ntmps (fixOf 0 c.ip.objs)) (bodyOf fn) (fun _ => retK fn c))) = n := by kernel_rfl)
  (hg : AllOne (d.env fn.ntmps (fixOf 0 c.ip.objs)) (used (d.env fn.ntmps (fixOf 0 c.ip.objs)) (ptsOf (d.env fn.ntmps (fixOf 0 c.ip.objs)) (bodyOf fn) (fun _ => retK fn c))) n := by
   repeat (first | exact True.intro | (refine ⟨⟨fun h => ?_, fun k h => ?_⟩, ?_⟩; kernel_rfl; kernel_rfl)))
  (hF : ∀ h, c.F h = semF c (d.env fn.ntmps (fixOf 0 c.ip.objs) k) fn (bodyOf fn) h := by intro h; kernel_rfl)
  (hsz : Nat.ble c.ip.tmps.length fn.ntmps = true := by kernel_rfl) (hrs : c.rp.tmps.length = fn.results.toList.length := by kernel_rfl)
  (wf : okIO c.ip.objs c.rp.objs = true := by kernel_rfl) (keys : keysOK 0 c.rp.tmps = true := by kernel_rfl) (brw : brB c = true := by kernel_rfl) : c.Holds P fid :=
 fn_ok K.ok K.tab K.mixed hf hb hname c (d.env fn.ntmps (fixOf 0 c.ip.objs)) k (fun _ => rfl) (fun _ => rfl) (fun _ => rfl) (fun _ => rfl) (fun _ => rfl) (fun _ => rfl) hords
  (fun j hj => ctsOK (l := d.cts j) (hct j hj)) (allGood n hn hg.at) hF (Nat.le_of_ble_eq_true hsz) hrs wf keys (fun h => by
   unfold brB at brw
   rw [h] at brw
   exact brw)
theorem zeroOk {c : Ct G} {fid : FuncId} (hF : ∀ h, c.F h = none := by intro h; kernel_rfl) (wf : okIO c.ip.objs c.rp.objs = true := by kernel_rfl) (keys : keysOK 0 c.rp.tmps = true := by kernel_rfl) (brw : brB c = true := by kernel_rfl) : c.Holds P fid :=
 ⟨wf, keys, fun h => by
   unfold brB at brw
   rw [h] at brw
   exact brw, fun _ _ _ _ _ h _ hh => by rw [hF] at hh; cases hh⟩
theorem recOk {H : Nat → Prop} (z : H 0) (s : ∀ k, (∀ j, j ≤ k → H j) → H (k + 1)) (k : Nat) : H k := by
 induction k using Nat.strongRecOn with
 | _ k ih => cases k with
  | zero => exact z
  | succ k => exact s k fun j hj => ih j (by omega)
abbrev tI : Ty := .int .i64
abbrev oI : PSV := .one (.val (.int .i64))
abbrev oB : PSV := .one (.val .bool)
abbrev oS : PSV := .one (.val .str)
end Go.Proofs.YtmcbhnbemhfifaaDoor.RX
end
section
namespace Go.Proofs.YtmcbhnbemhfifaaDoor.RX
open Go Go.RowKit
set_option autoImplicit false
variable {G : Sig} {P : Program}
def oldZ (w : World) : Nat → Nat → Prop := fun b _ => b < w.heap.size
theorem TrOK.none {G : Sig} (W : Nat → Nat → Prop) (base : Nat) (Z : Nat → Nat → Prop) (pl : Nat → Value) (nx : Nat) (w : World) : TrOK (G := G) W base Z pl [] nx w (fun _ => []) where
 rep := fun o b hg => by simp [get] at hg
 nd := fun _ => List.nodup_nil
 sep := fun _ _ _ h => by cases h
 root := fun _ _ _ _ h => by cases h
 own := fun _ _ h => by cases h
 zfar := fun _ _ h => by cases h
 lt := fun _ _ h => by cases h
theorem holds_calls {c : Ct G} {f : FuncId} (H : c.Holds P f) {fn : Func} {body : Code} (hf : P.funcs[f]? = some fn) (hb : fn.body = some body) (hname : (fn.name == "runtime.NumGoroutine") = false) (hobj : c.ip.objs = [])
  {w : World} {args : Array Value} {h : HL G.S c.its} {r : HL G.S c.ots} (hF : c.F h = some r) (hargs : args.size = c.ip.tmps.length)
  (hv : ∀ t d, get (instP c.ip (ofHL c.its h)).tmps t = some d → DVOK (oldZ w) w (fun _ => undef) (instP c.ip (ofHL c.its h)).nx d (args.getD t undef)) :
  Calls P f args w fun e w' => ∃ v, e = .returned v ∧ (∃ Z' pr, ∀ t d, get (instP c.rp (ofHL c.ots r)).tmps t = some d → DVOK Z' w' pr (instP c.rp (ofHL c.ots r)).nx d (compV c.rp.tmps.length v t)) ∧ Below w.heap.size w w' := by
 have henter : (callFunc f args).run P w = .ok (.enter f args) w := by
  simp only [callFunc, Sem.run_bind, run_program, Result.andThen_ok, hf]
  rw [if_neg (by rw [hname]; decide), hb]
  rfl
 have hob : ∀ vs : List (TV G), (instP c.ip vs).objs = [] := fun vs => by simp only [instP, hobj, iObs]
 have M : Mem ⟨fun _ _ => False, oldZ w, fixOf 0 c.ip.objs, fun _ => undef⟩ w (oldZ w) (fun _ => undef) (instP c.ip (ofHL c.its h)).objs (instP c.ip (ofHL c.its h)).nx w := by
  rw [hob]
  refine ⟨fun o b hg => by simp [get] at hg, fun o b hg => by simp [get] at hg, fun o o' b b' k hg => by simp [get] at hg, fun o b k hg => by simp [get] at hg, fun o b k hg => by simp [get] at hg, fun b i hz => hz, fun b i hz => .inl hz, fun b i hz => hz, fun j hj => ?_, Fr.refl _ _ _, ⟨_, TrOK.none _ _ _ _ _ _⟩⟩
  rw [hobj] at hj
  cases hj
 rcases H.run (fun _ _ => False) (oldZ w) (fun _ => undef) w args h r hF hargs hv M with ⟨v, w', h1, _⟩ | ⟨_, h2⟩
 ·rw [henter] at h1; cases h1
 ·refine h2.mono fun e w' ⟨v, e1, Z', pr, q1, _, q3⟩ => ⟨v, e1, ⟨Z', pr, q1⟩, ?_⟩
  have F := q3.fr
  exact ⟨F.os, F.tape, F.output, F.size, fun k hk => F.blk k hk (fun i h => h)⟩
theorem spot_none {w : World} {x : Addr} {v : Value} (h : w.cell? (x.add 0) = some v) : x.spot = none := by
 have h : w.cell? x = some v := h
 cases hx : x.spot with
 | none => rfl
 | some s =>
  exfalso
  unfold World.cell? at h
  split at h
  ·rw [hx] at h; cases h
  ·cases h
theorem Fr.of_below {W : Rights} {base : Nat} {w w' : World} (h : Below w.heap.size w w') (hb : base ≤ w.heap.size) : Fr W base w w' :=
 ⟨h.os, h.tape, h.output, h.size, fun b hb' _ => h.block b (by omega), fun b cs T fr hb' _ hc => ⟨cs, by rw [h.block b (by omega)]; exact hc, rfl, fun _ _ => rfl⟩⟩
theorem holds_of_calls {c : Ct G} {f : FuncId} {fn : Func} {body : Code} (hf : P.funcs[f]? = some fn) (hb : fn.body = some body) (hname : (fn.name == "runtime.NumGoroutine") = false) (hio : c.ip.objs = []) (hro : c.rp.objs = []) (h1 : c.rp.tmps.length = 1)
  (keys : keysOK 0 c.rp.tmps = true) (brw : c.br = true → brOK c = true)
  (H : ∀ (Z : Nat → Nat → Prop) (w : World) (args : Array Value) (h : HL G.S c.its) (r : HL G.S c.ots), c.F h = some r → args.size = c.ip.tmps.length → (∀ b i, Z b i → b < w.heap.size) →
   (∃ pl, ∀ t d, get (instP c.ip (ofHL c.its h)).tmps t = some d → DVOK Z w pl (instP c.ip (ofHL c.its h)).nx d (args.getD t undef)) →
   Calls P f args w fun e w' => ∃ v, e = .returned v ∧ (∀ pl t d, get (instP c.rp (ofHL c.ots r)).tmps t = some d → DVOK Z w' pl (instP c.rp (ofHL c.ots r)).nx d (compV 1 v t)) ∧ Below w.heap.size w w') : c.Holds P f := by
 refine ⟨by rw [hio, hro]; rfl, keys, brw, fun Wr Z pl w args h r hF hargs hv M => .inr ⟨?_, ?_⟩⟩
 ·simp only [callFunc, Sem.run_bind, run_program, Result.andThen_ok, hf]
  rw [if_neg (by rw [hname]; decide), hb]
  rfl
 ·refine (H Z w args h r hF hargs M.zlt ⟨pl, hv⟩).mono fun e w' ⟨v, e1, q, bel⟩ => ⟨v, e1, Z, pl, fun t d hg => by rw [h1]; exact q pl t d hg, .inl h1, ?_⟩
  have hob : ∀ vs : List (TV G), (instP c.rp vs).objs = [] := fun vs => by simp only [instP, hro, iObs]
  rw [hob]
  refine ⟨fun o b hg => by simp [get] at hg, fun o b hg => by simp [get] at hg, fun o o' b b' k hg => by simp [get] at hg, fun o b k hg => by simp [get] at hg, fun o b k hg => by simp [get] at hg, fun b i hz => Nat.lt_of_lt_of_le (M.zlt b i hz) bel.size, fun b i hz => .inl hz, fun b i hz => hz, fun j hj => ?_, Fr.of_below bel (Nat.le_refl _), ⟨_, TrOK.none _ _ _ _ _ _⟩⟩
  rw [show fixOf 0 c.ip.objs = [] by rw [hio]; rfl] at hj
  cases hj
theorem args2 {args : Array Value} {x y : Value} (h : args.size = 2) (hx : args.getD 0 undef = x) (hy : args.getD 1 undef = y) : args = #[x, y] := by
 obtain ⟨l⟩ := args
 match l, h with
 | [a, b], _ => simp at hx hy; rw [hx, hy]
end Go.Proofs.YtmcbhnbemhfifaaDoor.RX
end
section
namespace Go.Proofs.YtmcbhnbemhfifaaDoor.RX
open Go Go.RowKit
set_option autoImplicit false
variable {G : Sig} {P : Program}
mutual
inductive Bnd (G : Sig) : (t : Ty) → G.D t → Prop where
 | int (k : IntKind) (x : Int) (h : (Lit.int k x).wf = true) : Bnd G (.int k) x
 | bool (b : Bool) : Bnd G .bool b
 | str (s : ByteArray) (h : s.size ≤ maxLen) : Bnd G .str s
 | sl (e : TypeId) (t : Ty) (xs : List (G.D t)) (h : xs.length ≤ maxLen) (hb : ∀ i (hi : i < xs.length), Bnd G t xs[i]) : Bnd G (.sl e t) xs
 | st (s : Nat) (x : G.S s) (h : BndF G (G.fs s) (G.op s x)) : Bnd G (.st s) x
inductive BndF (G : Sig) : (ts : List Ty) → Fs G.S ts → Prop where
 | nil : BndF G [] ()
 | cons (t : Ty) (ts : List Ty) (h : Fs G.S (t :: ts)) (h1 : Bnd G t h.1) (h2 : BndF G ts h.2) : BndF G (t :: ts) h
end
theorem bnd_str {s : ByteArray} (h : Bnd G .str s) : s.size ≤ maxLen := by cases h; assumption
theorem bnd_sl {e : TypeId} {t : Ty} {xs : List (G.D t)} (h : Bnd G (.sl e t) xs) : xs.length ≤ maxLen ∧ ∀ x ∈ xs, Bnd G t x := by
 cases h with
 | sl _ _ _ h hb =>
  refine ⟨h, fun x hx => ?_⟩
  obtain ⟨i, hi, rfl⟩ := List.getElem_of_mem hx
  exact hb i hi
theorem bnd_st {s : Nat} {x : G.S s} (h : Bnd G (.st s) x) : BndF G (G.fs s) (G.op s x) := by cases h; assumption
theorem bndF_cons {t : Ty} {ts : List Ty} {h : Fs G.S (t :: ts)} (H : BndF G (t :: ts) h) : Bnd G t h.1 ∧ BndF G ts h.2 := by cases H; exact ⟨‹_›, ‹_›⟩
def tyOf (G : Sig) (T : TypeId) (t : Ty) : Bool :=
 match G.tab T with
 | some ⟨_, _, _, some t'⟩ => Ty.beq t' t
 | _ => false
theorem tyOf_iff {T : TypeId} {t : Ty} (h : tyOf G T t = true) : ∃ ti, G.tab T = some ti ∧ ti.ty = some t := by
 unfold tyOf at h
 split at h
 ·rename_i a b c t' e; exact ⟨_, e, by rw [Ty.eq_of_beq h]⟩
 ·cases h
def fieldsB (G : Sig) : List Field → List Ty → Nat → Bool
 | [], [], _ => true
 | f :: fs, t :: ts, n => Nat.beq f.offset n && (tyOf G f.type t && fieldsB G fs ts (n + G.csz t))
 | _, _, _ => false
def rdB1 (P : Program) (G : Sig) (T : TypeId) (ti : TI) : Bool :=
 match ti.ty with
 | none => true
 | some t => Nat.beq (P.cellsOf T) (G.csz t) && (match t with
  | .sl e t' => tyOf G e t'
  | .st s => match P.underlying T with
   | some (.struct fs) => fieldsB G fs.toList (G.fs s) 0
   | _ => false
  | .po _ => false
  | _ => true)
def rdB (P : Program) (G : Sig) : List (Nat × TI) → Bool
 | [] => true
 | (T, ti) :: r => rdB1 P G T ti && rdB P G r
theorem rdB_get {l : List (Nat × TI)} (h : rdB P G l = true) {T : TypeId} {ti : TI} (hg : get l T = some ti) : rdB1 P G T ti = true := by
 induction l with
 | nil => simp [get] at hg
 | cons p l ih =>
  obtain ⟨k, v⟩ := p
  simp only [rdB, Bool.and_eq_true] at h
  rw [get_cons] at hg
  split at hg
  ·rename_i e; injection hg with hg; subst e hg; exact h.1
  ·exact ih h.2 hg
theorem cells_get {W : World} {a : Addr} {n : Nat} {cs : List Value} (h : W.cells? 0 a n = some cs) : cs.length = n ∧ ∀ (j : Nat) u, cs[j]? = some u → W.cell? (a.add j) = some u := by
 unfold World.cells? at h
 rw [if_pos (Nat.zero_le _)] at h
 have hl : cs.length = n := by simpa using mapM_some_length h
 refine ⟨hl, fun j u hu => ?_⟩
 have hj : j < n := by have := (List.getElem?_eq_some_iff.1 hu).1; omega
 have := mapM_some_get h j j (by simp [hj])
 rw [this, hu]
theorem choose_list {α : Type} {Q : Nat → α → Prop} : ∀ n : Nat, (∀ i, i < n → ∃ a, Q i a) → ∃ l : List α, l.length = n ∧ ∀ (i : Nat) (hi : i < l.length), Q i l[i]
 | 0, _ => ⟨[], rfl, fun i hi => by cases hi⟩
 | n + 1, h => by
  obtain ⟨l, hl, hq⟩ := choose_list (Q := Q) n (fun i hi => h i (by omega))
  obtain ⟨a, ha⟩ := h n (by omega)
  refine ⟨l ++ [a], by simp [hl], fun i hi => ?_⟩
  rcases Nat.lt_or_ge i n with hi' | hi'
  ·rw [List.getElem_append_left (by omega)]
   exact hq i (by omega)
  ·have e : i = n := by simp at hi; omega
   subst e
   rw [List.getElem_append_right (by omega)]
   simp only [hl, Nat.sub_self, List.getElem_cons_zero]
   exact ha
theorem add_none {x : Addr} (h : x.spot = none) (n : Nat) : x.add n = ⟨x.block, x.off + n, none⟩ := by
 obtain ⟨b, o, s⟩ := x
 subst h
 exact add_at b o n
theorem trod_rep {H : Type} {enc : TypeId × Value → H} {W : World} (hs0 : SigOK G) (ht : TabOK P G) (hr : ∀ T ti, G.tab T = some ti → rdB1 P G T ti = true) : ∀ (n : Nat) (T : TypeId) (t : Ty) (cs : List Value) (x : DataW H × List MemPlace), tyOf G T t = true →
  DataW.trod enc P W 0 (fun _ => true) true n T cs = some x → ∃ a : G.D t, RepC G (oldZ W) W t a cs ∧ Bnd G t a := by
 intro n
 induction n using Nat.strongRecOn with
 | _ n ih =>
 intro T t cs x hty h
 obtain ⟨ti, hti, htt⟩ := tyOf_iff hty
 have tk := ht T ti hti
 have hb := hr T ti hti
 unfold rdB1 at hb
 rw [htt] at hb
 simp only [Bool.and_eq_true] at hb
 obtain ⟨hcell, hb⟩ := hb
 have hcell := Nat.eq_of_beq_eq_true hcell
 cases t with
 | int k =>
  obtain ⟨a, rfl, _, hw⟩ := DataW.trod_int (tk.int k htt) h
  exact ⟨a, .int k a, .int k a hw⟩
 | bool =>
  obtain ⟨a, rfl, _⟩ := DataW.trod_bool (tk.bool htt) h
  exact ⟨a, .bool a, .bool a⟩
 | str =>
  obtain ⟨a, rfl, _, hw⟩ := DataW.trod_string (tk.str htt) h
  exact ⟨a, .str a, .str a hw⟩
 | po t => cases hb
 | sl e t =>
  have hu := (tk.sl e t htt).1
  obtain ⟨te, hte, htet⟩ := tyOf_iff hb
  have hce : P.cellsOf e = G.csz t := by
   have := hr e te hte
   unfold rdB1 at this
   rw [htet] at this
   simp only [Bool.and_eq_true] at this
   exact Nat.eq_of_beq_eq_true this.1
  rcases DataW.trod_slice hu h with ⟨rfl, _⟩ | ⟨ad, len, cap, elems, rest, m, rfl, rfl, _, _, hl, hm, hlen, hel, _, _⟩
  ·exact ⟨([] : List (G.D t)), .sl e t [] none 0 0 0 (fun _ => []) (Nat.le_refl _) (.inl rfl) (fun i hi => by cases hi) (fun i j v hi => by cases hi) (fun i hi => by cases hi), .sl e t [] (Nat.zero_le _) (fun i hi => by cases hi)⟩
  ·have each : ∀ i, i < len → ∃ a : G.D t × List Value, a.2.length = G.csz t ∧ RepC G (oldZ W) W t a.1 a.2 ∧ Bnd G t a.1 ∧ ∀ (j : Nat) u, a.2[j]? = some u → W.cell? ((ad.add (i * G.csz t)).add j) = some u := by
    intro i hi
    have h1 := hel i hi
    rw [List.getElem?_eq_getElem (show i < elems.length by omega), hce, Option.bind_eq_some_iff] at h1
    obtain ⟨c, h2, h3⟩ := h1
    obtain ⟨a, h4, h5⟩ := ih m (by omega) e t c _ hb h3
    obtain ⟨hcl, hcc⟩ := cells_get h2
    exact ⟨(a, c), hcl, h4, h5, fun j u hu => hcc j u hu⟩
   obtain ⟨l, hll, hq⟩ := choose_list len each
   have hpos : 0 < G.csz t := by
    obtain ⟨_, i, z, _, _, _, _, hp, _⟩ := tk.sl e t htt
    exact hp
   have hspot : ∀ i, i < l.length → ad.spot = none := by
    intro i hi
    obtain ⟨q1, _, _, q4⟩ := hq 0 (by omega)
    have hc0 : (l[0].2)[0]? = some (l[0].2[0]'(by omega)) := List.getElem?_eq_getElem _
    have := q4 0 _ hc0
    rw [Nat.zero_mul, show ad.add 0 = ad by unfold Addr.add; simp] at this
    exact spot_none this
   refine ⟨(l.map (·.1) : List (G.D t)), ?_, .sl e t _ (by show (l.map (·.1)).length ≤ _; rw [List.length_map]; omega) (fun i hi => ?_)⟩
   ·have key : RepC G (oldZ W) W (.sl e t) (l.map (·.1)) [.slice (some ad) (l.map (·.1)).length cap] := by
     refine .sl e t (l.map (·.1)) (some ad) cap ad.block ad.off (fun i => match l[i]? with | some p => p.2 | none => []) (by show (l.map (·.1)).length ≤ _; rw [List.length_map]; omega) ?_ (fun i hi => ?_) (fun i j v hi hj => ?_) (fun i hi => ?_)
     ·rcases Nat.eq_zero_or_pos l.length with h0 | h0
      ·exact .inl (by show (l.map (·.1)).length = 0; rw [List.length_map]; exact h0)
      ·right
       have := hspot 0 h0
       obtain ⟨b, o, s⟩ := ad
       have : s = none := this
       subst this
       rfl
     ·have hi : i < (l.map (·.1)).length := hi
      rw [List.length_map] at hi
      simp only [List.getElem?_eq_getElem hi]
      exact (hq i hi).1
     ·have hi : i < (l.map (·.1)).length := hi
      rw [List.length_map] at hi
      simp only [List.getElem?_eq_getElem hi] at hj
      have := (hq i hi).2.2.2 j v hj
      rw [add_none (hspot i hi), add_at] at this
      exact ⟨cell_lt this, this⟩
     ·have hi : i < (l.map (·.1)).length := hi
      have hi' := hi
      rw [List.length_map] at hi'
      simp only [List.getElem?_eq_getElem hi']
      have := (hq i hi').2.1
      show RepC G _ _ t ((l.map (·.1))[i]) _
      rw [List.getElem_map]
      exact this
    have e : (l.map (·.1)).length = len := by rw [List.length_map]; exact hll
    rw [e] at key
    exact key
   ·have hi : i < (l.map (·.1)).length := hi
    have hi' := hi
    rw [List.length_map] at hi'
    show Bnd G t ((l.map (·.1))[i])
    rw [List.getElem_map]
    exact (hq i hi').2.2.1
 | st s =>
  have hbs : (match P.underlying T with | some (.struct fs) => fieldsB G fs.toList (G.fs s) 0 | _ => false) = true := hb
  split at hbs
  ·rename_i fs hfs
   obtain ⟨xs, m, rfl, _, hl, hxl, hf⟩ := DataW.trod_struct hfs h
   have key : ∀ (fl : List Field) (ts : List Ty) (k off : Nat), fieldsB G fl ts off = true → fs.toList.drop k = fl → ∀ c : List Value, cs.drop off = c → c.length = sumSz G ts → ∃ h : Fs G.S ts, RepF G (oldZ W) W ts h c ∧ BndF G ts h := by
    intro fl
    induction fl with
    | nil =>
     intro ts k off hB hk c hc hcl
     cases ts with
     | nil =>
      have : c = [] := List.eq_nil_of_length_eq_zero hcl
      subst this
      exact ⟨(), .nil, .nil⟩
     | cons t ts => cases hB
    | cons f fl ihl =>
     intro ts k off hB hk c hc hcl
     cases ts with
     | nil => cases hB
     | cons t ts =>
      simp only [fieldsB, Bool.and_eq_true] at hB
      obtain ⟨b1, b2, b3⟩ := hB
      have b1 := Nat.eq_of_beq_eq_true b1
      have hkl : k < fs.toList.length := by
       rcases Nat.lt_or_ge k fs.toList.length with h | h
       ·exact h
       ·rw [List.drop_eq_nil_of_le h] at hk; cases hk
      have hfk : fs[k]? = some f := by
       have : (fs.toList.drop k)[0]? = some f := by rw [hk]; rfl
       rw [List.getElem?_drop, Nat.add_zero, Array.getElem?_toList] at this
       exact this
      obtain ⟨tf, htf, htft⟩ := tyOf_iff b2
      have hcf : P.cellsOf f.type = G.csz t := by
       have := hr f.type tf htf
       unfold rdB1 at this
       rw [htft] at this
       simp only [Bool.and_eq_true] at this
       exact Nat.eq_of_beq_eq_true this.1
      have h1 := hf k f hfk
      have hlt : k < xs.length := by rw [hxl]; rw [Array.length_toList] at hkl; exact hkl
      rw [List.getElem?_eq_getElem hlt, b1, hc, hcf] at h1
      obtain ⟨a, r1, r2⟩ := ih m (by omega) f.type t _ _ b2 h1
      have hsum : c.length = G.csz t + sumSz G ts := hcl
      obtain ⟨h', r3, r4⟩ := ihl ts (k + 1) (off + G.csz t) b3 (by rw [← List.drop_drop, hk]; rfl) (c.drop (G.csz t)) (by rw [← hc, List.drop_drop]) (by rw [List.length_drop, hsum]; omega)
      refine ⟨(a, h'), ?_, .cons t ts (a, h') r2 r4⟩
      have := RepF.cons (G := G) (Z := oldZ W) (w := W) t ts (a, h') (c.take (G.csz t)) (c.drop (G.csz t)) (by rw [List.length_take, hsum]; omega) r1 r3
      rwa [List.take_append_drop] at this
   have hsz : sumSz G (G.fs s) = G.csz (.st s) := hs0 s
   obtain ⟨h', r1, r2⟩ := key fs.toList (G.fs s) 0 0 hbs (by simp) cs (by simp) (by rw [hl, hcell, hsz])
   refine ⟨G.bd s h', .st s _ cs (by rw [G.hop]; exact r1), .st s _ (by rw [G.hop]; exact r2)⟩
  ·cases hbs
theorem arg_ok {H : Type} {enc : TypeId × Value → H} {W : World} {base : Nat} (hs0 : SigOK G) (ht : TabOK P G) (hr : ∀ T ti, G.tab T = some ti → rdB1 P G T ti = true) {T : TypeId} {t : Ty} {v : Value} {d : DataW H} {ps : List MemPlace} (hty : tyOf G T t = true)
  (hv : Value.okWide P W .any base T v) (h : DataW.Trod enc P W 0 (fun _ => true) true T v d ps) : ∃ x : G.D t, Bnd G t x ∧ ∀ s pl nx, svOf (⟨t, x⟩ : TV G) = some s → SVOK (oldZ W) W pl nx s v := by
 obtain ⟨fuel, hf⟩ := h
 obtain ⟨x, hR, hB⟩ := trod_rep hs0 ht hr fuel T t _ _ hty hf
 obtain ⟨ti, hti, htt⟩ := tyOf_iff hty
 have tk := ht T ti hti
 refine ⟨x, hB, fun s pl nx hs => ?_⟩
 obtain ⟨u, h1, h2, h3, h4⟩ := svOf_ok (v := (⟨t, x⟩ : TV G)) (pl := pl) (nx := nx) hs hR
 have one : (∀ n, t ≠ .st n) → v.oneCell' = true → u = v := by
  intro hn h1
  have := h4 hn
  rw [cells_one h1] at this
  injection this with this
  exact this.symm
 have : u = v := by
  cases t with
  | int k => obtain ⟨n, rfl⟩ := Go.WideShapes.okWide_int (tk.int k htt) hv; exact one (fun n e => by cases e) rfl
  | bool => obtain ⟨n, rfl⟩ := Go.WideShapes.okWide_bool (tk.bool htt) hv; exact one (fun n e => by cases e) rfl
  | str => obtain ⟨n, rfl⟩ := Go.WideShapes.okWide_string (tk.str htt) hv; exact one (fun n e => by cases e) rfl
  | sl e t => obtain ⟨a, l, c, rfl⟩ := Go.WideShapes.okWide_slice (tk.sl e t htt).1 hv; exact one (fun n e => by cases e) rfl
  | po t => have := hr T ti hti; unfold rdB1 at this; rw [htt] at this; simp at this
  | st k =>
   have hb := hr T ti hti
   unfold rdB1 at hb
   rw [htt] at hb
   simp only [Bool.and_eq_true] at hb
   have hb2 : (match P.underlying T with | some (.struct fs) => fieldsB G fs.toList (G.fs k) 0 | _ => false) = true := hb.2
   split at hb2
   ·rename_i fs hfs
    obtain ⟨cs, rfl, _⟩ := Go.WideShapes.okWide_struct hfs hv
    rw [h3 k rfl]
    rfl
   ·cases hb2
 rw [← this]
 exact h1
theorem arg_dv {W : World} {t : Ty} {x : G.D t} {v : Value} {pl : Nat → Value} {nx : Nat} (h : ∀ s pl nx, svOf (⟨t, x⟩ : TV G) = some s → SVOK (oldZ W) W pl nx s v) : DVOK (oldZ W) W pl nx (match svOf (⟨t, x⟩ : TV G) with | some s => DV.sv s | none => .junk) v := by
 split
 ·rename_i s hs; exact h s pl nx hs
 ·trivial
end Go.Proofs.YtmcbhnbemhfifaaDoor.RX
end
section
namespace Go.Proofs.YtmcbhnbemhfifaaDoor.RX
open Go Go.RowKit
set_option autoImplicit false
structure TExpForm where
 vSort : Int
 vText : ByteArray
 vScopes : (List Int)
 vFrom : Int
 vKids : (List TExpForm)
def zTExpForm : TExpForm := ⟨(0 : Int), ByteArray.empty, [], (0 : Int), []⟩
theorem mTExpForm (x : TExpForm) : TExpForm.mk x.vSort x.vText x.vScopes x.vFrom x.vKids = x := by cases x; rfl
def eTExpForm (x : TExpForm) : TExpForm := ⟨x.vSort, x.vText, x.vScopes, x.vFrom, x.vKids⟩
theorem eTExpForm_eq (x : TExpForm) : eTExpForm x = x := by cases x; rfl
structure TExpRule where
 vPattern : TExpForm
 vTemplate : TExpForm
def zTExpRule : TExpRule := ⟨zTExpForm, zTExpForm⟩
theorem mTExpRule (x : TExpRule) : TExpRule.mk x.vPattern x.vTemplate = x := by cases x; rfl
structure TExpMacro where
 vLiterals : (List TExpForm)
 vRules : (List TExpRule)
def zTExpMacro : TExpMacro := ⟨[], []⟩
theorem mTExpMacro (x : TExpMacro) : TExpMacro.mk x.vLiterals x.vRules = x := by cases x; rfl
structure Tlaws_ExpForm where
 vSort : Int
 vText : ByteArray
 vScopes : (List Int)
 vFrom : Int
 vKids : (List Tlaws_ExpForm)
def zTlaws_ExpForm : Tlaws_ExpForm := ⟨(0 : Int), ByteArray.empty, [], (0 : Int), []⟩
theorem mTlaws_ExpForm (x : Tlaws_ExpForm) : Tlaws_ExpForm.mk x.vSort x.vText x.vScopes x.vFrom x.vKids = x := by cases x; rfl
def eTlaws_ExpForm (x : Tlaws_ExpForm) : Tlaws_ExpForm := ⟨x.vSort, x.vText, x.vScopes, x.vFrom, x.vKids⟩
theorem eTlaws_ExpForm_eq (x : Tlaws_ExpForm) : eTlaws_ExpForm x = x := by cases x; rfl
structure TexpNames where
 vliterals : (List TExpForm)
 vnames : (List TExpForm)
 vbad : Bool
def zTexpNames : TexpNames := ⟨[], [], false⟩
end Go.Proofs.YtmcbhnbemhfifaaDoor.RX
end
section
namespace Go.Proofs.YtmcbhnbemhfifaaDoor.RX
open Go Go.RowKit
set_option autoImplicit false
def sigS : Nat → Type
 | 0 => TExpForm
 | 1 => TExpMacro
 | 2 => TExpRule
 | 3 => Tlaws_ExpForm
 | 4 => TexpNames
 | _ + 5 => Unit
def sigFs : Nat → List Ty
 | 0 => [(.int .i64), .str, (.sl 3 (.int .i64)), (.int .i64), (.sl 29 (.st 0))]
 | 1 => [(.sl 29 (.st 0)), (.sl 74 (.st 2))]
 | 2 => [(.st 0), (.st 0)]
 | 3 => [(.int .i64), .str, (.sl 3 (.int .i64)), (.int .i64), (.sl 25 (.st 3))]
 | 4 => [(.sl 29 (.st 0)), (.sl 29 (.st 0)), .bool]
 | _ + 5 => []
def sigOp : (s : Nat) → sigS s → Fs sigS (sigFs s)
 | 0, (x : TExpForm) => (x.vSort, x.vText, x.vScopes, x.vFrom, x.vKids, ())
 | 1, (x : TExpMacro) => (x.vLiterals, x.vRules, ())
 | 2, (x : TExpRule) => (x.vPattern, x.vTemplate, ())
 | 3, (x : Tlaws_ExpForm) => (x.vSort, x.vText, x.vScopes, x.vFrom, x.vKids, ())
 | 4, (x : TexpNames) => (x.vliterals, x.vnames, x.vbad, ())
 | _ + 5, _ => ()
def sigBd : (s : Nat) → Fs sigS (sigFs s) → sigS s
 | 0, h => (⟨h.1, h.2.1, h.2.2.1, h.2.2.2.1, h.2.2.2.2.1⟩ : TExpForm)
 | 1, h => (⟨h.1, h.2.1⟩ : TExpMacro)
 | 2, h => (⟨h.1, h.2.1⟩ : TExpRule)
 | 3, h => (⟨h.1, h.2.1, h.2.2.1, h.2.2.2.1, h.2.2.2.2.1⟩ : Tlaws_ExpForm)
 | 4, h => (⟨h.1, h.2.1, h.2.2.1⟩ : TexpNames)
 | _ + 5, _ => ()
def sigZ : (s : Nat) → sigS s
 | 0 => zTExpForm
 | 1 => zTExpMacro
 | 2 => zTExpRule
 | 3 => zTlaws_ExpForm
 | 4 => zTexpNames
 | _ + 5 => ()
def sigSz : Nat → Nat
 | 0 => 5
 | 1 => 2
 | 2 => 10
 | 3 => 5
 | 4 => 3
 | _ + 5 => 0
def sigTab : List (Nat × TI) := [(3, ⟨[.t (.int .i64)], [], false, some (.int .i64)⟩),
 (4, ⟨[.t .bool], [], false, some .bool⟩),
 (5, ⟨[.t (.int .u8)], [], false, some (.int .u8)⟩),
 (9, ⟨[.t .str], [], false, some .str⟩),
 (22, ⟨[.t (.sl 3 (.int .i64))], [], false, some (.sl 3 (.int .i64))⟩),
 (23, ⟨[.t (.sl 25 (.st 3))], [], false, some (.sl 25 (.st 3))⟩),
 (25, ⟨[.t (.int .i64), .t .str, .t (.sl 3 (.int .i64)), .t (.int .i64), .t (.sl 25 (.st 3))], [(0, 1), (1, 1), (2, 1), (3, 1), (4, 1)], true, some (.st 3)⟩),
 (27, ⟨[.t (.sl 29 (.st 0))], [], false, some (.sl 29 (.st 0))⟩),
 (29, ⟨[.t (.int .i64), .t .str, .t (.sl 3 (.int .i64)), .t (.int .i64), .t (.sl 29 (.st 0))], [(0, 1), (1, 1), (2, 1), (3, 1), (4, 1)], true, some (.st 0)⟩),
 (40, ⟨[.t (.sl 5 (.int .u8))], [], false, some (.sl 5 (.int .u8))⟩),
 (46, ⟨[.t (.sl 74 (.st 2))], [], false, some (.sl 74 (.st 2))⟩),
 (48, ⟨[.t (.sl 29 (.st 0)), .t (.sl 74 (.st 2))], [(0, 1), (1, 1)], true, some (.st 1)⟩),
 (64, ⟨[.t (.sl 29 (.st 0)), .t (.sl 29 (.st 0)), .t .bool], [(0, 1), (1, 1), (2, 1)], true, some (.st 4)⟩),
 (74, ⟨[.t (.int .i64), .t .str, .t (.sl 3 (.int .i64)), .t (.int .i64), .t (.sl 29 (.st 0)), .t (.int .i64), .t .str, .t (.sl 3 (.int .i64)), .t (.int .i64), .t (.sl 29 (.st 0))], [(0, 5), (5, 5)], true, some (.st 2)⟩),
 (83, ⟨[.ptr], [], false, none⟩)]
def sigCap : List (Nat × Nat) := [(3, 17592186044416), (5, 140737488355328), (25, 1759218604441), (29, 1759218604441), (74, 879609302220)]
def sg : Sig where
 S := sigS
 fs := sigFs
 op := sigOp
 bd := sigBd
 hop := by intro s h; match s with | 0 => rfl | 1 => rfl | 2 => rfl | 3 => rfl | 4 => rfl | _ + 5 => rfl
 sz := sigSz
 z := sigZ
 tab := get sigTab
 cap := fun e => match get sigCap e with | some n => n | none => 0
 own := none
theorem sg.ok : SigOK sg := fun s => match s with | 0 => rfl | 1 => rfl | 2 => rfl | 3 => rfl | 4 => rfl | _ + 5 => rfl
theorem sg.t3 : TOK Tryd.prog sg 3 ⟨[.t (.int .i64)], [], false, some (.int .i64)⟩ := tokInt .i64 (by kernel_rfl) (by kernel_rfl)
theorem sg.t4 : TOK Tryd.prog sg 4 ⟨[.t .bool], [], false, some .bool⟩ := tokBool (by kernel_rfl) (by kernel_rfl)
theorem sg.t5 : TOK Tryd.prog sg 5 ⟨[.t (.int .u8)], [], false, some (.int .u8)⟩ := tokInt .u8 (by kernel_rfl) (by kernel_rfl)
theorem sg.t9 : TOK Tryd.prog sg 9 ⟨[.t .str], [], false, some .str⟩ := tokStr (by kernel_rfl) (by kernel_rfl)
theorem sg.t22 : TOK Tryd.prog sg 22 ⟨[.t (.sl 3 (.int .i64))], [], false, some (.sl 3 (.int .i64))⟩ := tokSl 3 (.int .i64) (n := 8) (z := zval ⟨[.t (.int .i64)], [], false, none⟩) (by kernel_rfl) (by kernel_rfl) (by kernel_rfl) (by kernel_rfl) (Nat.lt_of_succ_le (Nat.le_of_ble_eq_true (by kernel_rfl))) (Nat.le_of_ble_eq_true (by kernel_rfl)) (Nat.le_of_ble_eq_true (by kernel_rfl))
theorem sg.t23 : TOK Tryd.prog sg 23 ⟨[.t (.sl 25 (.st 3))], [], false, some (.sl 25 (.st 3))⟩ := tokSl 25 (.st 3) (n := 80) (z := zval ⟨[.t (.int .i64), .t .str, .t (.sl 3 (.int .i64)), .t (.int .i64), .t (.sl 25 (.st 3))], [(0, 1), (1, 1), (2, 1), (3, 1), (4, 1)], true, none⟩) (by kernel_rfl) (by kernel_rfl) (by kernel_rfl) (by kernel_rfl) (Nat.lt_of_succ_le (Nat.le_of_ble_eq_true (by kernel_rfl))) (Nat.le_of_ble_eq_true (by kernel_rfl)) (Nat.le_of_ble_eq_true (by kernel_rfl))
theorem sg.t25 : TOK Tryd.prog sg 25 ⟨[.t (.int .i64), .t .str, .t (.sl 3 (.int .i64)), .t (.int .i64), .t (.sl 25 (.st 3))], [(0, 1), (1, 1), (2, 1), (3, 1), (4, 1)], true, some (.st 3)⟩ := tokAgg _ _ _ (by kernel_rfl) (by kernel_rfl) (fun _ => rfl) (by kernel_rfl) (fun u h => ⟨3, by injection h with h; exact h.symm, by kernel_rfl, by kernel_rfl⟩) (by intro h; cases h) (by intro h; cases h) (by intro kt vt h; cases h)
theorem sg.t27 : TOK Tryd.prog sg 27 ⟨[.t (.sl 29 (.st 0))], [], false, some (.sl 29 (.st 0))⟩ := tokSl 29 (.st 0) (n := 80) (z := zval ⟨[.t (.int .i64), .t .str, .t (.sl 3 (.int .i64)), .t (.int .i64), .t (.sl 29 (.st 0))], [(0, 1), (1, 1), (2, 1), (3, 1), (4, 1)], true, none⟩) (by kernel_rfl) (by kernel_rfl) (by kernel_rfl) (by kernel_rfl) (Nat.lt_of_succ_le (Nat.le_of_ble_eq_true (by kernel_rfl))) (Nat.le_of_ble_eq_true (by kernel_rfl)) (Nat.le_of_ble_eq_true (by kernel_rfl))
theorem sg.t29 : TOK Tryd.prog sg 29 ⟨[.t (.int .i64), .t .str, .t (.sl 3 (.int .i64)), .t (.int .i64), .t (.sl 29 (.st 0))], [(0, 1), (1, 1), (2, 1), (3, 1), (4, 1)], true, some (.st 0)⟩ := tokAgg _ _ _ (by kernel_rfl) (by kernel_rfl) (fun _ => rfl) (by kernel_rfl) (fun u h => ⟨0, by injection h with h; exact h.symm, by kernel_rfl, by kernel_rfl⟩) (by intro h; cases h) (by intro h; cases h) (by intro kt vt h; cases h)
theorem sg.t40 : TOK Tryd.prog sg 40 ⟨[.t (.sl 5 (.int .u8))], [], false, some (.sl 5 (.int .u8))⟩ := tokSl 5 (.int .u8) (n := 1) (z := zval ⟨[.t (.int .u8)], [], false, none⟩) (by kernel_rfl) (by kernel_rfl) (by kernel_rfl) (by kernel_rfl) (Nat.lt_of_succ_le (Nat.le_of_ble_eq_true (by kernel_rfl))) (Nat.le_of_ble_eq_true (by kernel_rfl)) (Nat.le_of_ble_eq_true (by kernel_rfl))
theorem sg.t46 : TOK Tryd.prog sg 46 ⟨[.t (.sl 74 (.st 2))], [], false, some (.sl 74 (.st 2))⟩ := tokSl 74 (.st 2) (n := 160) (z := zval ⟨[.t (.int .i64), .t .str, .t (.sl 3 (.int .i64)), .t (.int .i64), .t (.sl 29 (.st 0)), .t (.int .i64), .t .str, .t (.sl 3 (.int .i64)), .t (.int .i64), .t (.sl 29 (.st 0))], [(0, 5), (5, 5)], true, none⟩) (by kernel_rfl) (by kernel_rfl) (by kernel_rfl) (by kernel_rfl) (Nat.lt_of_succ_le (Nat.le_of_ble_eq_true (by kernel_rfl))) (Nat.le_of_ble_eq_true (by kernel_rfl)) (Nat.le_of_ble_eq_true (by kernel_rfl))
theorem sg.t48 : TOK Tryd.prog sg 48 ⟨[.t (.sl 29 (.st 0)), .t (.sl 74 (.st 2))], [(0, 1), (1, 1)], true, some (.st 1)⟩ := tokAgg _ _ _ (by kernel_rfl) (by kernel_rfl) (fun _ => rfl) (by kernel_rfl) (fun u h => ⟨1, by injection h with h; exact h.symm, by kernel_rfl, by kernel_rfl⟩) (by intro h; cases h) (by intro h; cases h) (by intro kt vt h; cases h)
theorem sg.t64 : TOK Tryd.prog sg 64 ⟨[.t (.sl 29 (.st 0)), .t (.sl 29 (.st 0)), .t .bool], [(0, 1), (1, 1), (2, 1)], true, some (.st 4)⟩ := tokAgg _ _ _ (by kernel_rfl) (by kernel_rfl) (fun _ => rfl) (by kernel_rfl) (fun u h => ⟨4, by injection h with h; exact h.symm, by kernel_rfl, by kernel_rfl⟩) (by intro h; cases h) (by intro h; cases h) (by intro kt vt h; cases h)
theorem sg.t74 : TOK Tryd.prog sg 74 ⟨[.t (.int .i64), .t .str, .t (.sl 3 (.int .i64)), .t (.int .i64), .t (.sl 29 (.st 0)), .t (.int .i64), .t .str, .t (.sl 3 (.int .i64)), .t (.int .i64), .t (.sl 29 (.st 0))], [(0, 5), (5, 5)], true, some (.st 2)⟩ := tokAgg _ _ _ (by kernel_rfl) (by kernel_rfl) (fun _ => rfl) (by kernel_rfl) (fun u h => ⟨2, by injection h with h; exact h.symm, by kernel_rfl, by kernel_rfl⟩) (by intro h; cases h) (by intro h; cases h) (by intro kt vt h; cases h)
theorem sg.t83 : TOK Tryd.prog sg 83 ⟨[.ptr], [], false, none⟩ := tokPtr (e := 29) (by kernel_rfl) (by kernel_rfl)
theorem sg.tab : TabOK Tryd.prog sg := tabOK_of sigTab rfl ⟨sg.t3, sg.t4, sg.t5, sg.t9, sg.t22, sg.t23, sg.t25, sg.t27, sg.t29, sg.t40, sg.t46, sg.t48, sg.t64, sg.t74, sg.t83, trivial⟩
theorem sg.rd0 : rdB Tryd.prog sg sigTab = true := by kernel_rfl
theorem sg.rd : ∀ T ti, Sig.tab sg T = some ti → rdB1 Tryd.prog sg T ti = true := fun T ti h => rdB_get sg.rd0 h
theorem sg.mixed : Tryd.prog.follows .mixedOrders = true := by kernel_rfl
theorem sg.kit : Kit Tryd.prog sg := ⟨sg.ok, sg.tab, sg.mixed⟩
end Go.Proofs.YtmcbhnbemhfifaaDoor.RX
end
section
namespace Go.Proofs.YtmcbhnbemhfifaaDoor.RX
open Go Go.RowKit
set_option autoImplicit false
def LTrim (s c : ByteArray) : Option ByteArray :=
 if c.data.toList.all (fun b => decide (b.toNat < 128)) = true then (if s.size ≤ 9223372036854775807 then (if c.size < 4294967281 then some ⟨(Go.Lib.trimS s.data.toList c.data.toList).toArray⟩ else none) else none) else none
def LIndexByte (s : ByteArray) (c : Int) : Int := Go.Lib.indexByte s.data.toList c.toNat.toUInt8
end Go.Proofs.YtmcbhnbemhfifaaDoor.RX
end
section
namespace Go.Proofs
open Go.Shelf
def Tryd.lays160_ren : Go.Shelf.Ren := ⟨fun | 160 => 99 | 232 => 109 | 231 => 108 | 227 => 110 | 234 => 112 | 233 => 111 | 236 => 114 | 235 => 113 | 228 => 120 | 271 => 123 | 151 => 122 | 197 => 121 | 120 => 128 | 152 => 127 | 260 => 126 | 137 => 97 | 119 => 129 | 224 => 130 | 225 => 131 | 217 => 106 | 266 => 118 | n => n, fun | 9 => 9 | 4 => 4 | 3 => 3 | 5 => 5 | 117 => 114 | 116 => 113 | 0 => 0 | 124 => 117 | 21 => 21 | 105 => 120 | 46 => 128 | 119 => 127 | 139 => 131 | 138 => 130 | n => n, fun | 3 => 1 | 4 => 2 | n => n⟩
theorem Tryd.lays160 : Go.Proofs.Lays.n160 Tryd.prog Tryd.lays160_ren := {
 mixed := by kernel_rfl
 f119 := Tryd.func129.trans (congrArg some (by kernel_rfl))
 f120 := Tryd.func128.trans (congrArg some (by kernel_rfl))
 f137 := Tryd.func97.trans (congrArg some (by kernel_rfl))
 f151 := Tryd.func122.trans (congrArg some (by kernel_rfl))
 f152 := Tryd.func127.trans (congrArg some (by kernel_rfl))
 f160 := Tryd.func99.trans (congrArg some (by kernel_rfl))
 f197 := Tryd.func121.trans (congrArg some (by kernel_rfl))
 f217 := Tryd.func106.trans (congrArg some (by kernel_rfl))
 f224 := Tryd.func130.trans (congrArg some (by kernel_rfl))
 f225 := Tryd.func131.trans (congrArg some (by kernel_rfl))
 f227 := Tryd.func110.trans (congrArg some (by kernel_rfl))
 f228 := Tryd.func120.trans (congrArg some (by kernel_rfl))
 f231 := Tryd.func108.trans (congrArg some (by kernel_rfl))
 f232 := Tryd.func109.trans (congrArg some (by kernel_rfl))
 f233 := Tryd.func111.trans (congrArg some (by kernel_rfl))
 f234 := Tryd.func112.trans (congrArg some (by kernel_rfl))
 f235 := Tryd.func113.trans (congrArg some (by kernel_rfl))
 f236 := Tryd.func114.trans (congrArg some (by kernel_rfl))
 f260 := Tryd.func126.trans (congrArg some (by kernel_rfl))
 f266 := Tryd.func118.trans (congrArg some (by kernel_rfl))
 f271 := Tryd.func123.trans (congrArg some (by kernel_rfl))
 t0 := Tryd.underlying0
 a0 := Tryd.isAgg0
 z0 := Tryd.sizeOf0
 v0 := Tryd.zeroValue0
 t3 := Tryd.underlying3
 a3 := Tryd.isAgg3
 z3 := Tryd.sizeOf3
 v3 := Tryd.zeroValue3
 t4 := Tryd.underlying4
 a4 := Tryd.isAgg4
 z4 := Tryd.sizeOf4
 v4 := Tryd.zeroValue4
 t5 := Tryd.underlying5
 a5 := Tryd.isAgg5
 z5 := Tryd.sizeOf5
 v5 := Tryd.zeroValue5
 t9 := Tryd.underlying9
 a9 := Tryd.isAgg9
 z9 := Tryd.sizeOf9
 v9 := Tryd.zeroValue9
 t21 := Tryd.underlying21
 a21 := Tryd.isAgg21
 z21 := Tryd.sizeOf21
 v21 := Tryd.zeroValue21
 t46 := Tryd.underlying128
 a46 := Tryd.isAgg128
 z46 := Tryd.sizeOf128
 v46 := Tryd.zeroValue128
 t105 := Tryd.underlying120
 a105 := Tryd.isAgg120
 z105 := Tryd.sizeOf120
 v105 := Tryd.zeroValue120
 t116 := Tryd.underlying113
 a116 := Tryd.isAgg113
 z116 := Tryd.sizeOf113
 t117 := Tryd.underlying114
 a117 := Tryd.isAgg114
 z117 := Tryd.sizeOf114
 v117 := Tryd.zeroValue114
 t119 := Tryd.underlying127
 a119 := Tryd.isAgg127
 z119 := Tryd.sizeOf127
 t124 := Tryd.underlying117
 a124 := Tryd.isAgg117
 z124 := Tryd.sizeOf117
 v124 := Tryd.zeroValue117
 t138 := Tryd.underlying130
 a138 := Tryd.isAgg130
 z138 := Tryd.sizeOf130
 v138 := Tryd.zeroValue130
 t139 := Tryd.underlying131
 a139 := Tryd.isAgg131
 z139 := Tryd.sizeOf131
 v139 := Tryd.zeroValue131
 g3 := by kernel_rfl
 g4 := by kernel_rfl }
def Tryd.lays137_ren : Go.Shelf.Ren := ⟨fun | 137 => 97 | 217 => 106 | 266 => 118 | n => n, fun | 9 => 9 | 5 => 5 | 3 => 3 | n => n, fun | n => n⟩
theorem Tryd.lays137 : Go.Proofs.Lays.n137 Tryd.prog Tryd.lays137_ren := {
 mixed := by kernel_rfl
 f137 := Tryd.func97.trans (congrArg some (by kernel_rfl))
 f217 := Tryd.func106.trans (congrArg some (by kernel_rfl))
 f266 := Tryd.func118.trans (congrArg some (by kernel_rfl))
 t3 := Tryd.underlying3
 a3 := Tryd.isAgg3
 z3 := Tryd.sizeOf3
 v3 := Tryd.zeroValue3
 t5 := Tryd.underlying5
 a5 := Tryd.isAgg5
 z5 := Tryd.sizeOf5
 v5 := Tryd.zeroValue5
 t9 := Tryd.underlying9
 a9 := Tryd.isAgg9
 z9 := Tryd.sizeOf9
 v9 := Tryd.zeroValue9 }
open Go.RowKit in
theorem Tryd.strings_IndexByte (s : ByteArray) (c : Int) (w : World) :
  Calls Tryd.prog 97 #[.string s, .int .u8 c] w fun e w' => e = .returned (.int .i64 (Lib.indexByte s.data.toList c.toNat.toUInt8)) ∧ w' = w := Any.strings_IndexByte Tryd.lays137 s c w
end Go.Proofs
end
section
namespace Go.Proofs.YtmcbhnbemhfifaaDoor.RX
open Go Go.RowKit
set_option autoImplicit false
def p2 (a b : Ty) : Pat := ⟨[(0, .one (.val a)), (1, .one (.val b))], []⟩
def p1 (a : Ty) : Pat := ⟨[(0, .one (.val a))], []⟩
theorem one_res {d0 : DV sg} {v : Value} {Z : Nat → Nat → Prop} {w : World} {pl : Nat → Value} {nx t : Nat} {d : DV sg} (h : DVOK Z w pl nx d0 v) (hg : get [(0, d0)] t = some d) : DVOK Z w pl nx d (compV 1 v t) := by
 rw [get_cons] at hg
 split at hg
 ·injection hg with hg
  subst hg
  exact h
 ·cases hg
def LTrim.ct : Ct sg := ⟨true, p2 .str .str, p1 .str, [.str, .str], [.str], fun h => LTrim h.1 h.2⟩
theorem LTrim.holds : LTrim.ct.Holds Tryd.prog 99 := by
 refine holds_of_calls (fn := Tryd.f99) (body := bodyOf Tryd.f99) (by kernel_rfl) (by kernel_rfl) (by kernel_rfl) rfl rfl rfl (by kernel_rfl) (fun _ => by kernel_rfl) ?_
 intro Z w args h r hF hargs hZ ⟨pl, hv⟩
 have e : args = #[.string h.1, .string h.2] := args2 hargs (str_val (hv 0 _ rfl)) (str_val (hv 1 _ rfl))
 subst e
 have hF : LTrim h.1 h.2 = some r := hF
 unfold LTrim at hF
 split at hF
 ·rename_i h1
  split at hF
  ·rename_i h2
   split at hF
   ·rename_i h3
    injection hF with hF
    subst hF
    exact (Any.strings_Trim_laid Tryd.lays160 (by kernel_rfl) h.1 h.2 w h2 h3 (ascii_of_all h1)).mono fun e w' ⟨he, bel⟩ => ⟨_, he, fun pl t d hg => one_res (d0 := .sv (.one (.val .str ⟨(Go.Lib.trimS h.1.data.toList h.2.data.toList).toArray⟩))) (show LfOK _ _ _ _ _ _ from val_str _) hg, bel⟩
   ·cases hF
  ·cases hF
 ·cases hF
def LIndexByte.ct : Ct sg := ⟨true, p2 .str (.int .u8), p1 (.int .i64), [.str, .int .u8], [.int .i64], fun h => some (LIndexByte h.1 h.2)⟩
theorem LIndexByte.holds : LIndexByte.ct.Holds Tryd.prog 97 := by
 refine holds_of_calls (fn := Tryd.f97) (body := bodyOf Tryd.f97) (by kernel_rfl) (by kernel_rfl) (by kernel_rfl) rfl rfl rfl (by kernel_rfl) (fun _ => by kernel_rfl) ?_
 intro Z w args h r hF hargs hZ ⟨pl, hv⟩
 have e : args = #[.string h.1, .int .u8 h.2] := args2 hargs (str_val (hv 0 _ rfl)) (int_val (hv 1 _ rfl))
 subst e
 injection hF with hF
 subst hF
 refine (Tryd.strings_IndexByte h.1 h.2 w).mono fun e w' ⟨he, hw⟩ => ⟨_, he, fun pl t d hg => one_res (d0 := .sv (.one (.val (.int .i64) (LIndexByte h.1 h.2)))) (show LfOK _ _ _ _ _ _ from val_int .i64 _) hg, ?_⟩
 subst hw
 exact Below.refl _ _
end Go.Proofs.YtmcbhnbemhfifaaDoor.RX
end
