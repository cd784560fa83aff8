/- A call: the callee's contract put into the caller's state. Conditions: SigOK; the contract holds. -/
import Derived.Test.YtmcbhnbemhfifaaDoorRx14
namespace Go.Proofs.YtmcbhnbemhfifaaDoor.RX
open Go Go.RowKit
set_option autoImplicit false
variable {G : Sig} {R : Type} {P : Program} {W : Rights} {w0 w w' : World} {Z Z' : Nat → Nat → Prop} {pl pl' : Nat → Value} {N : Nat}
variable {E : Env G R} {o : Oper} {L : St G} {K : St G → Option R} {r : R} {a : Act} {next : Act → World → Prop} {Q : Exit → Act → World → Prop}

theorem argsK_ok (S : Sat N W w0 Z pl L a w) : ∀ {xs : List Operand} {j : Nat} {l : List (Nat × DV G)}, argsK L j xs = some l → l.length = xs.length ∧ ∀ t d, get l t = some d → j ≤ t ∧ t < j + xs.length ∧ DVOK Z w pl L.nx d ((xs.map a.eval).getD (t - j) undef)
  | [], j, l, h => by simp only [argsK, Option.some.injEq] at h; subst h; exact ⟨rfl, fun t d hg => by simp [get] at hg⟩
  | x :: xs, j, l, h => by
    simp only [argsK] at h
    split at h
    · rename_i s hx
      split at h
      · rename_i l' hl
        injection h with h
        subst h
        obtain ⟨k1, k2⟩ := argsK_ok S hl
        refine ⟨by simp [k1], fun t d hg => ?_⟩
        rw [get_cons] at hg
        split at hg
        · rename_i e
          injection hg with hg
          subst e hg
          rw [Nat.sub_self]
          exact ⟨Nat.le_refl _, by simp, evalO_ok S hx⟩
        · obtain ⟨m1, m2, m3⟩ := k2 t d hg
          refine ⟨by omega, by simp only [List.length_cons]; omega, ?_⟩
          rw [show t - j = (t - (j + 1)) + 1 by omega, List.map_cons, List.getD_cons_succ]
          exact m3
      · cases h
    · cases h
theorem capsK_ok {nx : Nat} : ∀ {caps : List Nat} {j : Nat}, (∀ i ∈ caps, i < nx ∧ ∃ b, pl i = .pointer (some ⟨b, 0, none⟩)) → (capsK (G := G) j caps).length = caps.length ∧ ∀ t d, get (capsK (G := G) j caps) t = some d → j ≤ t ∧ DVOK Z w pl nx d ((caps.map pl).getD (t - j) undef)
  | [], j, _ => ⟨rfl, fun t d hg => by simp [capsK, get] at hg⟩
  | i :: caps, j, h => by
    obtain ⟨k1, k2⟩ := capsK_ok (caps := caps) (j := j + 1) (fun i hi => h i (List.mem_cons_of_mem _ hi))
    refine ⟨by simp [capsK, k1], fun t d hg => ?_⟩
    simp only [capsK] at hg
    rw [get_cons] at hg
    obtain ⟨h1, b, hb⟩ := h i List.mem_cons_self
    split at hg
    · rename_i e
      injection hg with hg
      subst e hg
      rw [Nat.sub_self]
      exact ⟨Nat.le_refl _, ⟨h1, b, hb, hb⟩, by rw [List.map_cons, List.getD_cons_zero, hb]; rfl⟩
    · obtain ⟨m1, m3⟩ := k2 t d hg
      refine ⟨by omega, ?_⟩
      rw [show t - j = (t - (j + 1)) + 1 by omega, List.map_cons, List.getD_cons_succ]
      exact m3
theorem get_app {α : Type} : ∀ {l l' : List (Nat × α)} {t : Nat} {d : α}, get (l ++ l') t = some d → get l t = some d ∨ get l' t = some d
  | [], _, _, _, h => .inr h
  | (k, v) :: l, l', t, d, h => by
    rw [List.cons_append, get_cons] at h
    rw [get_cons]
    split at h
    · rename_i e; rw [if_pos e]; exact .inl h
    · rename_i e; rw [if_neg e]; exact get_app h

section names
variable {f : Nat → Nat} {pr pl3 : Nat → Value} {n nx3 : Nat}
/-- Names of a contract's objects told as the caller's. -/
def NF (f : Nat → Nat) (pr : Nat → Value) (n : Nat) (pl3 : Nat → Value) (nx3 : Nat) : Prop := ∀ j, j < n → f j < nx3 ∧ pl3 (f j) = pr j
theorem iLeaf_ren (h : NF f pr n pl3 nx3) {p : PLeaf} {vs : List (TV G)} : (iLeaf f p vs).2 = (iLeaf (fun j => j) p vs).2 ∧ ∀ {u : Value}, LfOK Z w pr n (iLeaf (fun j => j) p vs).1 u → LfOK Z w pl3 nx3 (iLeaf f p vs).1 u := by
  cases p with
  | val t => cases vs <;> exact ⟨rfl, fun hu => hu⟩
  | arr j => exact ⟨rfl, fun hu => ⟨⟨(h j hu.1.1).1, hu.1.2.trans (h j hu.1.1).2.symm⟩, hu.2⟩⟩
  | ptr j off => exact ⟨rfl, fun hu => by obtain ⟨⟨h1, b, h2, h3⟩, h4⟩ := hu; exact ⟨⟨(h j h1).1, b, (h j h1).2.trans h2, h3⟩, h4⟩⟩
  | nilp => exact ⟨rfl, fun hu => hu⟩
  | nilf => exact ⟨rfl, fun hu => hu⟩
  | fn g js =>
    refine ⟨rfl, fun hu => ?_⟩
    obtain ⟨⟨h1, h2⟩, h3⟩ := hu
    rw [List.map_id'] at h1 h2
    refine ⟨⟨fun i hi => ?_, ?_⟩, h3⟩
    · obtain ⟨j, hj, e⟩ := List.mem_map.1 hi
      subst e
      obtain ⟨q1, b, q2⟩ := h1 j hj
      exact ⟨(h j q1).1, b, (h j q1).2.trans q2⟩
    · rw [h2]
      congr 2
      rw [List.map_map]
      exact List.map_congr_left (fun j hj => ((h j (h1 j hj).1).2).symm)
  | any => exact ⟨rfl, fun hu => ⟨trivial, hu.2⟩⟩
  | warr j => exact ⟨rfl, fun hu => ⟨⟨(h j hu.1.1).1, by rw [(h j hu.1.1).2]; exact hu.1.2⟩, hu.2⟩⟩
theorem iLeaves_ren (h : NF f pr n pl3 nx3) : ∀ {ps : List PLeaf} {vs : List (TV G)}, (iLeaves f ps vs).2 = (iLeaves (fun j => j) ps vs).2 ∧ (iLeaves f ps vs).1.length = ps.length ∧ ∀ {us : List Value}, LsOK Z w pr n (iLeaves (fun j => j) ps vs).1 us → LsOK Z w pl3 nx3 (iLeaves f ps vs).1 us
  | [], vs => ⟨rfl, rfl, fun hu => hu⟩
  | p :: ps, vs => by
    obtain ⟨a1, a2⟩ := iLeaf_ren (Z := Z) (w := w) h (p := p) (vs := vs)
    obtain ⟨b1, b2, b3⟩ := iLeaves_ren h (ps := ps) (vs := (iLeaf (fun j => j) p vs).2)
    simp only [iLeaves]
    rw [a1]
    exact ⟨b1, by simp [b2], fun ⟨u, us', e, q1, q2⟩ => ⟨u, us', e, a2 q1, b3 q2⟩⟩
theorem iSV_ren (h : NF f pr n pl3 nx3) {p : PSV} {vs : List (TV G)} : (iSV f p vs).2 = (iSV (fun j => j) p vs).2 ∧ ∀ {u : Value}, DVOK Z w pr n (iSV (fun j => j) p vs).1 u → DVOK Z w pl3 nx3 (iSV f p vs).1 u := by
  cases p with
  | one p => obtain ⟨a1, a2⟩ := iLeaf_ren (Z := Z) (w := w) h (p := p) (vs := vs); exact ⟨a1, fun hu => a2 hu⟩
  | agg ps => obtain ⟨a1, _, a2⟩ := iLeaves_ren (Z := Z) (w := w) h (ps := ps) (vs := vs); exact ⟨a1, fun ⟨cs, e, hu⟩ => ⟨cs, e, a2 hu⟩⟩
  | st s =>
    cases vs with
    | nil => exact ⟨rfl, fun hu => hu⟩
    | cons v r =>
      refine ⟨rfl, fun {u} hu => ?_⟩
      simp only [iSV] at hu ⊢
      cases hv : svOf v with
      | none => exact trivial
      | some s' =>
        rw [hv] at hu
        -- a value's cells hold no names
        have key : ∀ (m : Nat) (l : List (TV G)) (ls : List (Leaf G)) (us : List Value), leavesN m l = some ls → LsOK Z w pr n ls us → LsOK Z w pl3 nx3 ls us := by
          intro m
          induction m with
          | zero => intro l ls us hl hu; cases l with | nil => simp only [leavesN, Option.some.injEq] at hl; subst hl; exact hu | cons _ _ => simp [leavesN] at hl
          | succ m ih =>
            intro l ls us hl hu
            cases l with
            | nil => simp only [leavesN, Option.some.injEq] at hl; subst hl; exact hu
            | cons x l =>
              obtain ⟨t, y⟩ := x
              have plain : (∀ k, t ≠ .st k) → LsOK Z w pl3 nx3 ls us := by
                intro hn
                have hl' : (match leavesN m l with | some b => some (Leaf.val t y :: b) | none => none) = some ls := by
                  rw [← hl]
                  cases t with
                  | st k => exact absurd rfl (hn k)
                  | _ => rfl
                split at hl'
                · rename_i b hb
                  injection hl' with hl'
                  subst hl'
                  obtain ⟨u', us', e, q1, q2⟩ := hu
                  exact ⟨u', us', e, q1, ih l b us' hb q2⟩
                · cases hl'
              cases t with
              | st k =>
                simp only [leavesN] at hl
                split at hl
                · rename_i a1 ha
                  split at hl
                  · rename_i b1 hb
                    injection hl with hl
                    subst hl
                    have e1 := (hu.take a1.length)
                    have e2 := (hu.drop a1.length)
                    rw [List.take_left] at e1
                    rw [List.drop_left] at e2
                    have := (ih _ a1 _ ha e1).append (ih l b1 _ hb e2)
                    rwa [List.take_append_drop] at this
                  · cases hl
                · cases hl
              | int k => exact plain (fun _ e => by cases e)
              | bool => exact plain (fun _ e => by cases e)
              | str => exact plain (fun _ e => by cases e)
              | sl e t => exact plain (fun _ e => by cases e)
              | po t => exact plain (fun _ e => by cases e)
        obtain ⟨t, y⟩ := v
        cases t with
        | st k =>
          simp only [svOf] at hv
          split at hv
          · rename_i l hl
            injection hv with hv
            subst hv
            obtain ⟨cs, e, hu⟩ := hu
            exact ⟨cs, e, key _ _ _ _ hl hu⟩
          · cases hv
        | int k => injection hv with hv; subst hv; exact hu
        | bool => injection hv with hv; subst hv; exact hu
        | str => injection hv with hv; subst hv; exact hu
        | sl e t => injection hv with hv; subst hv; exact hu
        | po t => injection hv with hv; subst hv; exact hu
theorem iTmps_ren (h : NF f pr n pl3 nx3) : ∀ {ps : List (Nat × PSV)} {vs : List (TV G)}, (iTmps f ps vs).2 = (iTmps (fun j => j) ps vs).2 ∧
    ∀ t d, get (iTmps f ps vs).1 t = some d → ∃ d', get (iTmps (fun j => j) ps vs).1 t = some d' ∧ ∀ u, DVOK Z w pr n d' u → DVOK Z w pl3 nx3 d u
  | [], vs => ⟨rfl, fun t d hg => by simp [iTmps, get] at hg⟩
  | (t0, p) :: ps, vs => by
    obtain ⟨a1, a2⟩ := iSV_ren (Z := Z) (w := w) h (p := p) (vs := vs)
    obtain ⟨b1, b2⟩ := iTmps_ren h (ps := ps) (vs := (iSV (fun j => j) p vs).2)
    simp only [iTmps]
    rw [a1]
    refine ⟨b1, fun t d hg => ?_⟩
    rw [get_cons] at hg ⊢
    split at hg
    · rename_i e
      injection hg with hg
      subst hg
      rw [if_pos e]
      exact ⟨_, rfl, fun u hu => a2 hu⟩
    · rename_i e
      rw [if_neg e]
      exact b2 t d hg
end names

/-- What a call leaves of an object. -/
def obAt (f : Nat → Nat) (p : POb) (old : Option (Ob G)) (vs : List (TV G)) : Ob G × List (TV G) :=
  match p with
  | .cells ro pl => match old with
    | some (.cells ro' ls) => (.cells ro' (mrg f pl ls vs).1, (mrg f pl ls vs).2)
    | _ => (.cells ro (iLeaves f pl vs).1, (iLeaves f pl vs).2)
  | .arr e t => match vs with
    | ⟨.sl _ t', x⟩ :: r => (.arr e t' x, r)
    | _ => (.arr e t [], [])
  | .ow _ false e t => match vs with
    | ⟨.sl _ t', x⟩ :: r => (.arr e t' x, r)
    | _ => (.arr e t [], [])
  | .ow _ true e t => match vs with
    | ⟨.sl _ t', x⟩ :: r => (.tr e t' x, r)
    | _ => (.tr e t [], [])
theorem resObs_cons (f : Nat → Nat) (j : Nat) (p : POb) (ps : List POb) (vs : List (TV G)) (ob : List (Nat × Ob G)) :
    resObs f j (p :: ps) vs ob = resObs f (j + 1) ps (obAt f p (get ob (f j)) vs).2 ((f j, (obAt f p (get ob (f j)) vs).1) :: ob) := by
  cases p with
  | cells ro pl =>
    cases hg : get ob (f j) with
    | none => simp only [resObs, obAt, hg]
    | some b => cases b <;> simp only [resObs, obAt, hg]
  | arr e t =>
    cases vs with
    | nil => rfl
    | cons v r => obtain ⟨t', x⟩ := v; cases t' <;> rfl
  | ow kp tree e t =>
    cases tree <;>
    (cases vs with
    | nil => rfl
    | cons v r => obtain ⟨t', x⟩ := v; cases t' <;> rfl)
theorem iObs_cons (f : Nat → Nat) (j : Nat) (p : POb) (ps : List POb) (vs : List (TV G)) :
    iObs f j (p :: ps) vs = ((f j, (obAt f p none vs).1) :: (iObs f (j + 1) ps (obAt f p none vs).2).1, (iObs f (j + 1) ps (obAt f p none vs).2).2) := by
  cases p with
  | cells ro pl => rfl
  | arr e t =>
    cases vs with
    | nil => rfl
    | cons v r => obtain ⟨t', x⟩ := v; cases t' <;> rfl
  | ow kp tree e t =>
    cases tree <;>
    (cases vs with
    | nil => rfl
    | cons v r => obtain ⟨t', x⟩ := v; cases t' <;> rfl)
theorem mrg_ok (f : Nat → Nat) {nx : Nat} : ∀ {ps : List PLeaf} {ls : List (Leaf G)} {vs : List (TV G)}, ps.length = ls.length → (mrg f ps ls vs).2 = (iLeaves f ps vs).2 ∧ (mrg f ps ls vs).1.length = ls.length ∧
    ∀ {cs cs' : List Value}, LsOK Z w pl nx (iLeaves f ps vs).1 cs' → LsOK Z w pl nx ls cs → (∀ i : Nat, ps[i]? = some .any → cs'[i]? = cs[i]?) → LsOK Z w pl nx (mrg f ps ls vs).1 cs'
  | [], [], vs, _ => ⟨rfl, rfl, fun h _ _ => h⟩
  | p :: ps, l :: ls, vs, h => by
    have ih := mrg_ok f (nx := nx) (ps := ps) (ls := ls) (vs := (iLeaf f p vs).2) (by simpa using h)
    obtain ⟨a1, a2, a3⟩ := ih
    cases p with
    | any =>
      have a2' : (mrg f ps ls vs).1.length = ls.length := a2
      refine ⟨a1, by simp [mrg, a2'], fun {cs cs'} h1 h2 h3 => ?_⟩
      obtain ⟨u, us, e, q1, q2⟩ := h1
      obtain ⟨u', us', e', q1', q2'⟩ := h2
      subst e e'
      have h0 := h3 0 rfl
      injection h0 with h0
      subst h0
      exact ⟨_, us, rfl, q1', a3 q2 q2' (fun i hi => by have := h3 (i + 1) (by simpa using hi); simpa using this)⟩
    | _ =>
      refine ⟨a1, by simp [mrg, a2], fun {cs cs'} h1 h2 h3 => ?_⟩
      obtain ⟨u, us, e, q1, q2⟩ := h1
      obtain ⟨u', us', e', q1', q2'⟩ := h2
      subst e e'
      exact ⟨_, us, rfl, q1, a3 q2 q2' (fun i hi => by have := h3 (i + 1) (by simpa using hi); simpa using this)⟩
  | [], _ :: _, _, h => by cases h
  | _ :: _, [], _, h => by cases h
theorem obAt_rest {f : Nat → Nat} {p : POb} {old : Option (Ob G)} {vs : List (TV G)} {pr pl3 : Nat → Value} {n nx3 : Nat} (h : NF f pr n pl3 nx3)
    (hl : ∀ ro pl ro' ls, p = .cells ro pl → old = some (.cells ro' ls) → pl.length = ls.length) : (obAt f p old vs).2 = (obAt (fun j => j) p none vs).2 := by
  cases p with
  | cells ro pl =>
    simp only [obAt]
    have e := (iLeaves_ren (Z := fun _ _ => False) (w := default) h (ps := pl) (vs := vs)).1
    split
    · rename_i ro' ls
      rw [(mrg_ok (G := G) (Z := fun _ _ => False) (w := default) (pl := pr) (nx := n) f (hl ro pl ro' ls rfl rfl)).1, e]
    · exact e
  | arr e t => simp only [obAt]
  | ow kp tree e t => cases tree <;> simp only [obAt]
theorem resObs_get {f : Nat → Nat} {pr pl3 : Nat → Value} {n nx3 : Nat} (h : NF f pr n pl3 nx3) : ∀ {ps : List POb} {j : Nat} {vs : List (TV G)} {ob : List (Nat × Ob G)},
    (∀ (i : Nat) p, ps[i]? = some p → ∀ ro pl ro' ls, p = .cells ro pl → get ob (f (j + i)) = some (.cells ro' ls) → pl.length = ls.length) →
    (∀ i i', i < ps.length → i' < ps.length → f (j + i) = f (j + i') → i = i') → ∀ o b, get (resObs f j ps vs ob) o = some b →
    (∃ (i : Nat) (p : POb) (vsi : List (TV G)), ps[i]? = some p ∧ o = f (j + i) ∧ b = (obAt f p (get ob (f (j + i))) vsi).1 ∧ get (iObs (fun j => j) j ps vs).1 (j + i) = some (obAt (fun j => j) p none vsi).1) ∨
      ((∀ i, i < ps.length → o ≠ f (j + i)) ∧ get ob o = some b)
  | [], j, vs, ob, _, _, o, b, hg => .inr ⟨fun i hi => absurd hi (Nat.not_lt_zero _), hg⟩
  | p :: ps, j, vs, ob, hl, hinj, o, b, hg => by
    rw [resObs_cons] at hg
    have hrest := obAt_rest (f := f) (p := p) (old := get ob (f j)) (vs := vs) h (fun ro pl ro' ls e1 e2 => hl 0 p rfl ro pl ro' ls e1 e2)
    have hfar : ∀ i, i < ps.length → get ((f j, (obAt f p (get ob (f j)) vs).1) :: ob) (f (j + 1 + i)) = get ob (f (j + (i + 1))) := by
      intro i hi
      rw [show j + 1 + i = j + (i + 1) by omega]
      refine get_far _ _ (fun e => ?_)
      have := hinj 0 (i + 1) (by simp) (by simpa using hi) e
      omega
    rcases resObs_get h (ps := ps) (j := j + 1) (fun i p' hp ro pl ro' ls e1 e2 => by
        have hlt : i < ps.length := (List.getElem?_eq_some_iff.1 hp).1
        rw [hfar i hlt] at e2
        exact hl (i + 1) p' (by simpa using hp) ro pl ro' ls e1 e2)
      (fun i i' hi hi' e => by
        have := hinj (i + 1) (i' + 1) (by simpa using hi) (by simpa using hi') (by rw [show j + (i + 1) = j + 1 + i by omega, show j + (i' + 1) = j + 1 + i' by omega]; exact e)
        omega) o b hg with ⟨i, p', vsi, h1, h2, h3, h4⟩ | ⟨h1, h2⟩
    · have hlt : i < ps.length := (List.getElem?_eq_some_iff.1 h1).1
      refine .inl ⟨i + 1, p', vsi, by simpa using h1, by rw [show j + (i + 1) = j + 1 + i by omega]; exact h2, ?_, ?_⟩
      · rw [hfar i hlt] at h3; exact h3
      · rw [iObs_cons, get_far _ _ (by omega), ← hrest, show j + (i + 1) = j + 1 + i by omega]
        exact h4
    · by_cases e : f j = o
      · subst e
        rw [get_same] at h2
        injection h2 with h2
        refine .inl ⟨0, p, vs, rfl, rfl, h2.symm, ?_⟩
        rw [iObs_cons]
        exact get_same _ _ _
      · rw [get_far _ _ e] at h2
        refine .inr ⟨fun i hi => ?_, h2⟩
        cases i with
        | zero => exact fun ee => e ee.symm
        | succ i => have := h1 i (by simpa using hi); rwa [show j + (i + 1) = j + 1 + i by omega]
end Go.Proofs.YtmcbhnbemhfifaaDoor.RX
