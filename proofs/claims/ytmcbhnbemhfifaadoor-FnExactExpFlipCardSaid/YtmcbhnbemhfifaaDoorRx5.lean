/- That what a matching comes to is there: the values met are what the cells hold. Condition: each struct's cells are as many as its fields' (SigOK). -/
import Derived.Test.YtmcbhnbemhfifaaDoorRx4
namespace Go.Proofs.YtmcbhnbemhfifaaDoor.RX
open Go
set_option autoImplicit false
variable {G : Sig} {W : Rights} {w0 w w' : World} {Z Z' : Nat → Nat → Prop} {pl pl' : Nat → Value} {objs : List (Nat × Ob G)} {nx nx' : Nat}

def sumSz (G : Sig) : List Ty → Nat
  | [] => 0
  | t :: ts => G.csz t + sumSz G ts
def SigOK (G : Sig) : Prop := ∀ s, sumSz G (G.fs s) = G.sz s

theorem RepF.length : ∀ {ts : List Ty} {h : Fs G.S ts} {cs : List Value}, RepF G Z w ts h cs → cs.length = sumSz G ts := by
  intro ts
  induction ts with
  | nil => intro h cs H; cases H; rfl
  | cons t ts ih => intro h cs H; cases H with | cons _ _ _ cs cs' hl h1 h2 => rw [List.length_append, hl, ih h2]; rfl
theorem RepC.length (hs : SigOK G) {t : Ty} {x : G.D t} {cs : List Value} (h : RepC G Z w t x cs) : cs.length = G.csz t := by
  cases h with
  | int => rfl
  | bool => rfl
  | str => rfl
  | sl => rfl
  | st s x cs h => rw [h.length, hs]; rfl
  | pn => rfl
  | ps => rfl
theorem RepF.one : ∀ {ts : List Ty} {h : Fs G.S ts} {cs : List Value}, RepF G Z w ts h cs → (∀ t x cs, RepC G Z w t x cs → ∀ u ∈ cs, u.oneCell' = true) → ∀ u ∈ cs, u.oneCell' = true := by
  intro ts
  induction ts with
  | nil => intro h cs H _ u hu; cases H; cases hu
  | cons t ts ih =>
    intro h cs H K u hu
    cases H with
    | cons _ _ _ cs cs' hl h1 h2 =>
      rcases List.mem_append.1 hu with hu | hu
      · exact K _ _ _ h1 u hu
      · exact ih h2 K u hu
theorem RepC.one {t : Ty} {x : G.D t} {cs : List Value} (h : RepC G Z w t x cs) : ∀ u ∈ cs, u.oneCell' = true := by
  refine RepC.rec (G := G) (Z := Z) (w := w) (motive_1 := fun t x cs _ => ∀ u ∈ cs, u.oneCell' = true) (motive_2 := fun ts h cs _ => ∀ u ∈ cs, u.oneCell' = true) ?_ ?_ ?_ ?_ ?_ ?_ ?_ ?_ ?_ h
  · intro k x u hu; rw [List.mem_singleton.1 hu]; rfl
  · intro b u hu; rw [List.mem_singleton.1 hu]; rfl
  · intro s u hu; rw [List.mem_singleton.1 hu]; rfl
  · intro e t xs A c b o cs hc hA hl hz hr ih u hu; rw [List.mem_singleton.1 hu]; rfl
  · exact fun s x cs _ ih => ih
  · intro t u hu; rw [List.mem_singleton.1 hu]; rfl
  · intro t x b o cs hl hz _ ih u hu; rw [List.mem_singleton.1 hu]; rfl
  · intro u hu; cases hu
  · intro t ts h cs cs' hl _ _ ih1 ih2 u hu
    rcases List.mem_append.1 hu with hu | hu
    · exact ih1 u hu
    · exact ih2 u hu

theorem RepC.single {t : Ty} {x : G.D t} {cs : List Value} (h : RepC G Z w t x cs) (hs : ∀ s, t ≠ .st s) : ∃ u, cs = [u] := by
  cases h with
  | st s => exact absurd rfl (hs s)
  | _ => exact ⟨_, rfl⟩
theorem castTo_eq {t : Ty} {v : TV G} {x : G.D t} (h : castTo t v = some x) : v = ⟨t, x⟩ := by
  obtain ⟨t', y⟩ := v
  unfold castTo at h
  split at h
  · rename_i hb
    have e : t' = t := Ty.eq_of_beq hb
    subst e
    injection h with h
    subst h
    rfl
  · cases h
theorem RepC.cast {t : Ty} {v : TV G} {x : G.D t} {cs : List Value} (h : castTo t v = some x) (hr : RepC G Z w v.t v.x cs) : RepC G Z w t x cs := by
  rw [castTo_eq h] at hr; exact hr

theorem LsOK.length : ∀ {ls : List (Leaf G)} {vs : List Value}, LsOK Z w pl nx ls vs → vs.length = ls.length
  | [], _, h => by rw [show _ = _ from h]; rfl
  | _ :: ls, _, ⟨v, vs', e, _, h2⟩ => by rw [e, List.length_cons, List.length_cons, LsOK.length h2]
theorem LsOK.append : ∀ {ls ls' : List (Leaf G)} {vs vs' : List Value}, LsOK Z w pl nx ls vs → LsOK Z w pl nx ls' vs' → LsOK Z w pl nx (ls ++ ls') (vs ++ vs')
  | [], _, _, _, h, h' => by rw [show _ = _ from h]; exact h'
  | _ :: ls, _, _, _, ⟨v, vs', e, h1, h2⟩, h' => by rw [e]; exact ⟨v, _, rfl, h1, LsOK.append h2 h'⟩
theorem LsOK.take : ∀ {ls : List (Leaf G)} {vs : List Value} (n : Nat), LsOK Z w pl nx ls vs → LsOK Z w pl nx (ls.take n) (vs.take n)
  | _, _, 0, _ => by rw [List.take_zero, List.take_zero]; exact rfl
  | [], _, n + 1, h => by rw [show _ = _ from h]; exact rfl
  | _ :: ls, _, n + 1, ⟨v, vs', e, h1, h2⟩ => by rw [e]; exact ⟨v, _, rfl, h1, LsOK.take n h2⟩
theorem LsOK.drop : ∀ {ls : List (Leaf G)} {vs : List Value} (n : Nat), LsOK Z w pl nx ls vs → LsOK Z w pl nx (ls.drop n) (vs.drop n)
  | _, _, 0, h => h
  | [], _, n + 1, h => by rw [show _ = _ from h]; exact rfl
  | _ :: ls, _, n + 1, ⟨v, vs', e, h1, h2⟩ => by rw [e]; exact LsOK.drop n h2
theorem LsOK.one : ∀ {ls : List (Leaf G)} {vs : List Value}, LsOK Z w pl nx ls vs → ∀ u ∈ vs, u.oneCell' = true
  | [], _, h, u, hu => by rw [show _ = _ from h] at hu; cases hu
  | _ :: ls, _, ⟨v, vs', e, h1, h2⟩, u, hu => by
    rw [e] at hu
    rcases List.mem_cons.1 hu with hu | hu
    · rw [hu]; exact h1.2
    · exact LsOK.one h2 u hu

/-- A struct laid open. -/
theorem leavesN_ok : ∀ (n : Nat) (ts : List Ty) (h : Fs G.S ts) (cs : List Value) (l : List (Leaf G)), leavesN n (cut1 ts h) = some l → RepF G Z w ts h cs → LsOK Z w pl nx l cs := by
  intro n
  induction n with
  | zero =>
    intro ts h cs l hl H
    cases ts with
    | nil => cases H; simp only [cut1, leavesN, Option.some.injEq] at hl; subst hl; exact rfl
    | cons t ts => simp [cut1, leavesN] at hl
  | succ n ihn =>
    intro ts
    cases ts with
    | nil => intro h cs l hl H; cases H; simp only [cut1, leavesN, Option.some.injEq] at hl; subst hl; exact rfl
    | cons t ts =>
      intro h cs l hl H
      cases H with
      | cons _ _ _ cs cs' hlen h1 h2 =>
        have plain : (∀ s, t ≠ .st s) → LsOK Z w pl nx l (cs ++ cs') := by
          intro hs
          have hl' : (match leavesN n (cut1 ts h.2) with | some b => some (Leaf.val t h.1 :: b) | none => none) = some l := by
            rw [← hl]
            cases t with
            | st s => exact absurd rfl (hs s)
            | int k => rfl
            | bool => rfl
            | str => rfl
            | sl e t => rfl
            | po t => rfl
          split at hl'
          · rename_i b hb
            injection hl' with hl'
            subst hl'
            have hone : ∃ u, cs = [u] := h1.single hs
            obtain ⟨u, rfl⟩ := hone
            exact ⟨u, cs', rfl, ⟨h1, h1.one u (List.mem_singleton.2 rfl)⟩, ihn ts h.2 cs' b hb h2⟩
          · cases hl'
        cases t with
        | st s =>
          simp only [cut1, leavesN] at hl
          split at hl
          · rename_i a ha
            split at hl
            · rename_i b hb
              injection hl with hl
              subst hl
              cases h1 with
              | st _ _ _ h1 => exact (ihn (G.fs s) _ cs a ha h1).append (ihn ts h.2 cs' b hb h2)
            · cases hl
          · cases hl
        | int k => exact plain (fun s e => by cases e)
        | bool => exact plain (fun s e => by cases e)
        | str => exact plain (fun s e => by cases e)
        | sl e t => exact plain (fun s e => by cases e)
        | po t => exact plain (fun s e => by cases e)
/-- A value of a temporary and its cells. -/
def CellsOf (u : Value) (cs : List Value) : Prop := u.cells.toList = cs
theorem cells_one {u : Value} (h : u.oneCell' = true) : u.cells.toList = [u] := by cases u <;> first | rfl | cases h
theorem svOf_ok {v : TV G} {s : SV G} (hv : svOf v = some s) {cs : List Value} (hr : RepC G Z w v.t v.x cs) : ∃ u, SVOK Z w pl nx s u ∧ u.cells.toList = cs ∧ (∀ n, v.t = .st n → u = .agg cs.toArray) ∧ ((∀ n, v.t ≠ .st n) → cs = [u]) := by
  obtain ⟨t, x⟩ := v
  have plain : (∀ n, t ≠ .st n) → svOf ⟨t, x⟩ = some (.one (.val t x)) → ∃ u, SVOK Z w pl nx s u ∧ u.cells.toList = cs ∧ (∀ n, t = .st n → u = .agg cs.toArray) ∧ ((∀ n, t ≠ .st n) → cs = [u]) := by
    intro hn e
    rw [e] at hv
    injection hv with hv
    subst hv
    have hone : ∃ u, cs = [u] := RepC.single hr hn
    obtain ⟨u, rfl⟩ := hone
    have h1 := hr.one u (List.mem_singleton.2 rfl)
    exact ⟨u, ⟨hr, h1⟩, cells_one h1, fun n e => absurd e (hn n), fun _ => rfl⟩
  cases t with
  | st k =>
    simp only [svOf] at hv
    split at hv
    · rename_i l hl
      injection hv with hv
      subst hv
      cases hr with
      | st _ _ _ h => exact ⟨.agg cs.toArray, ⟨cs, rfl, leavesN_ok 99 _ _ _ _ hl h⟩, rfl, fun _ _ => rfl, fun hn => absurd rfl (hn k)⟩
    · cases hv
  | int k => exact plain (fun n e => by cases e) rfl
  | bool => exact plain (fun n e => by cases e) rfl
  | str => exact plain (fun n e => by cases e) rfl
  | sl e t => exact plain (fun n e => by cases e) rfl
  | po t => exact plain (fun n e => by cases e) rfl

/-- What a step of a matching leaves: the state goes on, all that is known of it stays. -/
structure MStep (W : Rights) (w0 w : World) (Z : Nat → Nat → Prop) (pl : Nat → Value) (L : St G) (Z' : Nat → Nat → Prop) (pl' : Nat → Value) (L' : St G) : Prop where
  ext : Ext Z w pl L.nx Z' w pl' L'.nx
  mem : Mem W w0 Z' pl' L'.objs L'.nx w
  tm : L'.tmps = L.tmps
theorem MStep.refl {L : St G} (h : Mem W w0 Z pl L.objs L.nx w) : MStep W w0 w Z pl L Z pl L := ⟨Ext.refl _ _ _ _, h, rfl⟩
theorem Ext.trans {Z1 Z2 Z3 : Nat → Nat → Prop} {w1 w2 w3 : World} {p1 p2 p3 : Nat → Value} {n1 n2 n3 : Nat} (h : Ext Z1 w1 p1 n1 Z2 w2 p2 n2) (k : Ext Z2 w2 p2 n2 Z3 w3 p3 n3) : Ext Z1 w1 p1 n1 Z3 w3 p3 n3 :=
  ⟨Nat.le_trans h.hn k.hn, fun o ho => (k.hp o (Nat.lt_of_lt_of_le ho h.hn)).trans (h.hp o ho), fun b i hz => k.hZ b i (h.hZ b i hz), fun b i hz => (k.hw b i (h.hZ b i hz)).trans (h.hw b i hz)⟩
theorem MStep.trans {Z1 Z2 Z3 : Nat → Nat → Prop} {p1 p2 p3 : Nat → Value} {L1 L2 L3 : St G} (h : MStep W w0 w Z1 p1 L1 Z2 p2 L2) (k : MStep W w0 w Z2 p2 L2 Z3 p3 L3) : MStep W w0 w Z1 p1 L1 Z3 p3 L3 :=
  ⟨h.ext.trans k.ext, k.mem, k.tm.trans h.tm⟩

theorem RepC.weak {e : TypeId} {t : Ty} {xs : List (G.D t)} {u v : Value} (h : RepC G Z w (.sl e t) xs [u]) (hw : Weak u v) : RepC G Z w (.sl e t) xs [v] := by
  rcases hw with rfl | ⟨rfl, A, c, rfl⟩
  · exact h
  · generalize hq : [Value.slice none 0 0] = q at h
    cases h with
    | sl _ _ _ A' c' b o cs hc hA hl hz hr =>
      injection hq with hq _
      injection hq with _ hn _
      have : xs = [] := List.eq_nil_of_length_eq_zero hn.symm
      subst this
      exact .sl e t [] A c 0 0 (fun _ => []) (Nat.zero_le _) (.inl rfl) (fun i hi => by cases hi) (fun i j v hi => by cases hi) (fun i hi => by cases hi)
theorem toTV_ok {t : Ty} {l : Leaf G} {L L' : St G} {v : TV G} (h : toTV t l L = some (v, L')) (M : Mem W w0 Z pl L.objs L.nx w) {u : Value} (hu : LfOK Z w pl L.nx l u) :
    ∃ Z', MStep W w0 w Z pl L Z' pl L' ∧ v.t = t ∧ RepC G Z' w v.t v.x [u] := by
  cases l with
  | val t' x =>
    simp only [toTV] at h
    split at h
    · rename_i hb
      injection h with h
      injection h with h1 h2
      subst h1 h2
      exact ⟨Z, .refl M, Ty.eq_of_beq hb, hu.1⟩
    · cases h
  | kb b =>
    simp only [toTV] at h
    split at h
    · rename_i hb
      injection h with h
      injection h with h1 h2
      subst h1 h2
      have := hu.1
      rw [show u = _ from this]
      exact ⟨Z, .refl M, (Ty.eq_of_beq hb).symm, .bool b⟩
    · cases h
  | prop p d =>
    simp only [toTV] at h
    split at h
    · rename_i hb
      injection h with h
      injection h with h1 h2
      subst h1 h2
      have := hu.1
      rw [show u = _ from this]
      exact ⟨Z, .refl M, (Ty.eq_of_beq hb).symm, .bool _⟩
    · cases h
  | nils =>
    simp only [toTV] at h
    split at h
    · rename_i e t'
      injection h with h
      injection h with h1 h2
      subst h1 h2
      have := hu.1
      rw [show u = _ from this]
      exact ⟨Z, .refl M, rfl, .sl e t' [] none 0 0 0 (fun _ => []) (Nat.le_refl _) (.inl rfl) (fun i hi => by cases hi) (fun i j v hi => by cases hi) (fun i hi => by cases hi)⟩
    · cases h
  | full e t' x =>
    simp only [toTV] at h
    split at h
    · rename_i hb
      injection h with h
      injection h with h1 h2
      subst h1 h2
      exact ⟨Z, .refl M, Ty.eq_of_beq hb, hu.1.1⟩
    · cases h
  | aref o =>
    simp only [toTV] at h
    split at h
    · rename_i e t' x hg
      split at h
      · rename_i hb
        injection h with h
        injection h with h1 h2
        subst h1 h2
        obtain ⟨Z', E, M', R, _⟩ := M.freeze (.inl hg)
        have := hu.1.2
        rw [show u = _ from this]
        exact ⟨Z', ⟨by rw [freeze_nx]; exact E, by rw [freeze_nx]; exact M', freeze_tmps L o⟩, Ty.eq_of_beq hb, R⟩
      · cases h
    · rename_i e t' x hg
      split at h
      · rename_i hb
        injection h with h
        injection h with h1 h2
        subst h1 h2
        obtain ⟨Z', E, M', R, _⟩ := M.freeze (.inr hg)
        have := hu.1.2
        rw [show u = _ from this]
        exact ⟨Z', ⟨by rw [freeze_nx]; exact E, by rw [freeze_nx]; exact M', freeze_tmps L o⟩, Ty.eq_of_beq hb, R⟩
      · cases h
    · rename_i e t' x hg
      split at h
      · rename_i hb
        injection h with h
        injection h with h1 h2
        subst h1 h2
        have := hu.1.2
        rw [show u = _ from this]
        exact ⟨Z, .refl M, Ty.eq_of_beq hb, M.ob o _ hg⟩
      · cases h
    · cases h
  | wref o =>
    simp only [toTV] at h
    split at h
    · rename_i e t' x hg
      split at h
      · rename_i hb
        injection h with h
        injection h with h1 h2
        subst h1 h2
        obtain ⟨Z', E, M', R, _⟩ := M.freeze (.inl hg)
        exact ⟨Z', ⟨by rw [freeze_nx]; exact E, by rw [freeze_nx]; exact M', freeze_tmps L o⟩, Ty.eq_of_beq hb, R.weak hu.1.2⟩
      · cases h
    · rename_i e t' x hg
      split at h
      · rename_i hb
        injection h with h
        injection h with h1 h2
        subst h1 h2
        obtain ⟨Z', E, M', R, _⟩ := M.freeze (.inr hg)
        exact ⟨Z', ⟨by rw [freeze_nx]; exact E, by rw [freeze_nx]; exact M', freeze_tmps L o⟩, Ty.eq_of_beq hb, R.weak hu.1.2⟩
      · cases h
    · rename_i e t' x hg
      split at h
      · rename_i hb
        injection h with h
        injection h with h1 h2
        subst h1 h2
        exact ⟨Z, .refl M, Ty.eq_of_beq hb, RepC.weak (M.ob o _ hg) hu.1.2⟩
      · cases h
    · cases h
  | wnil =>
    simp only [toTV] at h
    split at h
    · rename_i e t'
      injection h with h
      injection h with h1 h2
      subst h1 h2
      obtain ⟨A, c, hu⟩ := hu.1
      rw [hu]
      exact ⟨Z, .refl M, rfl, .sl e t' [] A c 0 0 (fun _ => []) (Nat.zero_le _) (.inl rfl) (fun i hi => by cases hi) (fun i j v hi => by cases hi) (fun i hi => by cases hi)⟩
    · cases h
  | ptr o off => cases h
  | rptr t' x =>
    simp only [toTV] at h
    split at h
    · rename_i hb
      injection h with h
      injection h with h1 h2
      subst h1 h2
      obtain ⟨b, o, cs, h1, h2, h3, h4⟩ := hu.1
      rw [h1]
      exact ⟨Z, .refl M, Ty.eq_of_beq hb, .ps t' x b o cs h2 h3 h4⟩
    · cases h
  | aptr o i z off => cases h
  | nilp =>
    simp only [toTV] at h
    split at h
    · rename_i t'
      injection h with h
      injection h with h1 h2
      subst h1 h2
      rw [show u = _ from hu.1]
      exact ⟨Z, .refl M, rfl, .pn t'⟩
    · cases h
  | nilf => cases h
  | fn f caps => cases h
  | junk => cases h

theorem packN_ok (hs : SigOK G) : ∀ (n : Nat) (ts : List Ty) (ls : List (Leaf G)) (L : St G) (h : Fs G.S ts) (ls' : List (Leaf G)) (L' : St G), packN n ts ls L = some (h, ls', L') →
    ∀ (Z : Nat → Nat → Prop), Mem W w0 Z pl L.objs L.nx w → ∀ us, LsOK Z w pl L.nx ls us →
    ∃ Z' us1 us2, us = us1 ++ us2 ∧ MStep W w0 w Z pl L Z' pl L' ∧ RepF G Z' w ts h us1 ∧ LsOK Z' w pl L'.nx ls' us2 := by
  intro n
  induction n with
  | zero =>
    intro ts ls L h ls' L' hp Z M us hu
    cases ts with
    | nil =>
      simp only [packN, Option.some.injEq, Prod.mk.injEq] at hp
      obtain ⟨rfl, rfl, rfl⟩ := hp
      exact ⟨Z, [], us, rfl, .refl M, .nil, hu⟩
    | cons t ts => simp [packN] at hp
  | succ n ihn =>
    intro ts
    cases ts with
    | nil =>
      intro ls L h ls' L' hp Z M us hu
      simp only [packN, Option.some.injEq, Prod.mk.injEq] at hp
      obtain ⟨rfl, rfl, rfl⟩ := hp
      exact ⟨Z, [], us, rfl, .refl M, .nil, hu⟩
    | cons t ts =>
      intro ls L h ls' L' hp Z M us hu
      have plain : (∀ s, t ≠ .st s) → ∃ Z' us1 us2, us = us1 ++ us2 ∧ MStep W w0 w Z pl L Z' pl L' ∧ RepF G Z' w (t :: ts) h us1 ∧ LsOK Z' w pl L'.nx ls' us2 := by
        intro hn
        cases ls with
        | nil => cases t <;> first | (exact absurd rfl (hn _)) | (simp [packN] at hp; done)
        | cons l ls =>
          have hp' : (match toTV t l L with
            | some (v, L') => match castTo t v with
              | some x => match packN n ts ls L' with
                | some (hs, ls', L'') => some (((x, hs) : Fs G.S (t :: ts)), ls', L'')
                | none => none
              | none => none
            | none => none) = some (h, ls', L') := by
            rw [← hp]
            cases t with
            | st s => exact absurd rfl (hn s)
            | int k => rfl
            | bool => rfl
            | str => rfl
            | sl e t => rfl
            | po t => rfl
          split at hp'
          · rename_i v L1 hv
            split at hp'
            · rename_i x hx
              split at hp'
              · rename_i hs' ls1 L2 hr
                simp only [Option.some.injEq, Prod.mk.injEq] at hp'
                obtain ⟨rfl, rfl, rfl⟩ := hp'
                obtain ⟨u, us', rfl, hu1, hu2⟩ := hu
                obtain ⟨Z1, S1, _, R1⟩ := toTV_ok hv M hu1
                obtain ⟨Z2, us1, us2, rfl, S2, F2, O2⟩ := ihn ts ls L1 hs' ls' L' hr Z1 S1.mem us' (hu2.mono S1.ext)
                refine ⟨Z2, u :: us1, us2, rfl, S1.trans S2, ?_, O2⟩
                have R1' := (RepC.cast hx R1).mono S2.ext.hZ S2.ext.hw
                exact RepF.cons t ts (x, hs') [u] us1 (by cases t <;> first | (exact absurd rfl (hn _)) | rfl) R1' F2
              · cases hp'
            · cases hp'
          · cases hp'
      cases t with
      | st s =>
        simp only [packN] at hp
        split at hp
        · rename_i h1 ls1 L1 hp1
          split at hp
          · rename_i h2 ls2 L2 hp2
            simp only [Option.some.injEq, Prod.mk.injEq] at hp
            obtain ⟨rfl, rfl, rfl⟩ := hp
            obtain ⟨Z1, us1, us2, rfl, S1, F1, O1⟩ := ihn (G.fs s) ls L h1 ls1 L1 hp1 Z M us hu
            obtain ⟨Z2, us3, us4, rfl, S2, F2, O2⟩ := ihn ts ls1 L1 h2 ls' L' hp2 Z1 S1.mem us2 O1
            refine ⟨Z2, us1 ++ us3, us4, by rw [List.append_assoc], S1.trans S2, ?_, O2⟩
            have F1' := F1.mono S2.ext.hZ S2.ext.hw
            refine RepF.cons (.st s) ts _ us1 us3 (by rw [F1.length, hs]; rfl) (.st s _ us1 ?_) F2
            rw [G.hop]
            exact F1'
          · cases hp
        · cases hp
      | int k => exact plain (fun s e => by cases e)
      | bool => exact plain (fun s e => by cases e)
      | str => exact plain (fun s e => by cases e)
      | sl e t => exact plain (fun s e => by cases e)
      | po t => exact plain (fun s e => by cases e)
theorem svTV_ok (hs : SigOK G) {t : Ty} {s : SV G} {L L' : St G} {v : TV G} (h : svTV t s L = some (v, L')) (M : Mem W w0 Z pl L.objs L.nx w) {u : Value} (hu : SVOK Z w pl L.nx s u) :
    ∃ Z', MStep W w0 w Z pl L Z' pl L' ∧ v.t = t ∧ RepC G Z' w v.t v.x u.cells.toList := by
  have plain : (∀ n, t ≠ .st n) → ∀ l, s = .one l → toTV t l L = some (v, L') → ∃ Z', MStep W w0 w Z pl L Z' pl L' ∧ v.t = t ∧ RepC G Z' w v.t v.x u.cells.toList := by
    intro hn l e hl
    subst e
    obtain ⟨Z', S, e, R⟩ := toTV_ok hl M hu
    rw [cells_one hu.2]
    exact ⟨Z', S, e, R⟩
  cases t with
  | st k =>
    cases s with
    | one l => simp [svTV] at h
    | agg ls =>
      simp only [svTV] at h
      split at h
      · rename_i h1 L1 hp
        injection h with h
        injection h with h1' h2'
        subst h1' h2'
        obtain ⟨cs, rfl, hu⟩ := hu
        obtain ⟨Z', us1, us2, rfl, S, F, O⟩ := packN_ok hs 99 _ _ _ _ _ _ hp Z M cs hu
        have : us2 = [] := O
        subst this
        refine ⟨Z', S, rfl, ?_⟩
        show RepC G Z' w (.st k) (G.bd k h1) (us1 ++ [])
        rw [List.append_nil]
        refine .st k _ us1 ?_
        rw [G.hop]
        exact F
      · cases h
  | int k => cases s with | one l => exact plain (fun n e => by cases e) l rfl (by simpa only [svTV] using h) | agg ls => simp [svTV] at h
  | bool => cases s with | one l => exact plain (fun n e => by cases e) l rfl (by simpa only [svTV] using h) | agg ls => simp [svTV] at h
  | str => cases s with | one l => exact plain (fun n e => by cases e) l rfl (by simpa only [svTV] using h) | agg ls => simp [svTV] at h
  | sl e t => cases s with | one l => exact plain (fun n e => by cases e) l rfl (by simpa only [svTV] using h) | agg ls => simp [svTV] at h
  | po t => cases s with | one l => exact plain (fun n e => by cases e) l rfl (by simpa only [svTV] using h) | agg ls => simp [svTV] at h
end Go.Proofs.YtmcbhnbemhfifaaDoor.RX
