/- That a state which matches a pattern is, told by the pattern's own names and the values met, a state again. Condition: SigOK. -/
import Derived.Test.YtmcbhnbemhfifaaDoorRx5
namespace Go.Proofs.YtmcbhnbemhfifaaDoor.RX
open Go
set_option autoImplicit false
variable {G : Sig} {W : Rights} {w0 w w' : World} {Z Z' : Nat → Nat → Prop} {pl pl' : Nat → Value} {objs : List (Nat × Ob G)} {nx nx' : Nat}

/-- Names of objects: 'f' and where they lie, 'pl2', fit to what was bound. -/
def Fit (pl : Nat → Value) (ren : List (Nat × Nat)) (f : Nat → Nat) (pl2 : Nat → Value) (nx2 : Nat) : Prop := ∀ j o, get ren j = some o → f j < nx2 ∧ pl2 (f j) = pl o
def RenLt (ren : List (Nat × Nat)) (nx : Nat) : Prop := ∀ j o, get ren j = some o → o < nx
def RenLe (ren ren' : List (Nat × Nat)) : Prop := ∀ j o, get ren j = some o → get ren' j = some o
theorem Fit.back {ren ren' : List (Nat × Nat)} {f : Nat → Nat} {pl2 : Nat → Value} {nx2 : Nat} (h : Fit pl' ren' f pl2 nx2) (hr : RenLe ren ren') (hl : RenLt ren nx) (hp : ∀ o, o < nx → pl' o = pl o) : Fit pl ren f pl2 nx2 :=
  fun j o hj => ⟨(h j o (hr j o hj)).1, (h j o (hr j o hj)).2.trans (hp o (hl j o hj))⟩

def PL (Z : Nat → Nat → Prop) (w : World) (pl : Nat → Value) (ren : List (Nat × Nat)) (p : PLeaf) (seg : List (TV G)) (u : Value) : Prop :=
  ∀ f pl2 nx2, Fit pl ren f pl2 nx2 → ∀ rest, ∃ l', iLeaf f p (seg ++ rest) = (l', rest) ∧ LfOK Z w pl2 nx2 l' u
def PLs (Z : Nat → Nat → Prop) (w : World) (pl : Nat → Value) (ren : List (Nat × Nat)) (ps : List PLeaf) (seg : List (TV G)) (us : List Value) : Prop :=
  ∀ f pl2 nx2, Fit pl ren f pl2 nx2 → ∀ rest, ∃ ls', iLeaves f ps (seg ++ rest) = (ls', rest) ∧ LsOK Z w pl2 nx2 ls' us ∧ ls'.length = ps.length
def PSVs (Z : Nat → Nat → Prop) (w : World) (pl : Nat → Value) (ren : List (Nat × Nat)) (p : PSV) (seg : List (TV G)) (u : Value) : Prop :=
  ∀ f pl2 nx2, Fit pl ren f pl2 nx2 → ∀ rest, ∃ d', iSV f p (seg ++ rest) = (d', rest) ∧ DVOK Z w pl2 nx2 d' u
/-- The state goes on elsewhere: values stay. -/
theorem Ext.here (hZ : ∀ b i, Z b i → Z' b i) (hw : ∀ b i, Z b i → w'.cell? ⟨b, i, none⟩ = w.cell? ⟨b, i, none⟩) : Ext Z w pl nx Z' w' pl nx := ⟨Nat.le_refl _, fun _ _ => rfl, hZ, hw⟩

/-- What a step of the matching says, of what 'Q' tells of the names and the values met. -/
structure MOK (W : Rights) (w0 w : World) (Z : Nat → Nat → Prop) (pl : Nat → Value) (m m' : MS G) (Q : (Nat → Nat → Prop) → (Nat → Value) → List (Nat × Nat) → List (TV G) → Prop) : Prop where
  go : ∃ Z' pl' seg, MStep W w0 w Z pl m.L Z' pl' m'.L ∧ m'.out = seg.reverse ++ m.out ∧ RenLe m.ren m'.ren ∧ RenLt m'.ren m'.L.nx ∧ Q Z' pl' m'.ren seg
  cells : ∀ o ro ls, get m.L.objs o = some (.cells ro ls) → get m'.L.objs o = some (.cells ro ls)
  back : ∀ o b, get m'.L.objs o = some b → live b = true → get m.L.objs o = some b ∨ m.L.nx ≤ o

theorem get_append {α : Type} (r : List (Nat × α)) (j : Nat) (o : α) (n : Nat) : get (r ++ [(j, o)]) n = match get r n with | some x => some x | none => if j = n then some o else none := by
  induction r with
  | nil => simp [get_cons, get]
  | cons a r ih =>
    obtain ⟨k, v⟩ := a
    rw [List.cons_append, get_cons, get_cons]
    split
    · rfl
    · exact ih
theorem bindO_ok {ren ren' : List (Nat × Nat)} {j o : Nat} (h : bindO ren j o = some ren') : RenLe ren ren' ∧ get ren' j = some o ∧ ∀ n x, get ren' n = some x → get ren n = some x ∨ x = o := by
  unfold bindO at h
  split at h
  · rename_i o' hg
    split at h
    · rename_i hb
      injection h with h
      subst h
      have := Nat.eq_of_beq_eq_true hb
      subst this
      exact ⟨fun _ _ h => h, hg, fun n x h => .inl h⟩
    · cases h
  · rename_i hg
    injection h with h
    subst h
    refine ⟨fun n x hn => by rw [get_append, hn], by rw [get_append, hg]; simp, fun n x hn => ?_⟩
    rw [get_append] at hn
    split at hn
    · rename_i y hy
      injection hn with hn
      subst hn
      exact .inl hy
    · split at hn
      · injection hn with hn; exact .inr hn.symm
      · cases hn
theorem bindL_ok : ∀ {js os : List Nat} {ren ren' : List (Nat × Nat)}, bindL ren js os = some ren' → RenLe ren ren' ∧ (∀ n x, get ren' n = some x → get ren n = some x ∨ x ∈ os) ∧
    ∀ (f : Nat → Nat) (pl pl2 : Nat → Value) (nx2 : Nat), Fit pl ren' f pl2 nx2 → (js.map f).map pl2 = os.map pl ∧ (∀ i ∈ js.map f, i < nx2 ∧ ∃ o ∈ os, pl2 i = pl o)
  | [], [], ren, ren', h => by
    simp only [bindL, Option.some.injEq] at h
    subst h
    exact ⟨fun _ _ h => h, fun _ _ h => .inl h, fun f pl pl2 nx2 _ => ⟨rfl, fun i hi => by cases hi⟩⟩
  | j :: js, o :: os, ren, ren', h => by
    simp only [bindL] at h
    split at h
    · rename_i r1 h1
      obtain ⟨a1, a2, a3⟩ := bindO_ok h1
      obtain ⟨b1, b2, b3⟩ := bindL_ok h
      refine ⟨fun n x hn => b1 n x (a1 n x hn), fun n x hn => ?_, fun f pl pl2 nx2 hf => ?_⟩
      · rcases b2 n x hn with h | h
        · rcases a3 n x h with h | h
          · exact .inl h
          · exact .inr (by rw [h]; exact List.mem_cons_self)
        · exact .inr (List.mem_cons_of_mem _ h)
      · obtain ⟨c1, c2⟩ := b3 f pl pl2 nx2 hf
        have d := hf j o (b1 j o a2)
        refine ⟨by simp only [List.map_cons, c1, d.2], fun i hi => ?_⟩
        rcases List.mem_cons.1 hi with hi | hi
        · rw [hi]; exact ⟨d.1, o, List.mem_cons_self, d.2⟩
        · obtain ⟨e1, o', e2, e3⟩ := c2 i hi
          exact ⟨e1, o', List.mem_cons_of_mem _ e2, e3⟩
    · cases h
  | [], _ :: _, _, _, h => by simp [bindL] at h
  | _ :: _, [], _, _, h => by simp [bindL] at h

theorem toTV_cells {t : Ty} {l : Leaf G} {L L' : St G} {v : TV G} (h : toTV t l L = some (v, L')) (o : Nat) (ro : List Nat) (ls : List (Leaf G)) (hg : get L.objs o = some (.cells ro ls)) : get L'.objs o = some (.cells ro ls) := by
  have same : L' = L → get L'.objs o = some (.cells ro ls) := fun e => by rw [e]; exact hg
  have fz : ∀ o', (∃ e t x, get L.objs o' = some (.arr e t x) ∨ get L.objs o' = some (.tr e t x)) → L' = freeze L o' → get L'.objs o = some (.cells ro ls) := by
    intro o' ⟨e, t, x, ho'⟩ he
    rw [he]
    unfold freeze
    cases L with
    | mk tm ob nx =>
      simp only at hg ho' ⊢
      rcases ho' with ho' | ho' <;>
      (rw [ho']
       simp only
       rw [get_far _ _ (by intro e; subst e; rw [hg] at ho'; cases ho')]
       exact hg)
  cases l with
  | aref o' =>
    simp only [toTV] at h
    split at h
    · rename_i e t' x hg'
      split at h
      · injection h with h; injection h with h1 h2; exact fz o' ⟨e, t', x, .inl hg'⟩ h2.symm
      · cases h
    · rename_i e t' x hg'
      split at h
      · injection h with h; injection h with h1 h2; exact fz o' ⟨e, t', x, .inr hg'⟩ h2.symm
      · cases h
    · split at h
      · injection h with h; injection h with h1 h2; exact same h2.symm
      · cases h
    · cases h
  | wref o' =>
    simp only [toTV] at h
    split at h
    · rename_i e t' x hg'
      split at h
      · injection h with h; injection h with h1 h2; exact fz o' ⟨e, t', x, .inl hg'⟩ h2.symm
      · cases h
    · rename_i e t' x hg'
      split at h
      · injection h with h; injection h with h1 h2; exact fz o' ⟨e, t', x, .inr hg'⟩ h2.symm
      · cases h
    · split at h
      · injection h with h; injection h with h1 h2; exact same h2.symm
      · cases h
    · cases h
  | wnil => simp only [toTV] at h; split at h <;> first | (injection h with h; injection h with h1 h2; exact same h2.symm) | cases h
  | val t' x => simp only [toTV] at h; split at h <;> first | (injection h with h; injection h with h1 h2; exact same h2.symm) | cases h
  | kb b => simp only [toTV] at h; split at h <;> first | (injection h with h; injection h with h1 h2; exact same h2.symm) | cases h
  | prop p d => simp only [toTV] at h; split at h <;> first | (injection h with h; injection h with h1 h2; exact same h2.symm) | cases h
  | nils => simp only [toTV] at h; split at h <;> first | (injection h with h; injection h with h1 h2; exact same h2.symm) | cases h
  | full e t' x => simp only [toTV] at h; split at h <;> first | (injection h with h; injection h with h1 h2; exact same h2.symm) | cases h
  | ptr o off => cases h
  | rptr t x => simp only [toTV] at h; split at h <;> first | (injection h with h; injection h with h1 h2; exact same h2.symm) | cases h
  | aptr o i z off => cases h
  | nilp => simp only [toTV] at h; split at h <;> first | (injection h with h; injection h with h1 h2; exact same h2.symm) | cases h
  | nilf => cases h
  | fn f caps => cases h
  | junk => cases h
theorem packN_cells : ∀ (n : Nat) (ts : List Ty) (ls : List (Leaf G)) (L : St G) (h : Fs G.S ts) (ls' : List (Leaf G)) (L' : St G), packN n ts ls L = some (h, ls', L') →
    ∀ o ro l, get L.objs o = some (.cells ro l) → get L'.objs o = some (.cells ro l) := by
  intro n
  induction n with
  | zero =>
    intro ts ls L h ls' L' hp
    cases ts with
    | nil => simp only [packN, Option.some.injEq, Prod.mk.injEq] at hp; obtain ⟨_, _, rfl⟩ := hp; exact fun _ _ _ h => h
    | cons t ts => simp [packN] at hp
  | succ n ihn =>
    intro ts ls L h ls' L' hp
    cases ts with
    | nil => simp only [packN, Option.some.injEq, Prod.mk.injEq] at hp; obtain ⟨_, _, rfl⟩ := hp; exact fun _ _ _ h => h
    | cons t ts =>
      have plain : (∀ s, t ≠ .st s) → ∀ o ro l, get L.objs o = some (.cells ro l) → get L'.objs o = some (.cells ro l) := by
        intro hn
        cases ls with
        | nil => cases t <;> first | (exact absurd rfl (hn _)) | (simp [packN] at hp; done)
        | cons l ls =>
          have hp' : (match toTV t l L with
            | some (v, L') => match castTo t v with
              | some x => match packN n ts ls L' with
                | some (hs, ls', L'') => some (((x, hs) : Fs G.S (t :: ts)), ls', L'')
                | none => none
              | none => none
            | none => none) = some (h, ls', L') := by
            rw [← hp]
            cases t with
            | st s => exact absurd rfl (hn s)
            | int k => rfl
            | bool => rfl
            | str => rfl
            | sl e t => rfl
            | po t => rfl
          split at hp'
          · rename_i v L1 hv
            split at hp'
            · split at hp'
              · rename_i hs' ls1 L2 hr
                simp only [Option.some.injEq, Prod.mk.injEq] at hp'
                obtain ⟨_, _, rfl⟩ := hp'
                exact fun o ro l hg => ihn _ _ _ _ _ _ hr o ro l (toTV_cells hv o ro l hg)
              · cases hp'
            · cases hp'
          · cases hp'
      cases t with
      | st s =>
        simp only [packN] at hp
        split at hp
        · rename_i h1 ls1 L1 hp1
          split at hp
          · rename_i h2 ls2 L2 hp2
            simp only [Option.some.injEq, Prod.mk.injEq] at hp
            obtain ⟨_, _, rfl⟩ := hp
            exact fun o ro l hg => ihn _ _ _ _ _ _ hp2 o ro l (ihn _ _ _ _ _ _ hp1 o ro l hg)
          · cases hp
        · cases hp
      | int k => exact plain (fun s e => by cases e)
      | bool => exact plain (fun s e => by cases e)
      | str => exact plain (fun s e => by cases e)
      | sl e t => exact plain (fun s e => by cases e)
      | po t => exact plain (fun s e => by cases e)
theorem svTV_cells {t : Ty} {s : SV G} {L L' : St G} {v : TV G} (h : svTV t s L = some (v, L')) (o : Nat) (ro : List Nat) (ls : List (Leaf G)) (hg : get L.objs o = some (.cells ro ls)) : get L'.objs o = some (.cells ro ls) := by
  cases t with
  | st k =>
    cases s with
    | one l => simp [svTV] at h
    | agg l =>
      simp only [svTV] at h
      split at h
      · rename_i h1 L1 hp
        injection h with h
        injection h with h1' h2'
        subst h2'
        exact packN_cells _ _ _ _ _ _ _ hp o ro ls hg
      · cases h
  | int k => cases s with | one l => exact toTV_cells (by simpa only [svTV] using h) o ro ls hg | agg ls => simp [svTV] at h
  | bool => cases s with | one l => exact toTV_cells (by simpa only [svTV] using h) o ro ls hg | agg ls => simp [svTV] at h
  | str => cases s with | one l => exact toTV_cells (by simpa only [svTV] using h) o ro ls hg | agg ls => simp [svTV] at h
  | sl e t => cases s with | one l => exact toTV_cells (by simpa only [svTV] using h) o ro ls hg | agg ls => simp [svTV] at h
  | po t => cases s with | one l => exact toTV_cells (by simpa only [svTV] using h) o ro ls hg | agg ls => simp [svTV] at h

theorem toTV_live {t : Ty} {l : Leaf G} {L L' : St G} {v : TV G} (h : toTV t l L = some (v, L')) (o : Nat) (b : Ob G) (hg : get L'.objs o = some b) (hl : live b = true) : get L.objs o = some b := by
  have fz : ∀ o', L' = freeze L o' → get L.objs o = some b := by
    intro o' he
    subst he
    unfold freeze at hg
    cases L with
    | mk tm ob nx =>
      simp only at hg ⊢
      split at hg
      · rename_i e t x hh
        simp only [get_cons] at hg
        split at hg
        · injection hg with hg; subst hg; cases hl
        · exact hg
      · rename_i e t x hh
        simp only [get_cons] at hg
        split at hg
        · injection hg with hg; subst hg; cases hl
        · exact hg
      · exact hg
  have same : L' = L → get L.objs o = some b := fun e => by rw [← e]; exact hg
  cases l with
  | aref o' =>
    simp only [toTV] at h
    split at h
    · split at h
      · injection h with h; injection h with h1 h2; exact fz o' h2.symm
      · cases h
    · split at h
      · injection h with h; injection h with h1 h2; exact fz o' h2.symm
      · cases h
    · split at h
      · injection h with h; injection h with h1 h2; exact same h2.symm
      · cases h
    · cases h
  | wref o' =>
    simp only [toTV] at h
    split at h
    · split at h
      · injection h with h; injection h with h1 h2; exact fz o' h2.symm
      · cases h
    · split at h
      · injection h with h; injection h with h1 h2; exact fz o' h2.symm
      · cases h
    · split at h
      · injection h with h; injection h with h1 h2; exact same h2.symm
      · cases h
    · cases h
  | wnil => simp only [toTV] at h; split at h <;> first | (injection h with h; injection h with h1 h2; exact same h2.symm) | cases h
  | val t' x => simp only [toTV] at h; split at h <;> first | (injection h with h; injection h with h1 h2; exact same h2.symm) | cases h
  | kb b => simp only [toTV] at h; split at h <;> first | (injection h with h; injection h with h1 h2; exact same h2.symm) | cases h
  | prop p d => simp only [toTV] at h; split at h <;> first | (injection h with h; injection h with h1 h2; exact same h2.symm) | cases h
  | nils => simp only [toTV] at h; split at h <;> first | (injection h with h; injection h with h1 h2; exact same h2.symm) | cases h
  | full e t' x => simp only [toTV] at h; split at h <;> first | (injection h with h; injection h with h1 h2; exact same h2.symm) | cases h
  | ptr o off => cases h
  | rptr t x => simp only [toTV] at h; split at h <;> first | (injection h with h; injection h with h1 h2; exact same h2.symm) | cases h
  | aptr o i z off => cases h
  | nilp => simp only [toTV] at h; split at h <;> first | (injection h with h; injection h with h1 h2; exact same h2.symm) | cases h
  | nilf => cases h
  | fn f caps => cases h
  | junk => cases h
theorem packN_live : ∀ (n : Nat) (ts : List Ty) (ls : List (Leaf G)) (L : St G) (h : Fs G.S ts) (ls' : List (Leaf G)) (L' : St G), packN n ts ls L = some (h, ls', L') →
    ∀ o b, get L'.objs o = some b → live b = true → get L.objs o = some b := by
  intro n
  induction n with
  | zero =>
    intro ts ls L h ls' L' hp
    cases ts with
    | nil => simp only [packN, Option.some.injEq, Prod.mk.injEq] at hp; obtain ⟨_, _, rfl⟩ := hp; exact fun _ _ h _ => h
    | cons t ts => simp [packN] at hp
  | succ n ihn =>
    intro ts ls L h ls' L' hp
    cases ts with
    | nil => simp only [packN, Option.some.injEq, Prod.mk.injEq] at hp; obtain ⟨_, _, rfl⟩ := hp; exact fun _ _ h _ => h
    | cons t ts =>
      have plain : (∀ s, t ≠ .st s) → ∀ o b, get L'.objs o = some b → live b = true → get L.objs o = some b := by
        intro hn
        cases ls with
        | nil => cases t <;> first | (exact absurd rfl (hn _)) | (simp [packN] at hp; done)
        | cons l ls =>
          have hp' : (match toTV t l L with
            | some (v, L') => match castTo t v with
              | some x => match packN n ts ls L' with
                | some (hs, ls', L'') => some (((x, hs) : Fs G.S (t :: ts)), ls', L'')
                | none => none
              | none => none
            | none => none) = some (h, ls', L') := by
            rw [← hp]
            cases t with
            | st s => exact absurd rfl (hn s)
            | int k => rfl
            | bool => rfl
            | str => rfl
            | sl e t => rfl
            | po t => rfl
          split at hp'
          · rename_i v L1 hv
            split at hp'
            · split at hp'
              · rename_i hs' ls1 L2 hr
                simp only [Option.some.injEq, Prod.mk.injEq] at hp'
                obtain ⟨_, _, rfl⟩ := hp'
                exact fun o b hg hl => toTV_live hv o b (ihn _ _ _ _ _ _ hr o b hg hl) hl
              · cases hp'
            · cases hp'
          · cases hp'
      cases t with
      | st s =>
        simp only [packN] at hp
        split at hp
        · rename_i h1 ls1 L1 hp1
          split at hp
          · rename_i h2 ls2 L2 hp2
            simp only [Option.some.injEq, Prod.mk.injEq] at hp
            obtain ⟨_, _, rfl⟩ := hp
            exact fun o b hg hl => ihn _ _ _ _ _ _ hp1 o b (ihn _ _ _ _ _ _ hp2 o b hg hl) hl
          · cases hp
        · cases hp
      | int k => exact plain (fun s e => by cases e)
      | bool => exact plain (fun s e => by cases e)
      | str => exact plain (fun s e => by cases e)
      | sl e t => exact plain (fun s e => by cases e)
      | po t => exact plain (fun s e => by cases e)
theorem svTV_live {t : Ty} {s : SV G} {L L' : St G} {v : TV G} (h : svTV t s L = some (v, L')) (o : Nat) (b : Ob G) (hg : get L'.objs o = some b) (hl : live b = true) : get L.objs o = some b := by
  cases t with
  | st k =>
    cases s with
    | one l => simp [svTV] at h
    | agg l =>
      simp only [svTV] at h
      split at h
      · rename_i h1 L1 hp
        injection h with h
        injection h with h1' h2'
        subst h2'
        exact packN_live _ _ _ _ _ _ _ hp o b hg hl
      · cases h
  | int k => cases s with | one l => exact toTV_live (by simpa only [svTV] using h) o b hg hl | agg ls => simp [svTV] at h
  | bool => cases s with | one l => exact toTV_live (by simpa only [svTV] using h) o b hg hl | agg ls => simp [svTV] at h
  | str => cases s with | one l => exact toTV_live (by simpa only [svTV] using h) o b hg hl | agg ls => simp [svTV] at h
  | sl e t => cases s with | one l => exact toTV_live (by simpa only [svTV] using h) o b hg hl | agg ls => simp [svTV] at h
  | po t => cases s with | one l => exact toTV_live (by simpa only [svTV] using h) o b hg hl | agg ls => simp [svTV] at h

theorem Ext.renLt {ren : List (Nat × Nat)} (h : RenLt ren nx) (hn : nx ≤ nx') : RenLt ren nx' := fun j o hj => Nat.lt_of_lt_of_le (h j o hj) hn

theorem mNil_ok {p : PLeaf} {b : Ob G} {j : Nat} {m m' : MS G} (M : Mem W w0 Z pl m.L.objs m.L.nx w) (hr : RenLt m.ren m.L.nx) {u : Value} (hp : (p = .arr j ∧ u = .slice none 0 0) ∨ (p = .warr j ∧ ∃ A c, u = .slice A 0 c))
    (hb : ObOK Z w (fun _ => .slice none 0 0) (m.L.nx + 1) m.L.nx b) (hT : ∀ f : Unit, TrRep w (fun _ => .slice none 0 0) (m.L.nx + 1) [] m.L.nx b)
    (h : (match bindO m.ren j m.L.nx with | some r => some (⟨⟨m.L.tmps, (m.L.nx, b) :: m.L.objs, m.L.nx + 1⟩, r, m.out⟩ : MS G) | none => none) = some m') (hbc : ∀ ro ls, b ≠ .cells ro ls := by intro _ _ h; cases h) :
    MOK W w0 w Z pl m m' (fun Z' pl' ren seg => PL Z' w pl' ren p seg u) := by
  split at h
  · rename_i r hb1
    injection h with h
    subst h
    obtain ⟨⟨tm, ob, nx⟩, ren, out⟩ := m
    obtain ⟨a1, a2, a3⟩ := bindO_ok hb1
    let pl' := upd pl nx (.slice none 0 0)
    have E : Ext Z w pl nx Z w pl' (nx + 1) := (Ext.refl Z w pl nx).upd rfl _
    have K : Mem W w0 Z pl' ob (nx + 1) w := Mem.keep M E (fun o b k hg hl hk => ⟨rfl, M.zfar o b k hg hl hk⟩) M.zlt (fun _ _ h => .inl h) (Fr.refl _ _ _) (M.tr.elim fun f T => ⟨f, T, fun o k hk => ⟨rfl, T.zfar o k hk⟩⟩)
    have hpl : pl' nx = .slice none 0 0 := upd_same pl nx _
    have hOb : ObOK Z w pl' (nx + 1) nx b := by
      cases b with
      | cells ro ls => exact absurd rfl (hbc ro ls)
      | arr e t x => obtain ⟨vs, h1, h2⟩ := hb; exact ⟨vs, by rw [hpl]; exact h1, h2⟩
      | frz e t x => show RepC _ _ _ _ _ _; rw [hpl]; exact hb
      | dead => trivial
      | tr e t x => obtain ⟨vs, h1⟩ := hb; exact ⟨vs, by rw [hpl]; exact h1⟩
      | fo e t x i off o2 => obtain ⟨vs, h1⟩ := hb; exact ⟨vs, by rw [hpl]; exact h1⟩
    have hTr : ∃ f, TrOK W w0.heap.size Z pl' ((nx, b) :: ob) (nx + 1) w f := by
      obtain ⟨f, T⟩ := K.tr
      have T1 := (T.kill nx).set nx [] (fun b hb => by rw [get_same] at hb; cases hb; trivial) List.nodup_nil (fun k hk => by cases hk)
      refine ⟨_, (T1.put nx b ?_ (fun _ k hk => by rw [hpl] at hk; cases hk)).congr (fun n => by simp only [get_cons]; split <;> rfl)⟩
      show TrRep w pl' (nx + 1) (if nx = nx then [] else f nx) nx b
      rw [if_pos rfl]
      have := hT ()
      cases b with
      | tr e t x => obtain ⟨vs, h1, h2⟩ := this; exact ⟨vs, by rw [hpl]; exact h1, h2⟩
      | fo e t x i off o2 => obtain ⟨vs, h1, h2, _, _, h5, _⟩ := this; have := h1.1; exfalso; rcases h1.2 with ⟨_, h⟩ | ⟨_, _, _, h, _⟩ <;> first | omega | cases h
      | _ => trivial
    have K2 : Mem W w0 Z pl' ((nx, b) :: ob) (nx + 1) w := K.add nx b (Nat.lt_succ_self _) hOb (fun _ k hk => by rw [hpl] at hk; cases hk) hTr
    refine ⟨⟨Z, pl', [], ⟨E, K2, rfl⟩, rfl, a1, fun n x hn => ?_, fun f pl2 nx2 hf rest => ?_⟩, fun o ro ls hg => ?_, fun o b' hg hl => ?_⟩
    · rcases a3 n x hn with h | h
      · exact Nat.lt_succ_of_lt (hr n x h)
      · rw [h]; exact Nat.lt_succ_self _
    · rcases hp with ⟨rfl, hu1⟩ | ⟨rfl, A, c, hu1⟩
      · exact ⟨.aref (f j), rfl, ⟨(hf j nx a2).1, by rw [(hf j nx a2).2, hpl]; exact hu1⟩, by rw [hu1]; rfl⟩
      · exact ⟨.wref (f j), rfl, ⟨(hf j nx a2).1, .inr ⟨by rw [(hf j nx a2).2, hpl], A, c, hu1⟩⟩, by rw [hu1]; rfl⟩
    · show get ((nx, b) :: ob) o = _
      rw [get_far _ _ (Nat.ne_of_gt (M.lt o _ hg))]
      exact hg
    · by_cases ee : nx = o
      · exact .inr (Nat.le_of_eq ee)
      · exact .inl (by
          have hg : get ((nx, b) :: ob) o = some b' := hg
          rwa [get_far _ _ ee] at hg)
  · cases h

theorem mNew_ok {p : PLeaf} {objs : List POb} {j : Nat} {m m' : MS G} (M : Mem W w0 Z pl m.L.objs m.L.nx w) (hr : RenLt m.ren m.L.nx) {u : Value} (hp : (p = .arr j ∧ u = .slice none 0 0) ∨ (p = .warr j ∧ ∃ A c, u = .slice A 0 c))
    (h : mNew objs j m = some m') : MOK W w0 w Z pl m m' (fun Z' pl' ren seg => PL Z' w pl' ren p seg u) := by
  unfold mNew at h
  split at h
  · rename_i e t hn
    exact mNil_ok (b := .arr e t []) M hr hp ⟨[], World.ownsRow_nil w 0 e _, rfl⟩ (fun f => trivial) h
  · rename_i e t hn
    exact mNil_ok (b := .tr e t []) M hr hp ⟨[], World.ownsRow_nil w 0 e _⟩ (fun f => ⟨[], World.ownsRow_nil w 0 e _, .nil t⟩) h
  · rename_i e t hn
    exact mNil_ok (b := .arr e t []) M hr hp ⟨[], World.ownsRow_nil w 0 e _, rfl⟩ (fun f => trivial) h
  · cases h
theorem mLeaf_ok {objs : List POb} {p : PLeaf} {l : Leaf G} {m m' : MS G} (h : mLeaf objs p l m = some m') (M : Mem W w0 Z pl m.L.objs m.L.nx w) (hr : RenLt m.ren m.L.nx) {u : Value} (hu : LfOK Z w pl m.L.nx l u) :
    MOK W w0 w Z pl m m' (fun Z' pl' ren seg => PL Z' w pl' ren p seg u) := by
  cases p with
  | val t =>
    simp only [mLeaf] at h
    split at h
    · rename_i v L hv
      injection h with h
      subst h
      obtain ⟨Z', S, e, R⟩ := toTV_ok hv M hu
      refine ⟨⟨Z', pl, [v], S, rfl, fun _ _ h => h, Ext.renLt hr S.ext.hn, fun f pl2 nx2 _ rest => ⟨.val v.t v.x, rfl, R, hu.2⟩⟩, fun o ro ls hg => toTV_cells hv o ro ls hg, fun o b hg hl => .inl (toTV_live hv o b hg hl)⟩
    · cases h
  | arr j =>
    cases l with
    | aref o =>
      simp only [mLeaf] at h
      split at h
      · rename_i r hb
        injection h with h
        subst h
        obtain ⟨a1, a2, a3⟩ := bindO_ok hb
        refine ⟨⟨Z, pl, [], .refl M, rfl, a1, fun n x hn => ?_, fun f pl2 nx2 hf rest => ⟨.aref (f j), rfl, ⟨(hf j o a2).1, ?_⟩, hu.2⟩⟩, fun _ _ _ h => h, fun _ _ h _ => .inl h⟩
        · rcases a3 n x hn with h | h
          · exact hr n x h
          · rw [h]; exact hu.1.1
        · rw [(hf j o a2).2]; exact hu.1.2
      · cases h
    | nils =>
      simp only [mLeaf] at h
      exact mNew_ok M hr (.inl ⟨rfl, hu.1⟩) h
    | _ => simp [mLeaf] at h
  | ptr j off =>
    cases l with
    | ptr o off' =>
      simp only [mLeaf] at h
      split at h
      · rename_i hoff
        split at h
        · rename_i r hb
          injection h with h
          subst h
          have := Nat.eq_of_beq_eq_true hoff
          subst this
          obtain ⟨a1, a2, a3⟩ := bindO_ok hb
          obtain ⟨h1, b, h2, h3⟩ := hu.1
          refine ⟨⟨Z, pl, [], .refl M, rfl, a1, fun n x hn => ?_, fun f pl2 nx2 hf rest => ⟨.ptr (f j) off, rfl, ⟨(hf j o a2).1, b, (hf j o a2).2.trans h2, h3⟩, hu.2⟩⟩, fun _ _ _ h => h, fun _ _ h _ => .inl h⟩
          rcases a3 n x hn with h | h
          · exact hr n x h
          · rw [h]; exact h1
        · cases h
      · cases h
    | _ => simp [mLeaf] at h
  | nilp =>
    cases l with
    | nilp => simp only [mLeaf, Option.some.injEq] at h; subst h; exact ⟨⟨Z, pl, [], .refl M, rfl, fun _ _ h => h, hr, fun f pl2 nx2 hf rest => ⟨.nilp, rfl, hu⟩⟩, fun _ _ _ h => h, fun _ _ h _ => .inl h⟩
    | _ => simp [mLeaf] at h
  | nilf =>
    cases l with
    | nilf => simp only [mLeaf, Option.some.injEq] at h; subst h; exact ⟨⟨Z, pl, [], .refl M, rfl, fun _ _ h => h, hr, fun f pl2 nx2 hf rest => ⟨.nilf, rfl, hu⟩⟩, fun _ _ _ h => h, fun _ _ h _ => .inl h⟩
    | _ => simp [mLeaf] at h
  | fn f js =>
    cases l with
    | fn f' os =>
      simp only [mLeaf] at h
      split at h
      · rename_i hff
        split at h
        · rename_i r hb
          injection h with h
          subst h
          have := Nat.eq_of_beq_eq_true hff
          subst this
          obtain ⟨a1, a2, a3⟩ := bindL_ok hb
          obtain ⟨h1, h2⟩ := hu.1
          refine ⟨⟨Z, pl, [], .refl M, rfl, a1, fun n x hn => ?_, fun g pl2 nx2 hf rest => ⟨.fn f (js.map g), rfl, ⟨fun i hi => ?_, ?_⟩, hu.2⟩⟩, fun _ _ _ h => h, fun _ _ h _ => .inl h⟩
          · rcases a2 n x hn with h | h
            · exact hr n x h
            · exact (h1 x h).1
          · obtain ⟨c1, o, c2, c3⟩ := (a3 g pl pl2 nx2 hf).2 i hi
            obtain ⟨_, b, hb⟩ := h1 o c2
            exact ⟨c1, b, c3.trans hb⟩
          · rw [(a3 g pl pl2 nx2 hf).1]; exact h2
        · cases h
      · cases h
    | _ => simp [mLeaf] at h
  | warr j =>
    have bind : ∀ o, o < m.L.nx → Weak (pl o) u → (match bindO m.ren j o with | some r => some (⟨m.L, r, m.out⟩ : MS G) | none => none) = some m' → MOK W w0 w Z pl m m' (fun Z' pl' ren seg => PL Z' w pl' ren (.warr j) seg u) := by
      intro o ho hw h
      split at h
      · rename_i r hb
        injection h with h
        subst h
        obtain ⟨a1, a2, a3⟩ := bindO_ok hb
        refine ⟨⟨Z, pl, [], .refl M, rfl, a1, fun n x hn => ?_, fun f pl2 nx2 hf rest => ⟨.wref (f j), rfl, ⟨(hf j o a2).1, ?_⟩, hu.2⟩⟩, fun _ _ _ h => h, fun _ _ h _ => .inl h⟩
        · rcases a3 n x hn with h | h
          · exact hr n x h
          · rw [h]; exact ho
        · rw [(hf j o a2).2]; exact hw
      · cases h
    cases l with
    | aref o => simp only [mLeaf] at h; exact bind o hu.1.1 (.inl hu.1.2) h
    | wref o => simp only [mLeaf] at h; exact bind o hu.1.1 hu.1.2 h
    | nils => simp only [mLeaf] at h; exact mNew_ok M hr (.inr ⟨rfl, none, 0, hu.1⟩) h
    | wnil => simp only [mLeaf] at h; exact mNew_ok M hr (.inr ⟨rfl, hu.1⟩) h
    | _ => simp [mLeaf] at h
  | any =>
    simp only [mLeaf, Option.some.injEq] at h
    subst h
    exact ⟨⟨Z, pl, [], .refl M, rfl, fun _ _ h => h, hr, fun f pl2 nx2 hf rest => ⟨.junk, rfl, trivial, hu.2⟩⟩, fun _ _ _ h => h, fun _ _ h _ => .inl h⟩

theorem PL.mono {ren ren' : List (Nat × Nat)} {p : PLeaf} {seg : List (TV G)} {u : Value} (h : PL Z w pl ren p seg u) (hr : RenLe ren ren') (hl : RenLt ren nx) (E : Ext Z w pl nx Z' w' pl' nx') : PL Z' w' pl' ren' p seg u :=
  fun f pl2 nx2 hf rest => by
    obtain ⟨l', e, hl'⟩ := h f pl2 nx2 (hf.back hr hl E.hp) rest
    exact ⟨l', e, hl'.mono (Ext.here E.hZ E.hw)⟩
theorem PLs.mono {ren ren' : List (Nat × Nat)} {p : List PLeaf} {seg : List (TV G)} {u : List Value} (h : PLs Z w pl ren p seg u) (hr : RenLe ren ren') (hl : RenLt ren nx) (E : Ext Z w pl nx Z' w' pl' nx') : PLs Z' w' pl' ren' p seg u :=
  fun f pl2 nx2 hf rest => by
    obtain ⟨l', e, hl', hn⟩ := h f pl2 nx2 (hf.back hr hl E.hp) rest
    exact ⟨l', e, hl'.mono (Ext.here E.hZ E.hw), hn⟩
theorem PSVs.mono {ren ren' : List (Nat × Nat)} {p : PSV} {seg : List (TV G)} {u : Value} (h : PSVs Z w pl ren p seg u) (hr : RenLe ren ren') (hl : RenLt ren nx) (E : Ext Z w pl nx Z' w' pl' nx') : PSVs Z' w' pl' ren' p seg u :=
  fun f pl2 nx2 hf rest => by
    obtain ⟨l', e, hl'⟩ := h f pl2 nx2 (hf.back hr hl E.hp) rest
    exact ⟨l', e, hl'.mono (Ext.here E.hZ E.hw)⟩

theorem mLeaves_ok {objs : List POb} : ∀ {ps : List PLeaf} {ls : List (Leaf G)} {m m' : MS G} {Z : Nat → Nat → Prop} {pl : Nat → Value}, mLeaves objs ps ls m = some m' → Mem W w0 Z pl m.L.objs m.L.nx w → RenLt m.ren m.L.nx →
    ∀ {us : List Value}, LsOK Z w pl m.L.nx ls us → MOK W w0 w Z pl m m' (fun Z' pl' ren seg => PLs Z' w pl' ren ps seg us ∧ ps.length = ls.length)
  | [], [], m, m', Z, pl, h, M, hr, us, hu => by
    simp only [mLeaves, Option.some.injEq] at h
    subst h
    exact ⟨⟨Z, pl, [], .refl M, rfl, fun _ _ h => h, hr, fun f pl2 nx2 hf rest => ⟨[], rfl, hu, rfl⟩, rfl⟩, fun _ _ _ h => h, fun _ _ h _ => .inl h⟩
  | p :: ps, l :: ls, m, m', Z, pl, h, M, hr, us, hu => by
    simp only [mLeaves] at h
    split at h
    · rename_i m1 h1
      obtain ⟨u, us', rfl, hu1, hu2⟩ := hu
      obtain ⟨⟨Z1, pl1, seg1, S1, o1, r1, l1, q1⟩, c1, d1⟩ := mLeaf_ok h1 M hr hu1
      obtain ⟨⟨Z2, pl2, seg2, S2, o2, r2, l2, q2, hlen⟩, c2, d2⟩ := mLeaves_ok h S1.mem l1 (hu2.mono S1.ext)
      refine ⟨⟨Z2, pl2, seg1 ++ seg2, S1.trans S2, by rw [o2, o1, List.reverse_append, List.append_assoc], fun j o hj => r2 j o (r1 j o hj), l2, fun f pl3 nx3 hf rest => ?_, by simp [hlen]⟩, fun o ro ls hg => c2 o ro ls (c1 o ro ls hg), fun o b hg hl => (d2 o b hg hl).elim (fun h => d1 o b h hl) (fun h => .inr (Nat.le_trans S1.ext.hn h))⟩
      have q1' := q1.mono r2 l1 S2.ext
      obtain ⟨l', e1, k1⟩ := q1' f pl3 nx3 hf (seg2 ++ rest)
      obtain ⟨ls', e2, k2, k3⟩ := q2 f pl3 nx3 hf rest
      refine ⟨l' :: ls', ?_, ⟨u, us', rfl, k1, k2⟩, by simp [k3]⟩
      simp only [iLeaves, List.append_assoc, e1, e2]
    · cases h
  | [], _ :: _, _, _, _, _, h, _, _, _, _ => by simp [mLeaves] at h
  | _ :: _, [], _, _, _, _, h, _, _, _, _ => by simp [mLeaves] at h

theorem mSV_ok (hs : SigOK G) {objs : List POb} {p : PSV} {d : DV G} {m m' : MS G} (h : mSV objs p d m = some m') (M : Mem W w0 Z pl m.L.objs m.L.nx w) (hr : RenLt m.ren m.L.nx) {u : Value} (hu : DVOK Z w pl m.L.nx d u) :
    MOK W w0 w Z pl m m' (fun Z' pl' ren seg => PSVs Z' w pl' ren p seg u) := by
  cases d with
  | tup l => cases p <;> simp [mSV] at h
  | und => cases p <;> simp [mSV] at h
  | junk => cases p <;> simp [mSV] at h
  | sv s =>
    cases p with
    | one p =>
      cases s with
      | agg ls => simp [mSV] at h
      | one l =>
        simp only [mSV] at h
        obtain ⟨⟨Z1, pl1, seg1, S1, o1, r1, l1, q1⟩, c1, d1⟩ := mLeaf_ok h M hr hu
        refine ⟨⟨Z1, pl1, seg1, S1, o1, r1, l1, fun f pl2 nx2 hf rest => ?_⟩, c1, d1⟩
        obtain ⟨l', e, k⟩ := q1 f pl2 nx2 hf rest
        exact ⟨.sv (.one l'), by simp only [iSV, e], k⟩
    | agg ps =>
      cases s with
      | one l => simp [mSV] at h
      | agg ls =>
        simp only [mSV] at h
        obtain ⟨cs, rfl, hu⟩ := hu
        obtain ⟨⟨Z1, pl1, seg1, S1, o1, r1, l1, q1, _⟩, c1, d1⟩ := mLeaves_ok h M hr hu
        refine ⟨⟨Z1, pl1, seg1, S1, o1, r1, l1, fun f pl2 nx2 hf rest => ?_⟩, c1, d1⟩
        obtain ⟨l', e, k, _⟩ := q1 f pl2 nx2 hf rest
        exact ⟨.sv (.agg l'), by simp only [iSV, e], cs, rfl, k⟩
    | st n =>
      simp only [mSV] at h
      split at h
      · rename_i x L hx
        injection h with h
        subst h
        obtain ⟨Z', S, e, R⟩ := svTV_ok hs hx M hu
        refine ⟨⟨Z', pl, [x], S, rfl, fun _ _ h => h, Ext.renLt hr S.ext.hn, fun f pl2 nx2 hf rest => ?_⟩, fun o ro ls hg => svTV_cells hx o ro ls hg, fun o b hg hl => .inl (svTV_live hx o b hg hl)⟩
        cases hv : svOf x with
        | some s' =>
          obtain ⟨u', k1, k2, k3, _⟩ := svOf_ok (pl := pl2) (nx := nx2) hv R
          refine ⟨.sv s', by simp only [iSV, List.singleton_append, hv], ?_⟩
          have hua : u = .agg u.cells := by
            cases s with
            | one l => simp [svTV] at hx
            | agg ls => obtain ⟨cs, rfl, _⟩ := hu; rfl
          have : u' = u := by rw [k3 n e, hua]; simp [Value.cells]
          rw [← this]
          exact k1
        | none => exact ⟨.junk, by simp only [iSV, List.singleton_append, hv], trivial⟩
      · cases h

theorem mTmps_ok (hs : SigOK G) {objs : List POb} : ∀ {ps : List (Nat × PSV)} {m m' : MS G} {Z : Nat → Nat → Prop} {pl : Nat → Value}, mTmps objs ps m = some m' → Mem W w0 Z pl m.L.objs m.L.nx w → RenLt m.ren m.L.nx →
    ∀ {val : Nat → Value}, (∀ t d, get m.L.tmps t = some d → DVOK Z w pl m.L.nx d (val t)) → MOK W w0 w Z pl m m' (fun Z' pl' ren seg => ∀ f pl2 nx2, Fit pl' ren f pl2 nx2 → ∀ rest, ∃ tm', iTmps f ps (seg ++ rest) = (tm', rest) ∧ (∀ t d, get tm' t = some d → DVOK Z' w pl2 nx2 d (val t)) ∧ tm'.map (·.1) = ps.map (·.1))
  | [], m, m', Z, pl, h, M, hr, val, hu => by
    simp only [mTmps, Option.some.injEq] at h
    subst h
    exact ⟨⟨Z, pl, [], .refl M, rfl, fun _ _ h => h, hr, fun f pl2 nx2 hf rest => ⟨[], rfl, ⟨fun t d hg => by simp [get] at hg, rfl⟩⟩⟩, fun _ _ _ h => h, fun _ _ h _ => .inl h⟩
  | (t, p) :: ps, m, m', Z, pl, h, M, hr, val, hu => by
    simp only [mTmps] at h
    split at h
    · rename_i d hd
      split at h
      · rename_i m1 h1
        obtain ⟨⟨Z1, pl1, seg1, S1, o1, r1, l1, q1⟩, c1, d1⟩ := mSV_ok hs h1 M hr (hu t d hd)
        obtain ⟨⟨Z2, pl2, seg2, S2, o2, r2, l2, q2⟩, c2, d2⟩ := mTmps_ok hs h S1.mem l1 (val := val) (fun t d hg => (hu t d (by rw [← S1.tm]; exact hg)).mono S1.ext)
        refine ⟨⟨Z2, pl2, seg1 ++ seg2, S1.trans S2, by rw [o2, o1, List.reverse_append, List.append_assoc], fun j o hj => r2 j o (r1 j o hj), l2, fun f pl3 nx3 hf rest => ?_⟩, fun o ro ls hg => c2 o ro ls (c1 o ro ls hg), fun o b hg hl => (d2 o b hg hl).elim (fun h => d1 o b h hl) (fun h => .inr (Nat.le_trans S1.ext.hn h))⟩
        have q1' := q1.mono r2 l1 S2.ext
        obtain ⟨d', e1, k1⟩ := q1' f pl3 nx3 hf (seg2 ++ rest)
        obtain ⟨ds', e2, k2, k3⟩ := q2 f pl3 nx3 hf rest
        refine ⟨(t, d') :: ds', by simp only [iTmps, List.append_assoc, e1, e2], fun t' d hg => ?_, by simp [k3]⟩
        rw [get_cons] at hg
        split at hg
        · rename_i e
          injection hg with hg
          subst hg e
          exact k1
        · exact k2 t' d hg
      · cases h
    · cases h

/-- The objects of a pattern, put in. -/
def OsOK (W : Rights) (base : Nat) (Z : Nat → Nat → Prop) (w : World) (pl : Nat → Value) (ren : List (Nat × Nat)) (f : Nat → Nat) (pl2 : Nat → Value) (nx2 : Nat) (oF : List (Nat × Ob G)) : Nat → List POb → List (Nat × Ob G) → Prop
  | _, [], os => os = []
  | j, p :: ps, os => ∃ ob os', os = (f j, ob) :: os' ∧ ObOK Z w pl2 nx2 (f j) ob ∧ live ob = true ∧
      (match p with | .cells ro pl' => ∃ ls : List (Leaf G), ob = .cells ro ls ∧ ls.length = pl'.length | .arr e t => ∃ x, ob = .arr e t x | .ow _ false e t => ∃ x, ob = .arr e t x | .ow _ true e t => ∃ x, ob = .tr e t x) ∧
      (∃ o, get ren j = some o ∧ (∀ k, bk (pl o) = some k → Own base W ob k) ∧ ∀ e t x, ob = .tr e t x → ∀ b', get oF o = some b' → live b' = true → b' = ob) ∧ OsOK W base Z w pl ren f pl2 nx2 oF (j + 1) ps os'
theorem OsOK.mono {base : Nat} {ren ren' : List (Nat × Nat)} {f : Nat → Nat} {pl2 : Nat → Value} {nx2 : Nat} (hr : RenLe ren ren') (hl : RenLt ren nx) (E : Ext Z w pl nx Z' w pl' nx') :
    ∀ {oF : List (Nat × Ob G)} {j : Nat} {ps : List POb} {os : List (Nat × Ob G)}, OsOK W base Z w pl ren f pl2 nx2 oF j ps os → OsOK W base Z' w pl' ren' f pl2 nx2 oF j ps os
  | _, _, [], _, h => h
  | _, j, p :: ps, _, ⟨ob, os', e, h1, h2, h3, ⟨o, h4, h5, h5'⟩, h6⟩ => by
    refine ⟨ob, os', e, ?_, h2, h3, ⟨o, hr j o h4, fun k hk => h5 k (by rw [← E.hp o (hl j o h4)]; exact hk), h5'⟩, OsOK.mono hr hl E h6⟩
    have E2 : Ext Z w pl2 nx2 Z' w pl2 nx2 := Ext.here E.hZ E.hw
    cases ob with
    | cells ro ls => obtain ⟨b, T, cs, a, b', c⟩ := h1; exact ⟨b, T, cs, a, b', c.mono E2⟩
    | arr e t xs => obtain ⟨vs, a, b⟩ := h1; exact ⟨vs, a, b.mono E.hZ E.hw⟩
    | frz e t xs => exact RepC.mono E.hZ E.hw h1
    | dead => trivial
    | tr e t xs => exact h1
    | fo e t xs i off o2 => exact h1

theorem mObs_ok {objs : List POb} : ∀ {ps : List POb} {j : Nat} {m m' : MS G} {Z : Nat → Nat → Prop} {pl : Nat → Value}, mObs objs j ps m = some m' → Mem W w0 Z pl m.L.objs m.L.nx w → RenLt m.ren m.L.nx →
    MOK W w0 w Z pl m m' (fun Z' pl' ren seg => ∀ f pl2 nx2, Fit pl' ren f pl2 nx2 → ∀ rest, ∃ os, iObs f j ps (seg ++ rest) = (os, rest) ∧ OsOK W w0.heap.size Z' w pl' ren f pl2 nx2 m'.L.objs j ps os)
  | [], j, m, m', Z, pl, h, M, hr => by
    simp only [mObs, Option.some.injEq] at h
    subst h
    exact ⟨⟨Z, pl, [], .refl M, rfl, fun _ _ h => h, hr, fun f pl2 nx2 hf rest => ⟨[], rfl, rfl⟩⟩, fun _ _ _ h => h, fun _ _ h _ => .inl h⟩
  | p :: ps, j, m, m', Z, pl, h, M, hr => by
    simp only [mObs] at h
    split at h
    · rename_i o ho
      split at h
      · rename_i ro pls ro' ls hg
        split at h
        · rename_i hro
          split at h
          · rename_i m1 h1
            have hsub : ∀ i, i ∈ ro' → i ∈ ro := by
              clear h h1 hg
              induction ro' with
              | nil => exact fun i hi => absurd hi List.not_mem_nil
              | cons a ro' ih =>
                simp only [subN] at hro
                split at hro
                · rename_i ha
                  intro i hi
                  rcases List.mem_cons.1 hi with hi | hi
                  · rw [hi]; exact (hasN_iff ro a).1 ha
                  · exact ih hro i hi
                · cases hro
            obtain ⟨b, T, cs, k1, k2, k3⟩ := M.ob o _ hg
            obtain ⟨⟨Z1, pl1, seg1, S1, o1, r1, l1, q1, hlen⟩, c1, d1⟩ := mLeaves_ok h1 M hr k3
            obtain ⟨⟨Z2, pl2, seg2, S2, o2, r2, l2, q2⟩, c2, d2⟩ := mObs_ok h S1.mem l1
            refine ⟨⟨Z2, pl2, seg1 ++ seg2, S1.trans S2, by rw [o2, o1, List.reverse_append, List.append_assoc], fun j o hj => r2 j o (r1 j o hj), l2, fun f pl3 nx3 hf rest => ?_⟩, fun o ro ls hg => c2 o ro ls (c1 o ro ls hg), fun o b hg hl => (d2 o b hg hl).elim (fun h => d1 o b h hl) (fun h => .inr (Nat.le_trans S1.ext.hn h))⟩
            have q1' := q1.mono r2 l1 S2.ext
            obtain ⟨ls', e1, m1', m2'⟩ := q1' f pl3 nx3 hf (seg2 ++ rest)
            obtain ⟨os', e2, m3⟩ := q2 f pl3 nx3 hf rest
            have hj : get _ j = some o := r2 j o (r1 j o ho)
            have hpo : pl2 o = pl o := (S1.trans S2).ext.hp o (M.lt o _ hg)
            refine ⟨(f j, .cells ro ls') :: os', by simp only [iObs, List.append_assoc, e1, e2], .cells ro ls', os', rfl, ⟨b, T, cs, by rw [(hf j o hj).2, hpo]; exact k1, k2, m1'⟩, rfl, ⟨ls', rfl, m2'⟩, ⟨o, hj, fun k hk => ?_, fun _ _ _ e => by cases e⟩, m3⟩
            have := M.own o _ k hg rfl (by rw [← hpo]; exact hk)
            rcases this with h | h
            · exact .inl h
            · exact .inr (fun i hi hn => h i (by rw [m2'] at hi; rw [← hlen]; exact hi) (by rw [m2'] at hn; rw [← hlen]; exact hn.imp id (fun hn hm => hn (hsub i hm))))
          · cases h
        · cases h
      · rename_i e t e' t' x hg
        split at h
        · rename_i hb
          have he := Ty.eq_of_beq hb
          injection he with he1 he2
          subst he1 he2
          obtain ⟨⟨Z2, pl2, seg2, S2, o2, r2, l2, q2⟩, c2, d2⟩ := mObs_ok (m := ⟨m.L, m.ren, ⟨.sl e t, x⟩ :: m.out⟩) h M hr
          refine ⟨⟨Z2, pl2, ⟨.sl e t, x⟩ :: seg2, S2, by rw [o2, List.reverse_cons, List.append_assoc]; rfl, r2, l2, fun f pl3 nx3 hf rest => ?_⟩, c2, d2⟩
          obtain ⟨os', e2, m3⟩ := q2 f pl3 nx3 hf rest
          have hj : get _ j = some o := r2 j o ho
          have hpo : pl2 o = pl o := S2.ext.hp o (M.lt o _ hg)
          obtain ⟨vs, k1, k2⟩ := M.ob o _ hg
          refine ⟨(f j, .arr e t x) :: os', by simp only [iObs, List.cons_append, e2], .arr e t x, os', rfl, ⟨vs, by rw [(hf j o hj).2, hpo]; exact k1, k2.mono S2.ext.hZ S2.ext.hw⟩, rfl, ⟨x, rfl⟩, ⟨o, hj, fun k hk => ?_, fun _ _ _ e => by cases e⟩, m3⟩
          exact M.own o _ k hg rfl (by rw [← hpo]; exact hk)
        · cases h
      · rename_i kp e t e' t' x hg
        split at h
        · rename_i hb
          have he := Ty.eq_of_beq hb
          injection he with he1 he2
          subst he1 he2
          obtain ⟨⟨Z2, pl2, seg2, S2, o2, r2, l2, q2⟩, c2, d2⟩ := mObs_ok (m := ⟨m.L, m.ren, ⟨.sl e t, x⟩ :: m.out⟩) h M hr
          refine ⟨⟨Z2, pl2, ⟨.sl e t, x⟩ :: seg2, S2, by rw [o2, List.reverse_cons, List.append_assoc]; rfl, r2, l2, fun f pl3 nx3 hf rest => ?_⟩, c2, d2⟩
          obtain ⟨os', e2, m3⟩ := q2 f pl3 nx3 hf rest
          have hj : get _ j = some o := r2 j o ho
          have hpo : pl2 o = pl o := S2.ext.hp o (M.lt o _ hg)
          obtain ⟨vs, k1, k2⟩ := M.ob o _ hg
          refine ⟨(f j, .arr e t x) :: os', by simp only [iObs, List.cons_append, e2], .arr e t x, os', rfl, ⟨vs, by rw [(hf j o hj).2, hpo]; exact k1, k2.mono S2.ext.hZ S2.ext.hw⟩, rfl, ⟨x, rfl⟩, ⟨o, hj, fun k hk => ?_, fun _ _ _ e => by cases e⟩, m3⟩
          exact M.own o _ k hg rfl (by rw [← hpo]; exact hk)
        · cases h
      · rename_i kp e t e' t' x hg
        split at h
        · rename_i hb
          have he := Ty.eq_of_beq hb
          injection he with he1 he2
          subst he1 he2
          obtain ⟨⟨Z2, pl2, seg2, S2, o2, r2, l2, q2⟩, c2, d2⟩ := mObs_ok (m := ⟨m.L, m.ren, ⟨.sl e t, x⟩ :: m.out⟩) h M hr
          refine ⟨⟨Z2, pl2, ⟨.sl e t, x⟩ :: seg2, S2, by rw [o2, List.reverse_cons, List.append_assoc]; rfl, r2, l2, fun f pl3 nx3 hf rest => ?_⟩, c2, d2⟩
          obtain ⟨os', e2, m3⟩ := q2 f pl3 nx3 hf rest
          have hj : get _ j = some o := r2 j o ho
          have hlo : o < m.L.nx := M.lt o _ hg
          have hpo : pl2 o = pl o := S2.ext.hp o hlo
          obtain ⟨vs, k1⟩ := M.ob o _ hg
          refine ⟨(f j, .tr e t x) :: os', by simp only [iObs, List.cons_append, e2], .tr e t x, os', rfl, ⟨vs, by rw [(hf j o hj).2, hpo]; exact k1⟩, rfl, ⟨x, rfl⟩, ⟨o, hj, fun k hk => ?_, fun _ _ _ _ b' hb' hl' => ?_⟩, m3⟩
          · exact M.own o _ k hg rfl (by rw [← hpo]; exact hk)
          · rcases d2 o b' hb' hl' with h | h
            · have h : get m.L.objs o = some b' := h
              rw [hg] at h; injection h with h; exact h.symm
            · have h : m.L.nx ≤ o := h
              omega
        · cases h
      · cases h
    · cases h
end Go.Proofs.YtmcbhnbemhfifaaDoor.RX
