/- Rows taken out of the state, to lie behind a row of ours; what was taken out of such a row put back. Condition: SigOK. -/
import Derived.Test.YtmcbhnbemhfifaaDoorRxV
namespace Go.Proofs.YtmcbhnbemhfifaaDoor.RX
open Go
set_option autoImplicit false
variable {G : Sig} {W : Rights} {w0 w w' : World} {Z Z' : Nat → Nat → Prop} {pl pl' : Nat → Value} {objs : List (Nat × Ob G)} {nx nx' : Nat} {f : Nat → List Nat}

/-- Values that lead to no memory own what they lead to. -/
theorem flat_own : ∀ (n : Nat) (ts : List Ty) (h : Fs G.S ts) (cs : List Value), flatN G n ts = true → RepF G Z w ts h cs → OwnF G w ts h cs [] := by
  intro n
  induction n with
  | zero => intro ts h cs hf; simp [flatN] at hf
  | succ n ihn =>
    intro ts h cs hf H
    cases ts with
    | nil => cases H; exact .nil
    | cons t ts =>
      cases H with
      | cons _ _ _ cs cs' hl h1 h2 =>
        have plain : OwnC G w t h.1 cs [] → flatN G n ts = true → OwnF G w (t :: ts) h (cs ++ cs') [] := fun a b => by
          have := OwnF.cons t ts h cs cs' [] [] hl a (ihn ts h.2 cs' b h2)
          simpa using this
        cases t with
        | st s =>
          simp only [flatN] at hf
          split at hf
          · rename_i hs
            cases h1 with
            | st _ _ _ h1 => exact plain (.st s _ cs [] (ihn _ _ _ hs h1)) hf
          · cases hf
        | int k => cases h1 with | int _ x => exact plain (.int k _) hf
        | bool => cases h1 with | bool b => exact plain (.bool _) hf
        | str => cases h1 with | str s => exact plain (.str _) hf
        | sl e t => simp [flatN] at hf
        | po t => simp [flatN] at hf
theorem flat_ownC {n : Nat} {t : Ty} (hf : flatN G n [t] = true) {x : G.D t} {cs : List Value} (h : RepC G Z w t x cs) (hl : cs.length = G.csz t) : OwnC G w t x cs [] := by
  have := flat_own (Z := Z) (w := w) n [t] (x, ()) (cs ++ []) hf (.cons t [] (x, ()) cs [] hl h .nil)
  generalize hq : ([] : List Nat) = q at this
  generalize hc : cs ++ [] = c at this
  cases this with
  | cons _ _ _ cs1 cs2 fp fp' hl1 h1 h2 =>
    cases h2
    rw [List.append_nil, List.append_nil] at hc
    rw [List.append_nil] at hq
    subst hc hq
    exact h1
theorem flat_row {n : Nat} {t : Ty} (hf : flatN G n [t] = true) : ∀ {xs : List (G.D t)} {vs : List Value}, RowC G Z w t xs vs → OwnR G w t xs vs []
  | [], _, h => by rw [show _ = _ from h]; exact .nil t
  | x :: xs, _, ⟨cs, vs', e, hl, h1, h2⟩ => by
    subst e
    have := OwnR.cons t x xs cs vs' [] [] hl (flat_ownC hf h1 hl) (flat_row hf h2)
    simpa using this

theorem flat_nilF : ∀ (n : Nat) (ts : List Ty) (h : Fs G.S ts) (cs : List Value) (fp : List Nat), flatN G n ts = true → OwnF G w ts h cs fp → fp = [] := by
  intro n
  induction n with
  | zero => intro ts h cs fp hf; simp [flatN] at hf
  | succ n ihn =>
    intro ts h cs fp hf H
    cases ts with
    | nil => cases H; rfl
    | cons t ts =>
      cases H with
      | cons _ _ _ cs cs' fp fp' hl h1 h2 =>
        have plain : fp = [] → flatN G n ts = true → fp ++ fp' = [] := fun a b => by rw [a, ihn ts h.2 cs' fp' b h2]; rfl
        cases t with
        | st s =>
          simp only [flatN] at hf
          split at hf
          · rename_i hs
            cases h1 with
            | st _ _ _ _ h1 => exact plain (ihn _ _ _ _ hs h1) hf
          · cases hf
        | int k => cases h1; exact plain rfl hf
        | bool => cases h1; exact plain rfl hf
        | str => cases h1; exact plain rfl hf
        | sl e t => simp [flatN] at hf
        | po t => simp [flatN] at hf
theorem flat_nilC {n : Nat} {t : Ty} (hf : flatN G n [t] = true) {x : G.D t} {cs : List Value} {fp : List Nat} (h : OwnC G w t x cs fp) (hl : cs.length = G.csz t) : fp = [] := by
  have := flat_nilF (w := w) n [t] (x, ()) (cs ++ []) (fp ++ []) hf (.cons t [] (x, ()) cs [] fp [] hl h .nil)
  simpa using this
/-- Rows of values that lead to no memory lead to none. -/
theorem flat_nil {n : Nat} {t : Ty} (hf : flatN G n [t] = true) : ∀ {xs : List (G.D t)} {vs : List Value} {fp : List Nat}, OwnR G w t xs vs fp → ∀ k, k ∈ fp → False := by
  intro xs
  induction xs with
  | nil => intro vs fp h k hk; cases h; cases hk
  | cons x xs ih =>
    intro vs fp h k hk
    cases h with
    | cons _ _ _ cs vs fp fp' hl h1 h2 =>
      rw [flat_nilC hf h1 hl] at hk
      exact ih h2 k hk
/-- Blocks that are ours, and that nothing else in the state leads to. -/
structure Det (W : Nat → Nat → Prop) (base : Nat) (Z : Nat → Nat → Prop) (pl : Nat → Value) (objs : List (Nat × Ob G)) (w : World) (f : Nat → List Nat) (D : List Nat) : Prop where
  nd : D.Nodup
  mem : ∀ k, k ∈ D → (∀ o', k ∉ f o') ∧ (∀ o' b, get objs o' = some b → live b = true → bk (pl o') = some k → False) ∧ (base ≤ k ∨ ∀ j, W k j) ∧ (∀ j, ¬ Z k j) ∧ k < w.heap.size
theorem Det.nil : Det W w0.heap.size Z pl objs w f [] := ⟨List.nodup_nil, fun k hk => by cases hk⟩
def gone (f : Nat → List Nat) (o : Nat) : Nat → List Nat := fun n => if n = o then [] else f n
theorem gone_mem {o n k : Nat} (h : k ∈ gone f o n) : k ∈ f n ∧ n ≠ o := by
  have h : k ∈ (if n = o then [] else f n) := h
  split at h
  · cases h
  · exact ⟨h, ‹_›⟩
/-- A row of ours taken out of the state. -/
theorem TrOK.take (M : Mem W w0 Z pl objs nx w) (T : TrOK W w0.heap.size Z pl objs nx w f) {D : List Nat} (hD : Det W w0.heap.size Z pl objs w f D) {o : Nat} {e : TypeId} {t : Ty} {xs : List (G.D t)}
    (hg : (get objs o = some (.arr e t xs) ∧ ∃ n, flatN G n [t] = true) ∨ get objs o = some (.tr e t xs)) :
    ∃ fq, OwnC G w (.sl e t) xs [pl o] fq ∧ (pl o).oneCell' = true ∧ TrOK W w0.heap.size Z pl ((o, .dead) :: objs) nx w (gone f o) ∧ Det W w0.heap.size Z pl ((o, .dead) :: objs) w (gone f o) (D ++ fq) ∧
      ∃ vs fp, w.ownsRow 0 e (G.csz t) (pl o) xs.length vs ∧ OwnR G w t xs vs fp ∧ ((bk (pl o) = none ∧ fp = [] ∧ fq = []) ∨ ∃ b, bk (pl o) = some b ∧ fq = b :: fp) := by
  obtain ⟨b0, hb0, hl0, hown0⟩ : ∃ b0, get objs o = some b0 ∧ live b0 = true ∧ ∀ k, Own w0.heap.size W b0 k → (w0.heap.size ≤ k ∨ ∀ i, W k i) := by
    rcases hg with ⟨hg, _⟩ | hg
    · exact ⟨_, hg, rfl, fun k h => h⟩
    · exact ⟨_, hg, rfl, fun k h => h⟩
  have hrow : ∃ vs fp, w.ownsRow 0 e (G.csz t) (pl o) xs.length vs ∧ OwnR G w t xs vs fp ∧ (∀ k, k ∈ fp → k ∈ f o) ∧ fp.Nodup := by
    rcases hg with ⟨hg, n, hf⟩ | hg
    · obtain ⟨vs, h1, h2⟩ := M.ob o _ hg
      exact ⟨vs, [], h1, flat_row hf h2, (fun k hk => by cases hk), List.nodup_nil⟩
    · obtain ⟨vs, h1, h2⟩ := T.rep o _ hg
      exact ⟨vs, f o, h1, h2, (fun k hk => hk), T.nd o⟩
  obtain ⟨vs, fp, h1, h2, h3, h4⟩ := hrow
  have hone : (pl o).oneCell' = true := by rcases h1.2 with ⟨e1, _⟩ | ⟨g, cap, cur, e1, _⟩ <;> rw [e1] <;> rfl
  have TK : TrOK W w0.heap.size Z pl ((o, .dead) :: objs) nx w (gone f o) :=
    (T.kill o).set o [] (fun b hb => by rw [get_same] at hb; cases hb; trivial) List.nodup_nil (fun k hk => by cases hk)
  have far : ∀ o' b, get ((o, Ob.dead) :: objs) o' = some b → live b = true → o ≠ o' ∧ get objs o' = some b := by
    intro o' b hg' hl
    have hne : o ≠ o' := by intro e; subst e; rw [get_same] at hg'; cases hg'; cases hl
    rw [get_far _ _ hne] at hg'
    exact ⟨hne, hg'⟩
  have dD : ∀ k, k ∈ D → (∀ o', k ∉ gone f o o') ∧ (∀ o' b, get ((o, Ob.dead) :: objs) o' = some b → live b = true → bk (pl o') = some k → False) ∧ (w0.heap.size ≤ k ∨ ∀ j, W k j) ∧ (∀ j, ¬ Z k j) ∧ k < w.heap.size := by
    intro k hk
    obtain ⟨a1, a2, a3, a4, a5⟩ := hD.mem k hk
    exact ⟨fun o' h => a1 o' (gone_mem h).1, fun o' b hg' hl hb => a2 o' b (far o' b hg' hl).2 hl hb, a3, a4, a5⟩
  have dfp : ∀ k, k ∈ fp → (∀ o', k ∉ gone f o o') ∧ (∀ o' b, get ((o, Ob.dead) :: objs) o' = some b → live b = true → bk (pl o') = some k → False) ∧ (w0.heap.size ≤ k ∨ ∀ j, W k j) ∧ (∀ j, ¬ Z k j) ∧ k < w.heap.size := by
    intro k hk
    have hk := h3 k hk
    exact ⟨fun o' h => (gone_mem h).2 (T.sep o' o k (gone_mem h).1 hk), fun o' b hg' hl hb => T.root o k o' b hk (far o' b hg' hl).2 hl hb, T.own o k hk, T.zfar o k hk, T.lt o k hk⟩
  cases hbk : bk (pl o) with
  | none =>
    have hx : xs = [] := by
      rcases h1.2 with ⟨_, hn⟩ | ⟨g, cap, cur, e1, _⟩
      · exact List.eq_nil_of_length_eq_zero hn
      · rw [e1] at hbk; cases hbk
    subst hx
    have hv : pl o = .slice none 0 0 := by
      rcases h1.2 with ⟨e1, _⟩ | ⟨g, cap, cur, e1, _⟩
      · exact e1
      · rw [e1] at hbk; cases hbk
    refine ⟨[], by rw [hv]; exact .sl0 e t none 0, hone, TK, ?_, vs, fp, h1, h2, .inl ⟨rfl, ?_, rfl⟩⟩
    · rw [List.append_nil]
      exact ⟨hD.nd, dD⟩
    · cases h2; rfl
  | some g =>
    have hob : (pl o).ownBlock = some g := by rw [← bk_own (b := g) h1]; exact hbk
    refine ⟨g :: fp, .sl e t xs (pl o) vs g fp h1 hob h2, hone, TK, ⟨?_, ?_⟩, vs, fp, h1, h2, .inr ⟨g, rfl, rfl⟩⟩
    · refine List.nodup_append.2 ⟨hD.nd, List.nodup_cons.2 ⟨fun hk => T.root o g o b0 (h3 g hk) hb0 hl0 hbk, h4⟩, ?_⟩
      intro a ha b hb hab
      subst hab
      obtain ⟨a1, a2, _⟩ := hD.mem a ha
      rcases List.mem_cons.1 hb with e | hb
      · subst e; exact a2 o b0 hb0 hl0 hbk
      · exact a1 o (h3 a hb)
    · intro k hk
      rcases List.mem_append.1 hk with hk | hk
      · exact dD k hk
      · rcases List.mem_cons.1 hk with e | hk
        · subst e
          exact ⟨fun o' h => T.root o' k o b0 (gone_mem h).1 hb0 hl0 hbk, fun o' b hg' hl hb => (far o' b hg' hl).1 (M.sep o o' b0 b k hb0 hl0 (far o' b hg' hl).2 hl hbk hb), hown0 k (M.own o b0 k hb0 hl0 hbk), M.zfar o b0 k hb0 hl0 hbk, M.blt hb0 hl0 hbk⟩
        · exact dfp k hk

theorem repC_nil {e : TypeId} {t : Ty} {v : Value} {xs : List (G.D t)} (h : RepC G Z w (.sl e t) xs [v]) (hx : xs.length = 0) : OwnC G w (.sl e t) ([] : List (G.D t)) [v] [] := by
  generalize hq : [v] = q at h
  cases h with
  | sl _ _ _ A c b o cs hc hA hl hz hr =>
    rw [hx]
    exact .sl0 e t A c
/-- A cell taken out of the state. -/
theorem absL_ok {ob : List (Nat × Ob G)} {tm : List (Nat × DV G)} {l l' : Leaf G} {L' : St G} {g : Option Nat} (h : absL ⟨tm, ob, nx⟩ l = some (l', L', g)) (hgd : ∀ n, g = some n → n = 0)
    (M : Mem W w0 Z pl ob nx w) (T : TrOK W w0.heap.size Z pl ob nx w f) {D : List Nat} (hD : Det W w0.heap.size Z pl ob w f D) {u : Value} (hu : LfOK Z w pl nx l u) :
    ∃ fp f', L'.tmps = tm ∧ L'.nx = nx ∧ LfO w l' u fp ∧ Mem W w0 Z pl L'.objs nx w ∧ TrOK W w0.heap.size Z pl L'.objs nx w f' ∧ Det W w0.heap.size Z pl L'.objs w f' (D ++ fp) ∧
      (∀ o b, get L'.objs o = some b → live b = true → get ob o = some b) ∧ (∀ o, f' o = f o ∨ ∀ b, get L'.objs o = some b → live b = false) := by
  have same : l' = l → L' = ⟨tm, ob, nx⟩ → LfO w l u [] → ∃ fp f', L'.tmps = tm ∧ L'.nx = nx ∧ LfO w l' u fp ∧ Mem W w0 Z pl L'.objs nx w ∧ TrOK W w0.heap.size Z pl L'.objs nx w f' ∧ Det W w0.heap.size Z pl L'.objs w f' (D ++ fp) ∧
      (∀ o b, get L'.objs o = some b → live b = true → get ob o = some b) ∧ (∀ o, f' o = f o ∨ ∀ b, get L'.objs o = some b → live b = false) := by
    intro e1 e2 k
    subst e1 e2
    exact ⟨[], f, rfl, rfl, k, M, T, by rw [List.append_nil]; exact hD, fun _ _ h _ => h, fun _ => .inl rfl⟩
  cases l with
  | val t x =>
    have h1 := hu.1
    have h1 : RepC G Z w t x [u] := h1
    cases t with
    | int k => simp only [absL, Option.some.injEq, Prod.mk.injEq] at h; obtain ⟨rfl, rfl, _⟩ := h; refine same rfl rfl ⟨?_, hu.2⟩; cases h1; exact .int k _
    | bool => simp only [absL, Option.some.injEq, Prod.mk.injEq] at h; obtain ⟨rfl, rfl, _⟩ := h; refine same rfl rfl ⟨?_, hu.2⟩; cases h1; exact .bool _
    | str => simp only [absL, Option.some.injEq, Prod.mk.injEq] at h; obtain ⟨rfl, rfl, _⟩ := h; refine same rfl rfl ⟨?_, hu.2⟩; cases h1; exact .str _
    | sl e t =>
      simp only [absL, Option.some.injEq, Prod.mk.injEq] at h
      obtain ⟨rfl, rfl, rfl⟩ := h
      exact ⟨[], f, rfl, rfl, ⟨repC_nil h1 (hgd _ rfl), hu.2⟩, M, T, by rw [List.append_nil]; exact hD, fun _ _ h _ => h, fun _ => .inl rfl⟩
    | po t => simp [absL] at h
    | st s => simp [absL] at h
  | kb b => simp only [absL, Option.some.injEq, Prod.mk.injEq] at h; obtain ⟨rfl, rfl, _⟩ := h; exact same rfl rfl ⟨hu.1, rfl⟩
  | prop p d => simp only [absL, Option.some.injEq, Prod.mk.injEq] at h; obtain ⟨rfl, rfl, _⟩ := h; exact same rfl rfl ⟨hu.1, rfl⟩
  | nils => simp only [absL, Option.some.injEq, Prod.mk.injEq] at h; obtain ⟨rfl, rfl, _⟩ := h; exact same rfl rfl ⟨hu.1, rfl⟩
  | wnil => simp only [absL, Option.some.injEq, Prod.mk.injEq] at h; obtain ⟨rfl, rfl, _⟩ := h; exact same rfl rfl ⟨hu.1, rfl⟩
  | aref o =>
    obtain ⟨ho, hv⟩ := hu.1
    simp only [absL] at h
    have fin : ∀ (e : TypeId) (t : Ty) (xs : List (G.D t)), ((get ob o = some (.arr e t xs) ∧ ∃ n, flatN G n [t] = true) ∨ get ob o = some (.tr e t xs)) → l' = .val (.sl e t) xs → L' = ⟨tm, (o, .dead) :: ob, nx⟩ →
        ∃ fp f', L'.tmps = tm ∧ L'.nx = nx ∧ LfO w l' u fp ∧ Mem W w0 Z pl L'.objs nx w ∧ TrOK W w0.heap.size Z pl L'.objs nx w f' ∧ Det W w0.heap.size Z pl L'.objs w f' (D ++ fp) ∧
        (∀ o b, get L'.objs o = some b → live b = true → get ob o = some b) ∧ (∀ o, f' o = f o ∨ ∀ b, get L'.objs o = some b → live b = false) := by
      intro e t xs hg e1 e2
      subst e1 e2
      obtain ⟨fq, q1, q2, q3, q4, _⟩ := T.take M hD hg
      refine ⟨fq, gone f o, rfl, rfl, ⟨by rw [hv]; exact q1, hu.2⟩, M.kill o ho, q3, q4, fun o' b hg' hl => ?_, fun o' => ?_⟩
      · have hne : o ≠ o' := by
          intro e
          subst e
          have hg' : get ((o, Ob.dead) :: ob) o = some b := hg'
          rw [get_same] at hg'; cases hg'; cases hl
        have hg' : get ((o, Ob.dead) :: ob) o' = some b := hg'
        rwa [get_far _ _ hne] at hg'
      · by_cases e : o' = o
        · subst e
          refine .inr fun b hb => ?_
          have hb : get ((o', Ob.dead) :: ob) o' = some b := hb
          rw [get_same] at hb; cases hb; rfl
        · exact .inl (by show (if o' = o then [] else f o') = f o'; rw [if_neg e])
    split at h
    · rename_i e t xs hg
      split at h
      · rename_i hf
        simp only [Option.some.injEq, Prod.mk.injEq] at h
        obtain ⟨rfl, rfl, _⟩ := h
        exact fin e t xs (.inl ⟨hg, 99, hf⟩) rfl rfl
      · cases h
    · rename_i e t xs hg
      simp only [Option.some.injEq, Prod.mk.injEq] at h
      obtain ⟨rfl, rfl, _⟩ := h
      exact fin e t xs (.inr hg) rfl rfl
    · rename_i e t xs hg
      simp only [Option.some.injEq, Prod.mk.injEq] at h
      obtain ⟨rfl, rfl, rfl⟩ := h
      have h1 : RepC G Z w (.sl e t) xs [pl o] := M.ob o _ hg
      rw [← hv] at h1
      exact ⟨[], f, rfl, rfl, ⟨repC_nil h1 (hgd _ rfl), hu.2⟩, M, T, by rw [List.append_nil]; exact hD, fun _ _ h _ => h, fun _ => .inl rfl⟩
    · cases h
  | wref o =>
    obtain ⟨ho, hv⟩ := hu.1
    have hv : Weak (pl o) u := hv
    simp only [absL] at h
    have fin : ∀ (e : TypeId) (t : Ty) (xs : List (G.D t)), ((get ob o = some (.arr e t xs) ∧ ∃ n, flatN G n [t] = true) ∨ get ob o = some (.tr e t xs)) → l' = .val (.sl e t) xs → L' = ⟨tm, (o, .dead) :: ob, nx⟩ →
        ∃ fp f', L'.tmps = tm ∧ L'.nx = nx ∧ LfO w l' u fp ∧ Mem W w0 Z pl L'.objs nx w ∧ TrOK W w0.heap.size Z pl L'.objs nx w f' ∧ Det W w0.heap.size Z pl L'.objs w f' (D ++ fp) ∧
        (∀ o b, get L'.objs o = some b → live b = true → get ob o = some b) ∧ (∀ o, f' o = f o ∨ ∀ b, get L'.objs o = some b → live b = false) := by
      intro e t xs hg e1 e2
      subst e1 e2
      obtain ⟨fq, q1, q2, q3, q4, _⟩ := T.take M hD hg
      refine ⟨fq, gone f o, rfl, rfl, ⟨q1.weak hv, hu.2⟩, M.kill o ho, q3, q4, fun o' b hg' hl => ?_, fun o' => ?_⟩
      · have hne : o ≠ o' := by
          intro e
          subst e
          have hg' : get ((o, Ob.dead) :: ob) o = some b := hg'
          rw [get_same] at hg'; cases hg'; cases hl
        have hg' : get ((o, Ob.dead) :: ob) o' = some b := hg'
        rwa [get_far _ _ hne] at hg'
      · by_cases e : o' = o
        · subst e
          refine .inr fun b hb => ?_
          have hb : get ((o', Ob.dead) :: ob) o' = some b := hb
          rw [get_same] at hb; cases hb; rfl
        · exact .inl (by show (if o' = o then [] else f o') = f o'; rw [if_neg e])
    split at h
    · rename_i e t xs hg
      split at h
      · rename_i hf
        simp only [Option.some.injEq, Prod.mk.injEq] at h
        obtain ⟨rfl, rfl, _⟩ := h
        exact fin e t xs (.inl ⟨hg, 99, hf⟩) rfl rfl
      · cases h
    · rename_i e t xs hg
      simp only [Option.some.injEq, Prod.mk.injEq] at h
      obtain ⟨rfl, rfl, _⟩ := h
      exact fin e t xs (.inr hg) rfl rfl
    · rename_i e t xs hg
      simp only [Option.some.injEq, Prod.mk.injEq] at h
      obtain ⟨rfl, rfl, rfl⟩ := h
      have h1 : RepC G Z w (.sl e t) xs [pl o] := M.ob o _ hg
      have h1 := h1.weak hv
      exact ⟨[], f, rfl, rfl, ⟨repC_nil h1 (hgd _ rfl), hu.2⟩, M, T, by rw [List.append_nil]; exact hD, fun _ _ h _ => h, fun _ => .inl rfl⟩
    · cases h
  | _ => simp [absL] at h
theorem gdCons_mem {g : Option Nat} {l : List Nat} (h : ∀ n, n ∈ gdCons g l → n = 0) : (∀ n, g = some n → n = 0) ∧ ∀ n, n ∈ l → n = 0 := by
  cases g with
  | none => exact ⟨(fun n h => by cases h), h⟩
  | some m => exact ⟨(fun n e => by injection e with e; exact e ▸ h m List.mem_cons_self), fun n hn => h n (List.mem_cons_of_mem _ hn)⟩
theorem absLs_ok : ∀ (ls : List (Leaf G)) {ls' : List (Leaf G)} {ob : List (Nat × Ob G)} {tm : List (Nat × DV G)} {L' : St G} {gs : List Nat} {f : Nat → List Nat} {D : List Nat}, absLs ls ⟨tm, ob, nx⟩ = some (ls', L', gs) → (∀ n, n ∈ gs → n = 0) →
    Mem W w0 Z pl ob nx w → TrOK W w0.heap.size Z pl ob nx w f → Det W w0.heap.size Z pl ob w f D → ∀ {us : List Value}, LsOK Z w pl nx ls us →
    ∃ fps f', L'.tmps = tm ∧ L'.nx = nx ∧ LvO w ls' us fps ∧ Mem W w0 Z pl L'.objs nx w ∧ TrOK W w0.heap.size Z pl L'.objs nx w f' ∧ Det W w0.heap.size Z pl L'.objs w f' (D ++ fps.flatten) ∧
      (∀ o b, get L'.objs o = some b → live b = true → get ob o = some b) ∧ (∀ o, f' o = f o ∨ ∀ b, get L'.objs o = some b → live b = false) := by
  intro ls
  induction ls with
  | nil =>
    intro ls' ob tm L' gs f D h _ M T hD us hu
    simp only [absLs, Option.some.injEq, Prod.mk.injEq] at h
    obtain ⟨rfl, rfl, rfl⟩ := h
    exact ⟨[], f, rfl, rfl, ⟨hu, rfl⟩, M, T, by simpa using hD, fun _ _ h _ => h, fun _ => .inl rfl⟩
  | cons l ls ih =>
    intro ls' ob tm L' gs f D h hgs M T hD us hu
    simp only [absLs] at h
    split at h
    · rename_i l' L1 g h1
      split at h
      · rename_i ls' L2 gs' h2
        simp only [Option.some.injEq, Prod.mk.injEq] at h
        obtain ⟨rfl, rfl, rfl⟩ := h
        obtain ⟨u, us', rfl, hu1, hu2⟩ := hu
        obtain ⟨g1, g2⟩ := gdCons_mem hgs
        obtain ⟨fp, f1, a1, a2, a3, M1, T1, D1, b1, c1⟩ := absL_ok h1 g1 M T hD hu1
        obtain ⟨tm1, ob1, nx1⟩ := L1
        simp only at a1 a2
        subst a1 a2
        obtain ⟨fps, f2, a4, a5, a6, M2, T2, D2, b2, c2⟩ := ih h2 g2 M1 T1 D1 hu2
        refine ⟨fp :: fps, f2, a4, a5, ⟨u, us', fp, fps, rfl, rfl, a3, a6⟩, M2, T2, by rw [List.flatten_cons, ← List.append_assoc]; exact D2, fun o b hg hl => b1 o b (b2 o b hg hl) hl, fun o => ?_⟩
        rcases c2 o with e | e
        · rcases c1 o with e' | e'
          · exact .inl (e.trans e')
          · refine .inr fun b hb => ?_
            cases hl : live b with
            | false => rfl
            | true =>
              have := e' b (b2 o b hb hl)
              rw [hl] at this; cases this
        · exact .inr e
      · cases h
    · cases h
theorem gdK_some {R : Type} {r : R} {k : Option R} : ∀ {gs : List Nat}, gdK gs k = some r → (∀ n, n ∈ gs → n = 0) ∧ k = some r
  | [], h => ⟨(fun n hn => by cases hn), h⟩
  | n :: gs, h => by
    simp only [gdK] at h
    split at h
    · rename_i e
      obtain ⟨a, b⟩ := gdK_some h
      refine ⟨fun m hm => ?_, b⟩
      rcases List.mem_cons.1 hm with e' | hm
      · exact e'.trans e
      · exact a m hm
    · cases h
end Go.Proofs.YtmcbhnbemhfifaaDoor.RX
