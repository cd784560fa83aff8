/- Values that own what they lead to, cell by cell: laid open, put together, taken out of the state. Condition: SigOK. -/
import Derived.Test.YtmcbhnbemhfifaaDoorRx10
namespace Go.Proofs.YtmcbhnbemhfifaaDoor.RX
open Go
set_option autoImplicit false
variable {G : Sig} {W : Rights} {w0 w w' : World} {Z Z' : Nat → Nat → Prop} {pl pl' : Nat → Value} {objs : List (Nat × Ob G)} {nx nx' : Nat}

/-- A cell that owns what it leads to. -/
def LfO (w : World) (l : Leaf G) (v : Value) (fp : List Nat) : Prop :=
  match l with
  | .val t x => OwnC G w t x [v] fp ∧ v.oneCell' = true
  | .kb b => v = .bool b ∧ fp = []
  | .prop p d => v = .bool (@decide p d) ∧ fp = []
  | .nils => v = .slice none 0 0 ∧ fp = []
  | .wnil => (∃ A c, v = .slice A 0 c) ∧ fp = []
  | _ => False
def LvO (w : World) : List (Leaf G) → List Value → List (List Nat) → Prop
  | [], vs, fps => vs = [] ∧ fps = []
  | l :: ls, vs, fps => ∃ v vs' fp fps', vs = v :: vs' ∧ fps = fp :: fps' ∧ LfO w l v fp ∧ LvO w ls vs' fps'
theorem LvO.length : ∀ {ls : List (Leaf G)} {vs : List Value} {fps : List (List Nat)}, LvO w ls vs fps → vs.length = ls.length ∧ fps.length = ls.length
  | [], _, _, ⟨h1, h2⟩ => by rw [h1, h2]; exact ⟨rfl, rfl⟩
  | _ :: ls, _, _, ⟨v, vs', fp, fps', e1, e2, _, h⟩ => by rw [e1, e2]; simp [h.length.1, h.length.2]
theorem LvO.append : ∀ {ls ls' : List (Leaf G)} {vs vs' : List Value} {fps fps' : List (List Nat)}, LvO w ls vs fps → LvO w ls' vs' fps' → LvO w (ls ++ ls') (vs ++ vs') (fps ++ fps')
  | [], _, _, _, _, _, ⟨h1, h2⟩, k => by rw [h1, h2]; exact k
  | _ :: ls, _, _, _, _, _, ⟨v, vs', fp, fps', e1, e2, h1, h2⟩, k => by rw [e1, e2]; exact ⟨v, _, fp, _, rfl, rfl, h1, LvO.append h2 k⟩
theorem OwnC.one {t : Ty} {x : G.D t} {cs : List Value} {fp : List Nat} (h : OwnC G w t x cs fp) : ∀ u ∈ cs, u.oneCell' = true := (h.rep (Z := fun k _ => k ∈ fp) fun k hk _ => hk).one
theorem OwnC.single {t : Ty} {x : G.D t} {cs : List Value} {fp : List Nat} (h : OwnC G w t x cs fp) (hs : ∀ s, t ≠ .st s) : ∃ u, cs = [u] := (h.rep (Z := fun k _ => k ∈ fp) fun k hk _ => hk).single hs
theorem OwnC.length (hs : SigOK G) {t : Ty} {x : G.D t} {cs : List Value} {fp : List Nat} (h : OwnC G w t x cs fp) : cs.length = G.csz t := (h.rep (Z := fun k _ => k ∈ fp) fun k hk _ => hk).length hs

theorem OwnC.weak {e : TypeId} {t : Ty} {xs : List (G.D t)} {u v : Value} {fp : List Nat} (h : OwnC G w (.sl e t) xs [u] fp) (hw : Weak u v) : OwnC G w (.sl e t) xs [v] fp := by
  rcases hw with rfl | ⟨rfl, A, c, rfl⟩
  · exact h
  · generalize hq : [Value.slice none 0 0] = q at h
    cases h with
    | sl0 _ _ A' c' => exact .sl0 e t A c
    | sl _ _ _ v vs b fp ho hb hr =>
      injection hq with hq _
      subst hq
      cases hb
/-- A struct laid open. -/
theorem leavesN_own : ∀ (n : Nat) (ts : List Ty) (h : Fs G.S ts) (cs : List Value) (fp : List Nat) (l : List (Leaf G)), leavesN n (cut1 ts h) = some l → OwnF G w ts h cs fp → ∃ fps, fp = fps.flatten ∧ LvO w l cs fps := by
  intro n
  induction n with
  | zero =>
    intro ts h cs fp l hl H
    cases ts with
    | nil => cases H; simp only [cut1, leavesN, Option.some.injEq] at hl; subst hl; exact ⟨[], rfl, rfl, rfl⟩
    | cons t ts => simp [cut1, leavesN] at hl
  | succ n ihn =>
    intro ts
    cases ts with
    | nil => intro h cs fp l hl H; cases H; simp only [cut1, leavesN, Option.some.injEq] at hl; subst hl; exact ⟨[], rfl, rfl, rfl⟩
    | cons t ts =>
      intro h cs fp l hl H
      cases H with
      | cons _ _ _ cs cs' fp fp' hlen h1 h2 =>
        have plain : (∀ s, t ≠ .st s) → ∃ fps, fp ++ fp' = fps.flatten ∧ LvO w l (cs ++ cs') fps := by
          intro hs
          have hl' : (match leavesN n (cut1 ts h.2) with | some b => some (Leaf.val t h.1 :: b) | none => none) = some l := by
            rw [← hl]
            cases t with
            | st s => exact absurd rfl (hs s)
            | int k => rfl
            | bool => rfl
            | str => rfl
            | sl e t => rfl
            | po t => rfl
          split at hl'
          · rename_i b hb
            injection hl' with hl'
            subst hl'
            have hone : ∃ u, cs = [u] := h1.single hs
            obtain ⟨u, rfl⟩ := hone
            obtain ⟨fps, e, k⟩ := ihn ts h.2 cs' fp' b hb h2
            exact ⟨fp :: fps, by rw [List.flatten_cons, e], u, cs', fp, fps, rfl, rfl, ⟨h1, h1.one u (List.mem_singleton.2 rfl)⟩, k⟩
          · cases hl'
        cases t with
        | st s =>
          simp only [cut1, leavesN] at hl
          split at hl
          · rename_i a ha
            split at hl
            · rename_i b hb
              injection hl with hl
              subst hl
              cases h1 with
              | st _ _ _ _ h1 =>
                obtain ⟨f1, e1, k1⟩ := ihn (G.fs s) _ cs fp a ha h1
                obtain ⟨f2, e2, k2⟩ := ihn ts h.2 cs' fp' b hb h2
                exact ⟨f1 ++ f2, by rw [List.flatten_append, e1, e2], k1.append k2⟩
            · cases hl
          · cases hl
        | int k => exact plain (fun s e => by cases e)
        | bool => exact plain (fun s e => by cases e)
        | str => exact plain (fun s e => by cases e)
        | sl e t => exact plain (fun s e => by cases e)
        | po t => exact plain (fun s e => by cases e)
theorem svOf_own {v : TV G} {s : SV G} (hv : svOf v = some s) {cs : List Value} {fp : List Nat} (hr : OwnC G w v.t v.x cs fp) : ∃ fps, fp = fps.flatten ∧ LvO w s.ls cs fps := by
  obtain ⟨t, x⟩ := v
  have plain : (∀ n, t ≠ .st n) → svOf ⟨t, x⟩ = some (.one (.val t x)) → ∃ fps, fp = fps.flatten ∧ LvO w s.ls cs fps := by
    intro hn e
    rw [e] at hv
    injection hv with hv
    subst hv
    have hone : ∃ u, cs = [u] := OwnC.single hr hn
    obtain ⟨u, rfl⟩ := hone
    exact ⟨[fp], by simp, u, [], fp, [], rfl, rfl, ⟨hr, OwnC.one hr u (List.mem_singleton.2 rfl)⟩, rfl, rfl⟩
  cases t with
  | st k =>
    simp only [svOf] at hv
    split at hv
    · rename_i l hl
      injection hv with hv
      subst hv
      cases hr with
      | st _ _ _ _ h => exact leavesN_own 99 _ _ _ _ _ hl h
    · cases hv
  | int k => exact plain (fun n e => by cases e) rfl
  | bool => exact plain (fun n e => by cases e) rfl
  | str => exact plain (fun n e => by cases e) rfl
  | sl e t => exact plain (fun n e => by cases e) rfl
  | po t => exact plain (fun n e => by cases e) rfl
/-- One cell put in. -/
theorem toTV_own {t : Ty} {l : Leaf G} {L L' : St G} {v : TV G} (h : toTV t l L = some (v, L')) {u : Value} {fp : List Nat} (hu : LfO w l u fp) : L' = L ∧ v.t = t ∧ OwnC G w v.t v.x [u] fp := by
  cases l with
  | val t' x =>
    simp only [toTV] at h
    split at h
    · rename_i hb
      injection h with h
      injection h with h1 h2
      subst h1 h2
      exact ⟨rfl, Ty.eq_of_beq hb, hu.1⟩
    · cases h
  | kb b =>
    simp only [toTV] at h
    split at h
    · rename_i hb
      injection h with h
      injection h with h1 h2
      subst h1 h2
      obtain ⟨rfl, rfl⟩ := hu
      exact ⟨rfl, (Ty.eq_of_beq hb).symm, .bool b⟩
    · cases h
  | prop p d =>
    simp only [toTV] at h
    split at h
    · rename_i hb
      injection h with h
      injection h with h1 h2
      subst h1 h2
      obtain ⟨rfl, rfl⟩ := hu
      exact ⟨rfl, (Ty.eq_of_beq hb).symm, .bool _⟩
    · cases h
  | nils =>
    simp only [toTV] at h
    split at h
    · rename_i e t'
      injection h with h
      injection h with h1 h2
      subst h1 h2
      obtain ⟨rfl, rfl⟩ := hu
      exact ⟨rfl, rfl, .sl0 e t' none 0⟩
    · cases h
  | wnil =>
    simp only [toTV] at h
    split at h
    · rename_i e t'
      injection h with h
      injection h with h1 h2
      subst h1 h2
      obtain ⟨⟨A, c, rfl⟩, rfl⟩ := hu
      exact ⟨rfl, rfl, .sl0 e t' A c⟩
    · cases h
  | _ => exact absurd hu (fun h => h)
/-- Cells as the fields of a struct. -/
theorem packN_own (hs : SigOK G) : ∀ (n : Nat) (ts : List Ty) (ls : List (Leaf G)) (L : St G) (h : Fs G.S ts) (ls' : List (Leaf G)) (L' : St G), packN n ts ls L = some (h, ls', L') →
    ∀ us fps, LvO w ls us fps → L' = L ∧ ∃ us1 us2 fps1 fps2, us = us1 ++ us2 ∧ fps = fps1 ++ fps2 ∧ OwnF G w ts h us1 fps1.flatten ∧ LvO w ls' us2 fps2 := by
  intro n
  induction n with
  | zero =>
    intro ts ls L h ls' L' hp us fps hu
    cases ts with
    | nil =>
      simp only [packN, Option.some.injEq, Prod.mk.injEq] at hp
      obtain ⟨rfl, rfl, rfl⟩ := hp
      exact ⟨rfl, [], us, [], fps, rfl, rfl, .nil, hu⟩
    | cons t ts => simp [packN] at hp
  | succ n ihn =>
    intro ts
    cases ts with
    | nil =>
      intro ls L h ls' L' hp us fps hu
      simp only [packN, Option.some.injEq, Prod.mk.injEq] at hp
      obtain ⟨rfl, rfl, rfl⟩ := hp
      exact ⟨rfl, [], us, [], fps, rfl, rfl, .nil, hu⟩
    | cons t ts =>
      intro ls L h ls' L' hp us fps hu
      have plain : (∀ s, t ≠ .st s) → L' = L ∧ ∃ us1 us2 fps1 fps2, us = us1 ++ us2 ∧ fps = fps1 ++ fps2 ∧ OwnF G w (t :: ts) h us1 fps1.flatten ∧ LvO w ls' us2 fps2 := by
        intro hn
        cases ls with
        | nil => cases t <;> first | (exact absurd rfl (hn _)) | (simp [packN] at hp; done)
        | cons l ls =>
          have hp' : (match toTV t l L with
            | some (v, L') => match castTo t v with
              | some x => match packN n ts ls L' with
                | some (hs, ls', L'') => some (((x, hs) : Fs G.S (t :: ts)), ls', L'')
                | none => none
              | none => none
            | none => none) = some (h, ls', L') := by
            rw [← hp]
            cases t with
            | st s => exact absurd rfl (hn s)
            | int k => rfl
            | bool => rfl
            | str => rfl
            | sl e t => rfl
            | po t => rfl
          split at hp'
          · rename_i v L1 hv
            split at hp'
            · rename_i x hx
              split at hp'
              · rename_i hs' ls1 L2 hr
                simp only [Option.some.injEq, Prod.mk.injEq] at hp'
                obtain ⟨rfl, rfl, rfl⟩ := hp'
                obtain ⟨u, us', fp, fps', rfl, rfl, hu1, hu2⟩ := hu
                obtain ⟨rfl, _, R1⟩ := toTV_own hv hu1
                obtain ⟨rfl, us1, us2, f1, f2, rfl, rfl, F2, O2⟩ := ihn ts ls _ hs' ls' _ hr us' fps' hu2
                refine ⟨rfl, u :: us1, us2, fp :: f1, f2, rfl, rfl, ?_, O2⟩
                have e := castTo_eq hx
                subst e
                exact OwnF.cons t ts (x, hs') [u] us1 fp f1.flatten (by cases t <;> first | (exact absurd rfl (hn _)) | rfl) R1 F2
              · cases hp'
            · cases hp'
          · cases hp'
      cases t with
      | st s =>
        simp only [packN] at hp
        split at hp
        · rename_i h1 ls1 L1 hp1
          split at hp
          · rename_i h2 ls2 L2 hp2
            simp only [Option.some.injEq, Prod.mk.injEq] at hp
            obtain ⟨rfl, rfl, rfl⟩ := hp
            obtain ⟨rfl, us1, us2, f1, f2, rfl, rfl, F1, O1⟩ := ihn (G.fs s) ls _ h1 ls1 _ hp1 us fps hu
            obtain ⟨rfl, us3, us4, f3, f4, rfl, rfl, F2, O2⟩ := ihn ts ls1 _ h2 ls' _ hp2 us2 f2 O1
            refine ⟨rfl, us1 ++ us3, us4, f1 ++ f3, f4, by rw [List.append_assoc], by rw [List.append_assoc], ?_, O2⟩
            rw [List.flatten_append]
            have FC : OwnC G w (.st s) (G.bd s h1) us1 f1.flatten := .st s _ us1 _ (by rw [G.hop]; exact F1)
            exact OwnF.cons (.st s) ts _ us1 us3 _ _ (FC.length hs) FC F2
          · cases hp
        · cases hp
      | int k => exact plain (fun s e => by cases e)
      | bool => exact plain (fun s e => by cases e)
      | str => exact plain (fun s e => by cases e)
      | sl e t => exact plain (fun s e => by cases e)
      | po t => exact plain (fun s e => by cases e)
theorem svTV_own (hs : SigOK G) {t : Ty} {s : SV G} {L L' : St G} {v : TV G} (h : svTV t s L = some (v, L')) {us : List Value} {fps : List (List Nat)} (hu : LvO w s.ls us fps) : L' = L ∧ v.t = t ∧ OwnC G w v.t v.x us fps.flatten := by
  have plain : ∀ l, s = .one l → toTV t l L = some (v, L') → L' = L ∧ v.t = t ∧ OwnC G w v.t v.x us fps.flatten := by
    intro l e hl
    subst e
    obtain ⟨u, us', fp, fps', rfl, rfl, h1, rfl, rfl⟩ := hu
    obtain ⟨a, b, c⟩ := toTV_own hl h1
    exact ⟨a, b, by simpa using c⟩
  cases t with
  | st k =>
    cases s with
    | one l => simp [svTV] at h
    | agg ls =>
      simp only [svTV] at h
      split at h
      · rename_i h1 L1 hp
        injection h with h
        injection h with h1' h2'
        subst h1' h2'
        obtain ⟨rfl, us1, us2, f1, f2, rfl, rfl, F, O1, O2⟩ := packN_own hs 99 _ _ _ _ _ _ hp us fps hu
        subst O1 O2
        refine ⟨rfl, rfl, ?_⟩
        rw [List.append_nil, List.append_nil]
        exact .st k _ us1 _ (by rw [G.hop]; exact F)
      · cases h
  | int k => cases s with | one l => exact plain l rfl (by simpa only [svTV] using h) | agg ls => simp [svTV] at h
  | bool => cases s with | one l => exact plain l rfl (by simpa only [svTV] using h) | agg ls => simp [svTV] at h
  | str => cases s with | one l => exact plain l rfl (by simpa only [svTV] using h) | agg ls => simp [svTV] at h
  | sl e t => cases s with | one l => exact plain l rfl (by simpa only [svTV] using h) | agg ls => simp [svTV] at h
  | po t => cases s with | one l => exact plain l rfl (by simpa only [svTV] using h) | agg ls => simp [svTV] at h
end Go.Proofs.YtmcbhnbemhfifaaDoor.RX
