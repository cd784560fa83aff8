/- Rows that are ours with all that they lead to: what is known of them goes on while memory elsewhere changes. No condition. -/
import Derived.Test.YtmcbhnbemhfifaaDoorRx3
namespace Go.Proofs.YtmcbhnbemhfifaaDoor.RX
open Go
set_option autoImplicit false
variable {G : Sig} {W : Nat → Nat → Prop} {base : Nat} {w w' : World} {Z Z' : Nat → Nat → Prop} {pl pl' : Nat → Value} {objs objs' : List (Nat × Ob G)} {nx nx' : Nat} {f : Nat → List Nat}

theorem ownsRow_same {e : TypeId} {z n : Nat} {v : Value} {vs : List Value} (h : w.ownsRow 0 e z v n vs) (hb : ∀ k, bk v = some k → w'.heap[k]? = w.heap[k]?) : w'.ownsRow 0 e z v n vs := by
  refine ⟨h.1, ?_⟩
  rcases h.2 with h1 | ⟨g, cap, cur, e1, e2, e3, e4⟩
  · exact .inl h1
  · exact .inr ⟨g, cap, cur, e1, e2, (hb g (by rw [e1]; rfl)).trans e3, e4⟩
theorem bk_own {v : Value} {b : Nat} {z n : Nat} {e : TypeId} {vs : List Value} (h : w.ownsRow 0 e z v n vs) : bk v = Value.ownBlock v := by
  rcases h.2 with ⟨e1, _⟩ | ⟨g, cap, cur, e1, _⟩ <;> rw [e1] <;> rfl
theorem OwnC.mono {t : Ty} {x : G.D t} {cs : List Value} {fp : List Nat} (h : OwnC G w t x cs fp) (hb : ∀ k, k ∈ fp → w'.heap[k]? = w.heap[k]?) : OwnC G w' t x cs fp := by
  refine OwnC.rec (G := G) (w := w) (motive_1 := fun t x cs fp _ => (∀ k, k ∈ fp → w'.heap[k]? = w.heap[k]?) → OwnC G w' t x cs fp)
    (motive_2 := fun ts h cs fp _ => (∀ k, k ∈ fp → w'.heap[k]? = w.heap[k]?) → OwnF G w' ts h cs fp) (motive_3 := fun t xs cs fp _ => (∀ k, k ∈ fp → w'.heap[k]? = w.heap[k]?) → OwnR G w' t xs cs fp) ?_ ?_ ?_ ?_ ?_ ?_ ?_ ?_ ?_ ?_ h hb
  · exact fun k x _ => .int k x
  · exact fun b _ => .bool b
  · exact fun s _ => .str s
  · exact fun e t A c _ => .sl0 e t A c
  · intro e t xs v vs b fp ho hbk _ ih hb
    exact .sl e t xs v vs b fp (ownsRow_same ho fun k hk => hb k (by rw [bk_own (b := b) ho, hbk] at hk; injection hk with hk; rw [← hk]; exact List.mem_cons_self)) hbk (ih fun k hk => hb k (List.mem_cons_of_mem _ hk))
  · exact fun s x cs fp _ ih hb => .st s x cs fp (ih hb)
  · exact fun _ => .nil
  · exact fun t ts h cs cs' fp fp' hl _ _ ih1 ih2 hb => .cons t ts h cs cs' fp fp' hl (ih1 fun k hk => hb k (List.mem_append_left _ hk)) (ih2 fun k hk => hb k (List.mem_append_right _ hk))
  · exact fun t _ => .nil t
  · exact fun t x xs cs vs fp fp' hl _ _ ih1 ih2 hb => .cons t x xs cs vs fp fp' hl (ih1 fun k hk => hb k (List.mem_append_left _ hk)) (ih2 fun k hk => hb k (List.mem_append_right _ hk))
theorem OwnR.mono {t : Ty} : ∀ {xs : List (G.D t)} {cs : List Value} {fp : List Nat}, OwnR G w t xs cs fp → (∀ k, k ∈ fp → w'.heap[k]? = w.heap[k]?) → OwnR G w' t xs cs fp
  | _, _, _, .nil t, _ => .nil t
  | _, _, _, .cons t x xs cs vs fp fp' hl h1 h2, hb => .cons t x xs cs vs fp fp' hl (h1.mono fun k hk => hb k (List.mem_append_left _ hk)) (OwnR.mono h2 fun k hk => hb k (List.mem_append_right _ hk))
theorem HoleOK.mono {t : Ty} {xs : List (G.D t)} {vs : List Value} {i off : Nat} {fp : List Nat} (h : HoleOK G w t xs vs i off fp) (hb : ∀ k, k ∈ fp → w'.heap[k]? = w.heap[k]?) : HoleOK G w' t xs vs i off fp := by
  obtain ⟨A, B, e, H⟩ := h
  exact ⟨A, B, e, fun w2 h2 => H w2 fun k hk => (h2 k hk).trans (hb k hk)⟩
theorem TrRep.mono {fp : List Nat} {o : Nat} {b : Ob G} (h : TrRep w pl nx fp o b) (hn : nx ≤ nx') (hp : ∀ o, o < nx → pl' o = pl o) (ho : o < nx) (hb : ∀ k, k ∈ fp → w'.heap[k]? = w.heap[k]?)
    (hr : live b = true → ∀ k, bk (pl o) = some k → w'.heap[k]? = w.heap[k]?) : TrRep w' pl' nx' fp o b := by
  cases b with
  | tr e t xs =>
    obtain ⟨vs, h1, h2⟩ := h
    exact ⟨vs, by rw [hp o ho]; exact ownsRow_same h1 (hr rfl), h2.mono hb⟩
  | fo e t xs i off o2 =>
    obtain ⟨vs, h1, h2, h3, h4, h5, h6⟩ := h
    exact ⟨vs, by rw [hp o ho]; exact ownsRow_same h1 (hr rfl), h2, h3, Nat.lt_of_lt_of_le h4 hn, by rw [hp o2 h4]; exact h5, h6.mono hb⟩
  | _ => trivial
/-- All goes on elsewhere. -/
theorem TrOK.keep (T : TrOK W base Z pl objs nx w f) (hlt : ∀ o b, get objs o = some b → o < nx) (hn : nx ≤ nx') (hp : ∀ o, o < nx → pl' o = pl o) (hr : ∀ o b k, get objs o = some b → live b = true → bk (pl o) = some k → w'.heap[k]? = w.heap[k]?)
    (hb : ∀ o k, k ∈ f o → w'.heap[k]? = w.heap[k]? ∧ ∀ j, ¬ Z' k j) (hs : w.heap.size ≤ w'.heap.size) : TrOK W base Z' pl' objs nx' w' f where
  rep := fun o b hg => (T.rep o b hg).mono hn hp (hlt o b hg) (fun k hk => (hb o k hk).1) (fun hl k hk => hr o b k hg hl hk)
  nd := T.nd
  sep := T.sep
  root := fun o k o' b hk hg hl hb' => T.root o k o' b hk hg hl (by rw [← hp o' (hlt o' b hg)]; exact hb')
  own := T.own
  zfar := fun o k hk => (hb o k hk).2
  lt := fun o k hk => Nat.lt_of_lt_of_le (T.lt o k hk) hs
theorem TrOK.congr (T : TrOK W base Z pl objs nx w f) (e : ∀ n, get objs' n = get objs n) : TrOK W base Z pl objs' nx w f where
  rep := fun o b hg => T.rep o b (by rw [← e]; exact hg)
  nd := T.nd
  sep := T.sep
  root := fun o k o' b hk hg => T.root o k o' b hk (by rw [← e]; exact hg)
  own := T.own
  zfar := T.zfar
  lt := T.lt
/-- An object told anew. -/
theorem TrOK.put (T : TrOK W base Z pl objs nx w f) (o : Nat) (b : Ob G) (hb : TrRep w pl nx (f o) o b) (hr : live b = true → ∀ k, bk (pl o) = some k → ∀ o', k ∉ f o') : TrOK W base Z pl ((o, b) :: objs) nx w f where
  rep := fun o' b' hg => by
    rw [get_cons] at hg
    split at hg
    · rename_i e; injection hg with hg; subst hg e; exact hb
    · exact T.rep o' b' hg
  nd := T.nd
  sep := T.sep
  root := fun o1 k o' b' hk hg hl hb' => by
    rw [get_cons] at hg
    split at hg
    · rename_i e; injection hg with hg; subst hg e; exact hr hl k hb' o1 hk
    · exact T.root o1 k o' b' hk hg hl hb'
  own := T.own
  zfar := T.zfar
  lt := T.lt
theorem TrOK.kill (T : TrOK W base Z pl objs nx w f) (o : Nat) : TrOK W base Z pl ((o, .dead) :: objs) nx w f := T.put o .dead trivial (fun h => by cases h)
/-- The blocks behind one object told anew. -/
theorem TrOK.set (T : TrOK W base Z pl objs nx w f) (o : Nat) (fp : List Nat) (hrep : ∀ b, get objs o = some b → TrRep w pl nx fp o b) (hnd : fp.Nodup)
    (hk : ∀ k, k ∈ fp → k ∈ f o ∨ ((∀ o', k ∉ f o') ∧ (∀ o' b, get objs o' = some b → live b = true → bk (pl o') = some k → False) ∧ (base ≤ k ∨ ∀ j, W k j) ∧ (∀ j, ¬ Z k j) ∧ k < w.heap.size)) :
    TrOK W base Z pl objs nx w (fun n => if n = o then fp else f n) where
  rep := fun o' b hg => by
    show TrRep w pl nx (if o' = o then fp else f o') o' b
    split
    · rename_i e; subst e; exact hrep b hg
    · exact T.rep o' b hg
  nd := fun o' => by
    show (if o' = o then fp else f o').Nodup
    split
    · exact hnd
    · exact T.nd o'
  sep := fun o1 o2 k h1 h2 => by
    have h1 : k ∈ (if o1 = o then fp else f o1) := h1
    have h2 : k ∈ (if o2 = o then fp else f o2) := h2
    split at h1 <;> split at h2
    · rename_i e1 e2; rw [e1, e2]
    · rename_i e1 e2
      rcases hk k h1 with h | ⟨h, _⟩
      · exact e1.trans (T.sep o o2 k h h2)
      · exact absurd h2 (h o2)
    · rename_i e1 e2
      rcases hk k h2 with h | ⟨h, _⟩
      · exact (T.sep o1 o k h1 h).trans e2.symm
      · exact absurd h1 (h o1)
    · exact T.sep o1 o2 k h1 h2
  root := fun o1 k o' b h1 hg hl hb => by
    have h1 : k ∈ (if o1 = o then fp else f o1) := h1
    split at h1
    · rcases hk k h1 with h | ⟨_, h, _⟩
      · exact T.root o k o' b h hg hl hb
      · exact h o' b hg hl hb
    · exact T.root o1 k o' b h1 hg hl hb
  own := fun o1 k h1 => by
    have h1 : k ∈ (if o1 = o then fp else f o1) := h1
    split at h1
    · rcases hk k h1 with h | ⟨_, _, h, _⟩
      · exact T.own o k h
      · exact h
    · exact T.own o1 k h1
  zfar := fun o1 k h1 => by
    have h1 : k ∈ (if o1 = o then fp else f o1) := h1
    split at h1
    · rcases hk k h1 with h | ⟨_, _, _, h, _⟩
      · exact T.zfar o k h
      · exact h
    · exact T.zfar o1 k h1
  lt := fun o1 k h1 => by
    have h1 : k ∈ (if o1 = o then fp else f o1) := h1
    split at h1
    · rcases hk k h1 with h | ⟨_, _, _, _, h⟩
      · exact T.lt o k h
      · exact h
    · exact T.lt o1 k h1
end Go.Proofs.YtmcbhnbemhfifaaDoor.RX
