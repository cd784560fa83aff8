/- One element of a row that owns what it leads to: what it is made of, and another part in its place. Condition: SigOK. -/
import Derived.Test.YtmcbhnbemhfifaaDoorRxV2
namespace Go.Proofs.YtmcbhnbemhfifaaDoor.RX
open Go
set_option autoImplicit false
variable {G : Sig} {W : Rights} {w0 w w' : World} {Z Z' : Nat → Nat → Prop} {pl pl' : Nat → Value} {objs : List (Nat × Ob G)} {nx nx' : Nat} {f : Nat → List Nat}

theorem LfO.mono {l : Leaf G} {v : Value} {fp : List Nat} (h : LfO w l v fp) (hb : ∀ k, k ∈ fp → w'.heap[k]? = w.heap[k]?) : LfO w' l v fp := by
  cases l with
  | val t x => exact ⟨OwnC.mono h.1 hb, h.2⟩
  | kb b => exact h
  | prop p d => exact h
  | nils => exact h
  | wnil => exact h
  | _ => exact absurd h (fun h => h)
theorem LvO.mono : ∀ {ls : List (Leaf G)} {vs : List Value} {fps : List (List Nat)}, LvO w ls vs fps → (∀ k, k ∈ fps.flatten → w'.heap[k]? = w.heap[k]?) → LvO w' ls vs fps
  | [], _, _, h, _ => h
  | _ :: ls, _, _, ⟨v, vs', fp, fps', e1, e2, h1, h2⟩, hb => by
    subst e2
    rw [List.flatten_cons] at hb
    exact ⟨v, vs', fp, fps', e1, rfl, h1.mono fun k hk => hb k (List.mem_append_left _ hk), LvO.mono h2 fun k hk => hb k (List.mem_append_right _ hk)⟩
theorem LvO.take : ∀ {ls : List (Leaf G)} {vs : List Value} {fps : List (List Nat)} (n : Nat), LvO w ls vs fps → LvO w (ls.take n) (vs.take n) (fps.take n)
  | _, _, _, 0, _ => by rw [List.take_zero, List.take_zero, List.take_zero]; exact ⟨rfl, rfl⟩
  | [], _, _, n + 1, ⟨h1, h2⟩ => by rw [h1, h2]; exact ⟨rfl, rfl⟩
  | _ :: ls, _, _, n + 1, ⟨v, vs', fp, fps', e1, e2, h1, h2⟩ => by rw [e1, e2]; exact ⟨v, _, fp, _, rfl, rfl, h1, LvO.take n h2⟩
theorem LvO.drop : ∀ {ls : List (Leaf G)} {vs : List Value} {fps : List (List Nat)} (n : Nat), LvO w ls vs fps → LvO w (ls.drop n) (vs.drop n) (fps.drop n)
  | _, _, _, 0, h => h
  | [], _, _, n + 1, ⟨h1, h2⟩ => by rw [h1, h2]; exact ⟨rfl, rfl⟩
  | _ :: ls, _, _, n + 1, ⟨v, vs', fp, fps', e1, e2, h1, h2⟩ => by rw [e1, e2]; exact LvO.drop n h2
theorem setAt_split {α : Type} : ∀ (l : List α) (n : Nat) (ys : List α), n + ys.length ≤ l.length → RX.setAt l n ys = l.take n ++ (ys ++ l.drop (n + ys.length)) := by
  intro l n ys h
  have e : l = l.take n ++ l.drop n := (List.take_append_drop n l).symm
  have hl : (l.take n).length = n := by rw [List.length_take]; omega
  have e2 : l.drop n = (l.drop n).take ys.length ++ l.drop (n + ys.length) := by
    rw [← List.drop_drop]; exact (List.take_append_drop _ _).symm
  have h3 : RX.setAt (l.take n ++ l.drop n) ((l.take n).length + 0) ys = l.take n ++ RX.setAt (l.drop n) 0 ys := setAt_skip _ _ _ _
  rw [hl, Nat.add_zero, ← e] at h3
  rw [h3, e2, setAt_append _ _ _ (by rw [List.length_take, List.length_drop]; omega)]
theorem LvO.setAt {ls ls2 : List (Leaf G)} {vs us : List Value} {fps fps2 : List (List Nat)} (h : LvO w ls vs fps) (k : LvO w ls2 us fps2) (off : Nat) (hle : off + ls2.length ≤ ls.length) :
    LvO w (RX.setAt ls off ls2) (RX.setAt vs off us) (fps.take off ++ (fps2 ++ fps.drop (off + ls2.length))) := by
  have hl := h.length
  have kl := k.length
  rw [setAt_split ls off ls2 hle, setAt_split vs off us (by omega), kl.1]
  exact (h.take off).append (k.append (h.drop _))
theorem OwnR.at {t : Ty} : ∀ {xs : List (G.D t)} {vs : List Value} {fp : List Nat} (n : Nat), OwnR G w t xs vs fp → (hn : n < xs.length) → ∃ A fn B, fp = A ++ (fn ++ B) ∧ OwnC G w t xs[n] ((vs.drop (n * G.csz t)).take (G.csz t)) fn ∧ vs.length = xs.length * G.csz t ∧
    ∀ w', (∀ k, k ∈ A ++ B → w'.heap[k]? = w.heap[k]?) → ∀ y cs fq, OwnC G w' t y cs fq → cs.length = G.csz t → OwnR G w' t (xs.set n y) (RX.setAt vs (n * G.csz t) cs) (A ++ (fq ++ B)) := by
  intro xs
  induction xs with
  | nil => intro vs fp n _ hn; simp at hn
  | cons x xs ih =>
    intro vs fp n h hn
    cases h with
    | cons _ _ _ cs0 vs fp0 fp' hl h1 h2 =>
      have len : ∀ {xs : List (G.D t)} {vs : List Value} {fp : List Nat}, OwnR G w t xs vs fp → vs.length = xs.length * G.csz t := fun h => (h.row (Z := fun _ _ => True) fun _ _ _ => trivial).length
      have hlen := len h2
      cases n with
      | zero =>
        refine ⟨[], fp0, fp', rfl, ?_, ?_, fun w' hw y cs fq hy hc => ?_⟩
        · rw [Nat.zero_mul, List.drop_zero, ← hl, List.take_left]; exact h1
        · rw [List.length_append, hl, hlen, List.length_cons, Nat.add_mul, Nat.one_mul, Nat.add_comm]
        · rw [Nat.zero_mul, setAt_append _ _ _ (by rw [hc, hl])]
          exact .cons t y xs cs vs fq fp' hc hy (h2.mono fun k hk => hw k hk)
      | succ n =>
        obtain ⟨A, fn, B, e, k1, _, k2⟩ := ih n h2 (by simpa using hn)
        have ed : (cs0 ++ vs).drop ((n + 1) * G.csz t) = vs.drop (n * G.csz t) := by
          rw [Nat.add_mul, Nat.one_mul, ← hl, Nat.add_comm (n * cs0.length), ← List.drop_drop, List.drop_left]
        refine ⟨fp0 ++ A, fn, B, by rw [e, List.append_assoc], by rw [ed]; exact k1, by rw [List.length_append, hl, hlen, List.length_cons, Nat.add_mul, Nat.one_mul, Nat.add_comm], fun w' hw y cs fq hy hc => ?_⟩
        have e2 : (n + 1) * G.csz t = cs0.length + n * G.csz t := by rw [hl, Nat.add_mul, Nat.one_mul, Nat.add_comm]
        rw [e2, setAt_skip, List.append_assoc]
        exact .cons t x (xs.set n y) cs0 _ fp0 _ hl (h1.mono fun k hk => hw k (List.mem_append_left _ (List.mem_append_left _ hk))) (k2 w' (fun k hk => hw k (by
          rcases List.mem_append.1 hk with hk | hk
          · exact List.mem_append_left _ (List.mem_append_right _ hk)
          · exact List.mem_append_right _ hk)) y cs fq hy hc)
/-- A part of an element: what it is made of, and another in its place. -/
theorem OwnR.part (hs : SigOK G) {t : Ty} {xs : List (G.D t)} {vs : List Value} {fp : List Nat} {n off m : Nat} {ls : List (Leaf G)} (h : OwnR G w t xs vs fp) (hn : n < xs.length) {d : G.D t} (he : svOf (⟨t, xs.getD n d⟩ : TV G) = some (.agg ls)) (hm : off + m ≤ ls.length) :
    ls.length = G.csz t ∧ ∃ A B fps, fp = A ++ (fps.flatten ++ B) ∧ LvO w ((ls.drop off).take m) ((vs.drop (n * G.csz t + off)).take m) fps ∧
      ∀ w', (∀ k, k ∈ A ++ B → w'.heap[k]? = w.heap[k]?) → ∀ (ls2 : List (Leaf G)) (us : List Value) (fps2 : List (List Nat)) (L L' : St G) (y : TV G), LvO w' ls2 us fps2 → ls2.length = m → svTV t (.agg (RX.setAt ls off ls2)) L = some (y, L') → ∀ y', castTo t y = some y' →
        L' = L ∧ OwnR G w' t (xs.set n y') (RX.setAt vs (n * G.csz t + off) us) (A ++ (fps2.flatten ++ B)) := by
  obtain ⟨A, fn, B, e, k1, hlen, k2⟩ := h.at n hn
  have hx : xs.getD n d = xs[n] := by rw [List.getD_eq_getElem?_getD, List.getElem?_eq_getElem hn]; rfl
  rw [hx] at he
  obtain ⟨fps, e2, k3⟩ := svOf_own he k1
  have hl1 : ls.length = G.csz t := by
    have := k3.length.1
    rw [OwnC.length hs k1] at this
    exact this.symm
  have hseg : (n + 1) * G.csz t ≤ vs.length := by rw [hlen]; exact Nat.mul_le_mul_right _ hn
  rw [Nat.add_mul, Nat.one_mul] at hseg
  have k3l := k3.length
  have hfl : fn = (fps.take off).flatten ++ (((fps.drop off).take m).flatten ++ (fps.drop (off + m)).flatten) := by
    rw [← List.flatten_append, ← List.flatten_append, ← List.drop_drop, List.take_append_drop, List.take_append_drop, e2]
  refine ⟨hl1, A ++ (fps.take off).flatten, (fps.drop (off + m)).flatten ++ B, (fps.drop off).take m, by rw [e, hfl]; simp [List.append_assoc], ?_, ?_⟩
  · have := (k3.drop off).take m
    rw [List.drop_take, List.take_take, List.drop_drop] at this
    rw [show min m (G.csz t - off) = m by omega] at this
    exact this
  · intro w' hw ls2 us fps2 L L' y hL2 hlm hsv y' hy'
    have hmem : ∀ k, k ∈ A ++ B → w'.heap[k]? = w.heap[k]? := fun k hk => hw k (by
      rcases List.mem_append.1 hk with hk | hk
      · exact List.mem_append_left _ (List.mem_append_left _ hk)
      · exact List.mem_append_right _ (List.mem_append_right _ hk))
    have hp1 : LvO w' (ls.take off) (((vs.drop (n * G.csz t)).take (G.csz t)).take off) (fps.take off) := (k3.take off).mono fun k hk => hw k (List.mem_append_left _ (List.mem_append_right _ hk))
    have hp2 : LvO w' (ls.drop (off + m)) (((vs.drop (n * G.csz t)).take (G.csz t)).drop (off + m)) (fps.drop (off + m)) := (k3.drop (off + m)).mono fun k hk => hw k (List.mem_append_right _ (List.mem_append_left _ hk))
    have hul := hL2.length.1
    have hset : LvO w' (RX.setAt ls off ls2) (RX.setAt ((vs.drop (n * G.csz t)).take (G.csz t)) off us) (fps.take off ++ (fps2 ++ fps.drop (off + m))) := by
      rw [setAt_split ls off ls2 (by omega), setAt_split _ off us (by rw [List.length_take, List.length_drop]; omega), hul, hlm]
      exact hp1.append (hL2.append hp2)
    obtain ⟨e1, e3, hC⟩ := svTV_own hs hsv hset
    have := castTo_eq hy'
    subst this
    refine ⟨e1, ?_⟩
    have := k2 w' hmem y' _ _ hC (OwnC.length hs hC)
    rw [setAt_part vs us (n * G.csz t) (G.csz t) off (by omega) (by omega)] at this
    simpa [List.flatten_append, List.append_assoc] using this
end Go.Proofs.YtmcbhnbemhfifaaDoor.RX
