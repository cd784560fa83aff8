/- More operations: a store; what only computes. Conditions: SigOK, TabOK. -/
import Derived.Test.YtmcbhnbemhfifaaDoorRx9
namespace Go.Proofs.YtmcbhnbemhfifaaDoor.RX
open Go Go.RowKit
set_option autoImplicit false
variable {G : Sig} {R : Type} {P : Program} {W : Rights} {w0 w w' : World} {Z Z' : Nat → Nat → Prop} {pl pl' : Nat → Value} {N : Nat}
variable {E : Env G R} {o : Oper} {L : St G} {K : St G → Option R} {r : R} {a : Act} {next : Act → World → Prop} {Q : Exit → Act → World → Prop}

theorem setAt_length {α : Type} : ∀ (l : List α) (n : Nat) (ys : List α), (setAt l n ys).length = l.length
  | [], _, _ => rfl
  | _ :: _, 0, [] => rfl
  | _ :: _, _ + 1, [] => rfl
  | _ :: r, 0, _ :: ys => by simp [setAt, setAt_length r 0 ys]
  | _ :: r, n + 1, y :: ys => by simp [setAt, setAt_length r n (y :: ys)]
theorem setAt_get {α : Type} : ∀ (l : List α) (n : Nat) (ys : List α) (j : Nat), n + ys.length ≤ l.length → (setAt l n ys)[j]? = if n ≤ j ∧ j < n + ys.length then ys[j - n]? else l[j]?
  | [], n, ys, j, h => by
    have : ys = [] := List.eq_nil_of_length_eq_zero (by rw [List.length_nil] at h; omega)
    subst this
    simp [setAt]
  | _ :: _, 0, [], j, _ => by rw [if_neg (by simp)]; rfl
  | _ :: _, n + 1, [], j, _ => by rw [if_neg (by simp <;> omega)]; rfl
  | a :: r, 0, y :: ys, 0, _ => by simp [setAt]
  | a :: r, 0, y :: ys, j + 1, h => by
    simp only [setAt, List.getElem?_cons_succ]
    rw [setAt_get r 0 ys j (by simp at h ⊢; omega)]
    simp only [Nat.zero_le, true_and, Nat.zero_add, Nat.sub_zero, List.length_cons]
    by_cases hj : j < ys.length
    · rw [if_pos hj, if_pos (by omega)]; simp
    · rw [if_neg hj, if_neg (by omega)]
  | a :: r, n + 1, y :: ys, 0, _ => by simp [setAt]
  | a :: r, n + 1, y :: ys, j + 1, h => by
    simp only [setAt, List.getElem?_cons_succ]
    rw [setAt_get r n (y :: ys) j (by simp at h ⊢; omega)]
    by_cases hj : n ≤ j ∧ j < n + (y :: ys).length
    · rw [if_pos hj, if_pos (by omega), Nat.add_sub_add_right]
    · rw [if_neg hj, if_neg (by omega)]
theorem LsOK.intro {nx : Nat} : ∀ {ls : List (Leaf G)} {vs : List Value}, vs.length = ls.length → (∀ (j : Nat) (l : Leaf G) (u : Value), ls[j]? = some l → vs[j]? = some u → LfOK Z w pl nx l u) → LsOK Z w pl nx ls vs
  | [], vs, h, _ => List.eq_nil_of_length_eq_zero h
  | l :: ls, [], h, _ => by cases h
  | l :: ls, v :: vs, h, hj => ⟨v, vs, rfl, hj 0 l v rfl rfl, LsOK.intro (by simpa using h) (fun j l u h1 h2 => hj (j + 1) l u (by simpa using h1) (by simpa using h2))⟩
theorem LsOK.setAt {nx : Nat} {ls ys : List (Leaf G)} {vs us : List Value} (h : LsOK Z w pl nx ls vs) (k : LsOK Z w pl nx ys us) {n : Nat} (hn : n + ys.length ≤ ls.length) : LsOK Z w pl nx (RX.setAt ls n ys) (RX.setAt vs n us) := by
  have h1 := h.length
  have h2 := k.length
  refine LsOK.intro (by rw [setAt_length, setAt_length, h1]) (fun j l u hl hu => ?_)
  rw [setAt_get _ _ _ _ hn] at hl
  rw [setAt_get _ _ _ _ (by omega), h2] at hu
  split at hl
  · rename_i hj
    rw [if_pos hj] at hu
    obtain ⟨l', e, q⟩ := k.get _ _ hu
    rw [hl] at e
    injection e with e
    subst e
    exact q
  · rename_i hj
    rw [if_neg hj] at hu
    obtain ⟨l', e, q⟩ := h.get _ _ hu
    rw [hl] at e
    injection e with e
    subst e
    exact q
theorem setAt_row {α : Type} (l ys : List α) (n : Nat) (h : n + ys.length ≤ l.length) : l.take n ++ ys ++ l.drop (n + ys.length) = RX.setAt l n ys := by
  apply List.ext_getElem?
  intro j
  rw [setAt_get _ _ _ _ h]
  by_cases h1 : j < n
  · rw [if_neg (by omega), List.append_assoc, List.getElem?_append_left (by rw [List.length_take]; omega), List.getElem?_take, if_pos h1]
  · by_cases h2 : j < n + ys.length
    · rw [if_pos (by omega), List.append_assoc, List.getElem?_append_right (by rw [List.length_take]; omega), List.length_take, Nat.min_eq_left (by omega), List.getElem?_append_left (by omega)]
    · rw [if_neg (by omega), List.getElem?_append_right (by rw [List.length_append, List.length_take]; omega), List.getElem?_drop]
      congr 1
      rw [List.length_append, List.length_take, Nat.min_eq_left (by omega)]
      omega
theorem okRange_ok {ro : List Nat} : ∀ {n off : Nat}, okRange ro off n = true → ∀ j, j < n → off + j ∉ ro
  | 0, _, _, j, hj => by omega
  | n + 1, off, h, j, hj => by
    simp only [okRange] at h
    split at h
    · cases h
    · rename_i hh
      cases j with
      | zero => intro hm; rw [Nat.add_zero] at hm; rw [(hasN_iff ro off).2 hm] at hh; cases hh
      | succ j => have := okRange_ok h j (by omega); rwa [show off + (j + 1) = off + 1 + j by omega]
/-- A store into a variable. -/
theorem run_storeAt (t : TI) {T : TypeId} (tk : TOK P G T t) {b off : Nat} {T' : TypeId} {cs : List Value} (hg : w.heap[b]? = some (.cells cs.toArray T' (0, 0))) {u : Value} (hu : ∀ x ∈ u.cells.toList, x.oneCell' = true)
    (hn : u.cells.toList.length = t.leaves.length) (hle : off + t.leaves.length ≤ cs.length) :
    (Instr.storeAt T (.pointer (some ⟨b, off, none⟩)) u).run P w = .ok () (w.setRow b (RX.setAt cs off u.cells.toList).toArray) := by
  obtain ⟨i, hi, hsz, _⟩ := tk.size
  unfold Instr.storeAt
  simp only [Instr.sureAddr, Sem.run_bind, Sem.run_pure, Result.andThen_ok, storeVar, run_size hi]
  rw [if_neg (by rw [hsz, ← hn]; simp)]
  rw [run_storeCells_at P b off T' u.cells.toList 0 cs.toArray w hg (by simp only [List.size_toArray]; omega) hu]
  rw [← setAt_row cs u.cells.toList off (by omega)]
  simp only [Nat.add_zero]
theorem own_fr (S : Sat N W w0 Z pl L a w) {i : Nat} {ob : Ob G} {b : Nat} (hg : get L.objs i = some ob) (hl : live ob = true) (hb : bk (pl i) = some b) {T : TypeId} {cs cs' : List Value} (hc : w.heap[b]? = some (.cells cs.toArray T (0, 0)))
    (hlen : cs'.length = cs.length) (hw : ∀ ro ls, ob = .cells ro ls → ∀ j, (j < ls.length → j ∉ ro → False) → cs'[j]? = cs[j]?) : Fr W w0.heap.size w (w.setRow b cs'.toArray) := by
  have same : ∀ ro ls, ob = .cells ro ls → (∀ j, ¬ W b j) → b < w0.heap.size → cs' = cs := by
    intro ro ls hob hW hlt
    apply List.ext_getElem?
    intro j
    refine hw ro ls hob j (fun h1 h2 => ?_)
    subst hob
    rcases S.mem.own i _ b hg hl hb with h | h
    · omega
    · exact hW j (h j (Nat.le_of_lt h1) (.inr h2))
  refine ⟨rfl, rfl, rfl, by simp, fun k hk hW => ?_, fun k ds T' fr hk hn hd => ?_⟩
  · by_cases e : k = b
    · subst e
      cases ob with
      | cells ro ls => rw [same ro ls rfl hW hk, setRow_self w k _ _ _ hc]
      | arr e t xs =>
        rcases S.mem.own i _ k hg hl hb with h | h
        · omega
        · exact absurd (h 0) (hW 0)
      | frz => cases hl
      | dead => cases hl
      | tr e t xs =>
        rcases S.mem.own i _ k hg hl hb with h | h
        · omega
        · exact absurd (h 0) (hW 0)
      | fo e t xs i off o2 =>
        rcases S.mem.own _ _ k hg hl hb with h | h
        · omega
        · exact absurd (h 0) (hW 0)
    · exact setRow_other w b k _ e
  · by_cases e : k = b
    · subst e
      rw [hc] at hd
      injection hd with hd
      injection hd with e1 e2 e3
      have e1 : cs = ds := by simpa using e1
      subst e1 e2 e3
      refine ⟨cs', setRow_heap w k _ _ _ _ hc, hlen, fun j hj => ?_⟩
      rcases S.mem.own i _ k hg hl hb with h | h
      · omega
      · cases ob with
        | cells ro ls => exact hw ro ls rfl j (fun h1 h2 => hj (h j (Nat.le_of_lt h1) (.inr h2)))
        | arr e t xs => exact absurd (h j) hj
        | frz => cases hl
        | dead => cases hl
        | tr e t x => exact absurd (h j) hj
        | fo e t x i off o2 => exact absurd (h j) hj
    · exact ⟨ds, by rw [setRow_other w b k _ e]; exact hd, rfl, fun _ _ => rfl⟩
/-- An object's block is written anew; 'f': the blocks behind the rows that own what they lead to. -/
theorem Sat.writeF (S : Sat N W w0 Z pl L a w) {f : Nat → List Nat} (T : TrOK W w0.heap.size Z pl L.objs L.nx w f) {i : Nat} {ob ob' : Ob G} {b : Nat} (hg : get L.objs i = some ob) (hl : live ob = true) (hb : bk (pl i) = some b) (hw : ∀ k, k ≠ b → w'.heap[k]? = w.heap[k]?) (hf : Fr W w0.heap.size w w')
    (hown : ∀ base, Own base W ob b → Own base W ob' b) (hob : Ext Z w pl L.nx Z w' pl L.nx → ObOK Z w' pl L.nx i ob')
    (ht : TrOK W w0.heap.size Z pl ((i, .dead) :: L.objs) L.nx w' f → (∀ o', b ∉ f o') → ∃ f', TrOK W w0.heap.size Z pl ((i, ob') :: (i, .dead) :: L.objs) L.nx w' f') : Sat N W w0 Z pl ⟨L.tmps, (i, ob') :: L.objs, L.nx⟩ a w' := by
  have hzb : ∀ k j, Z k j → k ≠ b := by intro k j hz e; subst e; exact S.mem.zfar i ob k hg hl hb j hz
  have X : Ext Z w pl L.nx Z w' pl L.nx := Ext.of_chg (fun k j hz => hw k (hzb k j hz))
  have hlt := S.mem.lt i ob hg
  have hgo : ∀ o c k, get ((i, Ob.dead) :: L.objs) o = some c → live c = true → bk (pl o) = some k → w'.heap[k]? = w.heap[k]? ∧ ∀ j, ¬ Z k j := fun o c k hgo hlo hk => by
    have hne : i ≠ o := by intro e; subst e; rw [get_same] at hgo; cases hgo; cases hlo
    rw [get_far _ _ hne] at hgo
    refine ⟨hw k ?_, S.mem.zfar o c k hgo hlo hk⟩
    intro e
    subst e
    exact hne (S.mem.sep i o ob c k hg hl hgo hlo hb hk)
  have hfb : ∀ o k, k ∈ f o → w'.heap[k]? = w.heap[k]? ∧ ∀ j, ¬ Z k j := fun o k hk => ⟨hw k (fun e => T.root o k i ob hk hg hl (by rw [e]; exact hb)), T.zfar o k hk⟩
  have M := (S.mem.kill i hlt).keep X hgo (fun k j hz => Nat.lt_of_lt_of_le (S.mem.zlt k j hz) hf.size) (fun _ _ h => .inl h) hf ⟨f, T.kill i, hfb⟩
  have M2 := M.add i ob' hlt (hob X) (fun hl' k hk => by
    rw [hb] at hk
    injection hk with hk
    subst hk
    refine ⟨hown _ (S.mem.own i ob b hg hl hb), fun j => S.mem.zfar i ob b hg hl hb j, fun o' c ho' hg' hl2 hk' => ?_⟩
    rw [get_far _ _ (Ne.symm ho')] at hg'
    exact ho' (S.mem.sep o' i c ob b hg' hl2 hg hl hk' hb))
    (ht ((T.kill i).keep (S.mem.kill i hlt).lt (Nat.le_refl _) (fun _ _ => rfl) (fun o c k h1 h2 h3 => (hgo o c k h1 h2 h3).1) hfb hf.size) (fun o' hm => T.root o' b i ob hm hg hl hb))
  refine S.at X (M2.congr (fun n => ?_)) rfl
  simp only [get_cons]
  split <;> rfl
/-- The same, of an object that is no row that owns what it leads to. -/
theorem Sat.write (S : Sat N W w0 Z pl L a w) {i : Nat} {ob ob' : Ob G} {b : Nat} (hg : get L.objs i = some ob) (hl : live ob = true) (hb : bk (pl i) = some b) (hw : ∀ k, k ≠ b → w'.heap[k]? = w.heap[k]?) (hf : Fr W w0.heap.size w w')
    (hown : ∀ base, Own base W ob b → Own base W ob' b) (hob : Ext Z w pl L.nx Z w' pl L.nx → ObOK Z w' pl L.nx i ob') (hP : ∀ fp, TrRep w' pl L.nx fp i ob' := by intro _; trivial) : Sat N W w0 Z pl ⟨L.tmps, (i, ob') :: L.objs, L.nx⟩ a w' := by
  obtain ⟨f, T⟩ := S.mem.tr
  exact S.writeF T hg hl hb hw hf hown hob fun T' hn => ⟨f, T'.put _ _ (hP _) fun _ k hk o' hm => by rw [hb] at hk; injection hk with hk; subst hk; exact hn o' hm⟩

theorem setAt_append {α : Type} : ∀ (l l' ys : List α), ys.length = l.length → RX.setAt (l ++ l') 0 ys = ys ++ l'
  | [], l', [], _ => by cases l' <;> rfl
  | a :: l, l', y :: ys, h => by simp only [List.cons_append, setAt]; rw [setAt_append l l' ys (by simpa using h)]
theorem setAt_skip {α : Type} : ∀ (l l' ys : List α) (n : Nat), RX.setAt (l ++ l') (l.length + n) ys = l ++ RX.setAt l' n ys
  | [], l', ys, n => by simp
  | a :: l, l', [], n => by cases h : (a :: l ++ l' : List α) with | nil => cases h | cons b r => simp only [setAt]; rw [← h]; cases l' <;> simp [setAt]
  | a :: l, l', y :: ys, n => by
    rw [List.length_cons, show l.length + 1 + n = (l.length + n) + 1 by omega]
    simp only [List.cons_append, setAt]
    rw [setAt_skip l l' (y :: ys) n]
theorem RowC.set {t : Ty} : ∀ {xs : List (G.D t)} {vs : List Value} (n : Nat) {y : G.D t} {cs : List Value}, RowC G Z w t xs vs → n < xs.length → cs.length = G.csz t → RepC G Z w t y cs → RowC G Z w t (xs.set n y) (RX.setAt vs (n * G.csz t) cs)
  | x :: xs, _, 0, y, cs, ⟨c1, vs', e, hl, h1, h2⟩, _, hc, hy => by
    subst e
    rw [Nat.zero_mul, setAt_append _ _ _ (by rw [hc, hl])]
    exact ⟨cs, vs', rfl, hc, hy, h2⟩
  | x :: xs, _, n + 1, y, cs, ⟨c1, vs', e, hl, h1, h2⟩, hn, hc, hy => by
    subst e
    have e : (n + 1) * G.csz t = c1.length + n * G.csz t := by rw [hl, Nat.add_mul, Nat.one_mul, Nat.add_comm]
    rw [e, setAt_skip]
    exact ⟨c1, _, rfl, hl, h1, RowC.set n h2 (by simpa using hn) hc hy⟩
/-- A part of an element written: as the element written. -/
theorem setAt_part {α : Type} (l us : List α) (p z off : Nat) (h : p + z ≤ l.length) (ho : off + us.length ≤ z) : RX.setAt l p (RX.setAt ((l.drop p).take z) off us) = RX.setAt l (p + off) us := by
  have hz : ((l.drop p).take z).length = z := by rw [List.length_take, List.length_drop]; omega
  apply List.ext_getElem?
  intro j
  rw [setAt_get l p _ j (by rw [setAt_length, hz]; exact h), setAt_length, hz, setAt_get l (p + off) us j (by omega)]
  by_cases h1 : p ≤ j ∧ j < p + z
  · rw [if_pos h1, setAt_get _ _ _ _ (by rw [hz]; exact ho)]
    by_cases h2 : off ≤ j - p ∧ j - p < off + us.length
    · rw [if_pos h2, if_pos (by omega)]
      congr 1
      omega
    · rw [if_neg h2, if_neg (by omega), List.getElem?_take, if_pos (by omega), List.getElem?_drop]
      congr 1
      omega
  · rw [if_neg h1, if_neg (by omega)]
theorem setAt_take {α : Type} (l us : List α) (m n : Nat) (h : n + us.length ≤ m) (hm : m ≤ l.length) : (RX.setAt l n us).take m = RX.setAt (l.take m) n us := by
  have hl : (l.take m).length = m := by rw [List.length_take]; omega
  apply List.ext_getElem?
  intro j
  rw [List.getElem?_take, setAt_get _ _ _ _ (by omega), setAt_get _ _ _ _ (by omega)]
  by_cases h1 : j < m
  · rw [if_pos h1]
    split
    · rfl
    · rw [List.getElem?_take, if_pos h1]
  · rw [if_neg h1, if_neg (by omega), List.getElem?_take, if_neg h1]

end Go.Proofs.YtmcbhnbemhfifaaDoor.RX
