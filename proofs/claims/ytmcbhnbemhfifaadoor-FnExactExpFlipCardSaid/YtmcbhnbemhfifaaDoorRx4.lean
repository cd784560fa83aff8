/- Steps of memory: what is known goes on behind a new block, a store into the call's own memory, a row told as written no more. No condition. -/
import Derived.Test.YtmcbhnbemhfifaaDoorRxW
import Derived.Laws.CopyOwn
namespace Go.Proofs.YtmcbhnbemhfifaaDoor.RX
open Go
set_option autoImplicit false
variable {G : Sig} {W : Rights} {w0 w w' : World} {Z Z' : Nat → Nat → Prop} {pl pl' : Nat → Value} {objs : List (Nat × Ob G)} {nx nx' : Nat}

/-- All objects stay, as the world goes on elsewhere. -/
theorem Mem.keep (h : Mem W w0 Z pl objs nx w) (E : Ext Z w pl nx Z' w' pl' nx')
    (hb : ∀ o b k, get objs o = some b → live b = true → bk (pl o) = some k → w'.heap[k]? = w.heap[k]? ∧ ∀ i, ¬ Z' k i)
    (hz : ∀ b i, Z' b i → b < w'.heap.size) (hzn : ∀ b i, Z' b i → Z b i ∨ w0.heap.size ≤ b ∨ ∀ j, W b j) (hf : Fr W w0.heap.size w w')
    (hi : ∃ f, TrOK W w0.heap.size Z pl objs nx w f ∧ ∀ o k, k ∈ f o → w'.heap[k]? = w.heap[k]? ∧ ∀ j, ¬ Z' k j) : Mem W w0 Z' pl' objs nx' w' where
  lt := fun o b hg => Nat.lt_of_lt_of_le (h.lt o b hg) E.hn
  ob := fun o b hg => (h.ob o b hg).mono E (h.lt o b hg) (fun hl k hk => (hb o b k hg hl hk).1)
  sep := fun o o' b b' k hg hl hg' hl' hk hk' => h.sep o o' b b' k hg hl hg' hl' (by rw [← E.hp o (h.lt o b hg)]; exact hk) (by rw [← E.hp o' (h.lt o' b' hg')]; exact hk')
  own := fun o b k hg hl hk => h.own o b k hg hl (by rw [← E.hp o (h.lt o b hg)]; exact hk)
  zfar := fun o b k hg hl hk => (hb o b k hg hl (by rw [← E.hp o (h.lt o b hg)]; exact hk)).2
  zlt := hz
  zn := fun b i hz => (hzn b i hz).elim (fun h' => h.zn b i h') .inr
  z0 := fun b i hz => E.hZ b i (h.z0 b i hz)
  fx := fun j hj => ⟨Nat.lt_of_lt_of_le (h.fx j hj).1 E.hn, (E.hp j (h.fx j hj).1).trans (h.fx j hj).2⟩
  fr := h.fr.trans hf
  tr := by
    obtain ⟨f, T, hi⟩ := hi
    exact ⟨f, T.keep h.lt E.hn E.hp (fun o b k hg hl hk => (hb o b k hg hl hk).1) hi hf.size⟩
theorem Mem.congr {objs' : List (Nat × Ob G)} (h : Mem W w0 Z pl objs nx w) (e : ∀ n, get objs' n = get objs n) : Mem W w0 Z pl objs' nx w where
  lt := fun o b hg => h.lt o b (by rw [← e]; exact hg)
  ob := fun o b hg => h.ob o b (by rw [← e]; exact hg)
  sep := fun o o' b b' k hg hl hg' => h.sep o o' b b' k (by rw [← e]; exact hg) hl (by rw [← e]; exact hg')
  own := fun o b k hg => h.own o b k (by rw [← e]; exact hg)
  zfar := fun o b k hg => h.zfar o b k (by rw [← e]; exact hg)
  zlt := h.zlt
  zn := h.zn
  z0 := h.z0
  fx := h.fx
  fr := h.fr
  tr := by
    obtain ⟨f, T⟩ := h.tr
    exact ⟨f, T.congr e⟩
/-- One object more, or told anew. -/
theorem Mem.add (h : Mem W w0 Z pl objs nx w) (o : Nat) (b : Ob G) (ho : o < nx) (hb : ObOK Z w pl nx o b)
    (hk : live b = true → ∀ k, bk (pl o) = some k → Own w0.heap.size W b k ∧ (∀ i, ¬ Z k i) ∧ ∀ o' b', o' ≠ o → get objs o' = some b' → live b' = true → bk (pl o') ≠ some k)
    (ht : ∃ f, TrOK W w0.heap.size Z pl ((o, b) :: objs) nx w f) :
    Mem W w0 Z pl ((o, b) :: objs) nx w where
  lt := fun o' b' hg => by
    by_cases e : o = o'
    · subst e; exact ho
    · rw [get_far _ _ e] at hg; exact h.lt o' b' hg
  ob := fun o' b' hg => by
    by_cases e : o = o'
    · subst e; rw [get_same] at hg; cases hg; exact hb
    · rw [get_far _ _ e] at hg; exact h.ob o' b' hg
  sep := fun o1 o2 b1 b2 k h1 l1 h2 l2 k1 k2 => by
    by_cases e1 : o = o1
    · by_cases e2 : o = o2
      · exact e1.symm.trans e2
      · rw [get_far _ _ e2] at h2
        rw [e1, get_same] at h1
        cases h1
        exact absurd k2 (((hk l1 k (by rw [e1]; exact k1)).2.2) o2 b2 (Ne.symm e2) h2 l2)
    · rw [get_far _ _ e1] at h1
      by_cases e2 : o = o2
      · rw [e2, get_same] at h2
        cases h2
        exact absurd k1 (((hk l2 k (by rw [e2]; exact k2)).2.2) o1 b1 (Ne.symm e1) h1 l1)
      · rw [get_far _ _ e2] at h2
        exact h.sep o1 o2 b1 b2 k h1 l1 h2 l2 k1 k2
  own := fun o' b' k hg hl hk' => by
    by_cases e : o = o'
    · subst e; rw [get_same] at hg; cases hg; exact (hk hl k hk').1
    · rw [get_far _ _ e] at hg; exact h.own o' b' k hg hl hk'
  zfar := fun o' b' k hg hl hk' => by
    by_cases e : o = o'
    · subst e; rw [get_same] at hg; cases hg; exact (hk hl k hk').2.1
    · rw [get_far _ _ e] at hg; exact h.zfar o' b' k hg hl hk'
  zlt := h.zlt
  zn := h.zn
  z0 := h.z0
  fx := h.fx
  fr := h.fr
  tr := ht
theorem Mem.kill (h : Mem W w0 Z pl objs nx w) (o : Nat) (ho : o < nx) : Mem W w0 Z pl ((o, .dead) :: objs) nx w := h.add o .dead ho trivial (fun e => by cases e) (h.tr.elim fun f T => ⟨f, T.kill o⟩)
/-- No row with all that it leads to in it, told anew: its block is none that such a row leads to. -/
theorem Mem.put (h : Mem W w0 Z pl objs nx w) (o : Nat) (b : Ob G) (hb : ∀ f, TrOK W w0.heap.size Z pl objs nx w f → TrRep w pl nx (f o) o b) (hr : live b = true → ∀ k, bk (pl o) = some k → ∀ f, TrOK W w0.heap.size Z pl objs nx w f → ∀ o', k ∉ f o') : ∃ f, TrOK W w0.heap.size Z pl ((o, b) :: objs) nx w f :=
  h.tr.elim fun f T => ⟨f, T.put o b (hb f T) (fun hl k hk => hr hl k hk f T)⟩
theorem Mem.bump (h : Mem W w0 Z pl objs nx w) (hn : nx ≤ nx') : Mem W w0 Z pl objs nx' w :=
  h.keep ⟨hn, fun _ _ => rfl, fun _ _ h => h, fun _ _ _ => rfl⟩ (fun o b k hg hl hk => ⟨rfl, h.zfar o b k hg hl hk⟩) h.zlt (fun _ _ h => .inl h) (Fr.refl _ _ _) (h.tr.elim fun f T => ⟨f, T, fun o k hk => ⟨rfl, T.zfar o k hk⟩⟩)

/-- Where things lie, with one object more. -/
def upd (pl : Nat → Value) (o : Nat) (v : Value) : Nat → Value := fun n => if n = o then v else pl n
theorem upd_same (pl : Nat → Value) (o : Nat) (v : Value) : upd pl o v o = v := by simp [upd]
theorem upd_far (pl : Nat → Value) {o n : Nat} (v : Value) (h : n ≠ o) : upd pl o v n = pl n := by simp [upd, h]

theorem cell_lt {w : World} {b i : Nat} {v : Value} (h : w.cell? ⟨b, i, none⟩ = some v) : b < w.heap.size := World.block_lt_of_cell? w _ h
theorem cell_of_blk {w w' : World} {b : Nat} (h : w'.heap[b]? = w.heap[b]?) (i : Nat) : w'.cell? ⟨b, i, none⟩ = w.cell? ⟨b, i, none⟩ := World.cell?_of_block (w := w) (a := ⟨b, i, none⟩) h

/-- A step elsewhere: no block that is read, no object's block, changes. -/
theorem Ext.of_chg (hz : ∀ b i, Z b i → w'.heap[b]? = w.heap[b]?) : Ext Z w pl nx Z w' pl nx :=
  ⟨Nat.le_refl _, fun _ _ => rfl, fun _ _ h => h, fun b i h => cell_of_blk (hz b i h) i⟩
theorem Ext.upd (E : Ext Z w pl nx Z' w' pl nx') (hn : nx' = nx) (v : Value) : Ext Z w pl nx Z' w' (upd pl nx v) (nx + 1) :=
  ⟨Nat.le_succ _, fun o ho => upd_far pl v (Nat.ne_of_lt ho), E.hZ, E.hw⟩

theorem Fr.of_grown {row : Option Nat} {base : Nat} (hg : w.grownBy w' row) (hb : base ≤ w.heap.size) (hr : ∀ k, row = some k → base ≤ k ∨ ∀ i, W k i) : Fr W base w w' where
  os := hg.os
  tape := hg.tape
  output := hg.output
  size := hg.size
  blk := fun b hlt hW => hg.block b (Nat.lt_of_lt_of_le hlt hb) (fun e => by
    rcases hr b e.symm with h | h
    · exact absurd hlt (Nat.not_lt.2 h)
    · exact hW 0 (h 0))
  cel := fun b cs T fr hlt hn hc => by
    refine ⟨cs, ?_, rfl, fun _ _ => rfl⟩
    rw [hg.block b (Nat.lt_of_lt_of_le hlt hb) (fun e => by
      rcases hr b e.symm with h | h
      · exact absurd hlt (Nat.not_lt.2 h)
      · obtain ⟨i, hi⟩ := hn
        exact hi (h i))]
    exact hc

/-- A new block. -/
theorem Mem.new (h : Mem W w0 Z pl objs nx w) (ob : Ob G) (c : Obj) (v : Value) (hv : bk v = some w.heap.size) (hw : Fr W w0.heap.size w w') (hs : ∀ k, k < w.heap.size → w'.heap[k]? = w.heap[k]?)
    (hm : ObOK Z w' (upd pl nx v) (nx + 1) nx ob) 
    (ht : ∀ f, TrOK W w0.heap.size Z (upd pl nx v) objs (nx + 1) w' f → (∀ o', w.heap.size ∉ f o') → ∃ f', TrOK W w0.heap.size Z (upd pl nx v) ((nx, ob) :: objs) (nx + 1) w' f') : Mem W w0 Z (upd pl nx v) ((nx, ob) :: objs) (nx + 1) w' ∧ Ext Z w pl nx Z w' (upd pl nx v) (nx + 1) := by
  have E0 : Ext Z w pl nx Z w' pl nx := Ext.of_chg (fun b i hz => hs b (h.zlt b i hz))
  have E := E0.upd rfl v
  have hlt : ∀ o b k, get objs o = some b → live b = true → bk (pl o) = some k → k < w.heap.size := by
    intro o b k hg hl hk
    have := h.ob o b hg
    cases b with
    | cells ro ls =>
      obtain ⟨b, T, cs, h1, h2, _⟩ := this
      rw [h1] at hk
      injection hk with hk
      subst hk
      exact (Array.getElem?_eq_some_iff.1 h2).1
    | arr e t xs =>
      obtain ⟨vs, h1, _⟩ := this
      rcases h1.2 with ⟨e1, _⟩ | ⟨g, cap, cur, e1, e2, e3, e4⟩
      · rw [e1] at hk; cases hk
      · rw [e1] at hk
        injection hk with hk
        subst hk
        exact (Array.getElem?_eq_some_iff.1 e3).1
    | frz e t xs => cases hl
    | dead => cases hl
    | tr e t xs =>
      obtain ⟨vs, h1⟩ := this
      rcases h1.2 with ⟨e1, _⟩ | ⟨g, cap, cur, e1, e2, e3, e4⟩
      · rw [e1] at hk; cases hk
      · rw [e1] at hk
        injection hk with hk
        subst hk
        exact (Array.getElem?_eq_some_iff.1 e3).1
    | fo e t xs i off o2 =>
      obtain ⟨vs, h1⟩ := this
      rcases h1.2 with ⟨e1, _⟩ | ⟨g, cap, cur, e1, e2, e3, e4⟩
      · rw [e1] at hk; cases hk
      · rw [e1] at hk
        injection hk with hk
        subst hk
        exact (Array.getElem?_eq_some_iff.1 e3).1
  have K := h.keep E (fun o b k hg hl hk => ⟨hs k (hlt o b k hg hl hk), h.zfar o b k hg hl hk⟩) (fun b i hz => Nat.lt_of_lt_of_le (h.zlt b i hz) hw.size) (fun _ _ h => .inl h) hw
    (h.tr.elim fun f T => ⟨f, T, fun o k hk => ⟨hs k (T.lt o k hk), T.zfar o k hk⟩⟩)
  have ht' : ∃ f', TrOK W w0.heap.size Z (RX.upd pl nx v) ((nx, ob) :: objs) (nx + 1) w' f' := by
    obtain ⟨f, T⟩ := h.tr
    exact ht f (T.keep h.lt E.hn E.hp (fun o b k hg hl hk => hs k (hlt o b k hg hl hk)) (fun o k hk => ⟨hs k (T.lt o k hk), T.zfar o k hk⟩) hw.size) (fun o' hk => Nat.lt_irrefl _ (T.lt o' _ hk))
  refine ⟨K.add nx ob (Nat.lt_succ_self _) hm (fun hl k hk => ?_) ht', E⟩
  rw [upd_same, hv] at hk
  injection hk with hk
  subst hk
  refine ⟨.inl (Nat.le_trans h.fr.size (Nat.le_refl _)), fun i hz => Nat.lt_irrefl _ (h.zlt _ i hz), fun o' b' ho hg hl' hk' => ?_⟩
  rw [upd_far pl v ho] at hk'
  exact Nat.lt_irrefl _ (hlt o' b' _ hg hl' hk')
/-- The same, of an object that is no row with all that it leads to. -/
theorem Mem.newP (h : Mem W w0 Z pl objs nx w) (ob : Ob G) (c : Obj) (v : Value) (hv : bk v = some w.heap.size) (hw : Fr W w0.heap.size w w') (hs : ∀ k, k < w.heap.size → w'.heap[k]? = w.heap[k]?)
    (hm : ObOK Z w' (upd pl nx v) (nx + 1) nx ob) (hP : ∀ (pl : Nat → Value) (fp : List Nat), TrRep w' pl (nx + 1) fp nx ob := by intro _ _; trivial) : Mem W w0 Z (upd pl nx v) ((nx, ob) :: objs) (nx + 1) w' ∧ Ext Z w pl nx Z w' (upd pl nx v) (nx + 1) :=
  h.new ob c v hv hw hs hm fun f T hn => ⟨f, T.put nx ob (hP _ _) fun _ k hk o' hm => by
    rw [upd_same, hv] at hk
    injection hk with hk
    subst hk
    exact hn o' hm⟩
theorem Mem.blt (h : Mem W w0 Z pl objs nx w) {o : Nat} {b : Ob G} {k : Nat} (hg : get objs o = some b) (hl : live b = true) (hk : bk (pl o) = some k) : k < w.heap.size := by
  have := h.ob o b hg
  cases b with
  | cells ro ls =>
    obtain ⟨b, T, cs, h1, h2, _⟩ := this
    rw [h1] at hk
    injection hk with hk
    subst hk
    exact (Array.getElem?_eq_some_iff.1 h2).1
  | arr e t xs =>
    obtain ⟨vs, h1, _⟩ := this
    rcases h1.2 with ⟨e1, _⟩ | ⟨g, cap, cur, e1, e2, e3, e4⟩
    · rw [e1] at hk; cases hk
    · rw [e1] at hk
      injection hk with hk
      subst hk
      exact (Array.getElem?_eq_some_iff.1 e3).1
  | frz e t xs => cases hl
  | dead => cases hl
  | tr e t xs =>
    obtain ⟨vs, h1⟩ := this
    rcases h1.2 with ⟨e1, _⟩ | ⟨g, cap, cur, e1, e2, e3, e4⟩
    · rw [e1] at hk; cases hk
    · rw [e1] at hk
      injection hk with hk
      subst hk
      exact (Array.getElem?_eq_some_iff.1 e3).1
  | fo e t xs i off o2 =>
    obtain ⟨vs, h1⟩ := this
    rcases h1.2 with ⟨e1, _⟩ | ⟨g, cap, cur, e1, e2, e3, e4⟩
    · rw [e1] at hk; cases hk
    · rw [e1] at hk
      injection hk with hk
      subst hk
      exact (Array.getElem?_eq_some_iff.1 e3).1

/-- Rows as the cells of a slice. -/
theorem RowC.length {t : Ty} : ∀ {xs : List (G.D t)} {vs : List Value}, RowC G Z w t xs vs → vs.length = xs.length * G.csz t
  | [], _, h => by rw [show _ = _ from h]; simp
  | x :: xs, _, ⟨cs, vs', e, hl, _, h2⟩ => by rw [e, List.length_append, hl, RowC.length h2, List.length_cons, Nat.add_mul, Nat.one_mul, Nat.add_comm]
theorem RowC.at {t : Ty} : ∀ {xs : List (G.D t)} {vs : List Value}, RowC G Z w t xs vs → ∀ i (hi : i < xs.length), RepC G Z w t xs[i] ((vs.drop (i * G.csz t)).take (G.csz t))
  | x :: xs, _, ⟨cs, vs', e, hl, h1, h2⟩, 0, _ => by
    subst e
    rw [Nat.zero_mul, List.drop_zero, ← hl, List.take_left]
    exact h1
  | x :: xs, _, ⟨cs, vs', e, hl, h1, h2⟩, i + 1, hi => by
    subst e
    have := RowC.at h2 i (by simpa using hi)
    have e : (cs ++ vs').drop ((i + 1) * G.csz t) = vs'.drop (i * G.csz t) := by
      rw [Nat.add_mul, Nat.one_mul, ← hl, Nat.add_comm (i * cs.length), ← List.drop_drop, List.drop_left]
    rw [e]
    exact this
/-- A row of ours, as one that is written no more: its block's cells are read from here on. -/
theorem RepC.of_own {e : TypeId} {t : Ty} {xs : List (G.D t)} {v : Value} {vs : List Value} (ho : w.ownsRow 0 e (G.csz t) v xs.length vs) (hr : RowC G Z w t xs vs)
    (hz : ∀ b i, Z b i → Z' b i) (hb : ∀ k i, bk v = some k → i < xs.length * G.csz t → Z' k i) : RepC G Z' w (.sl e t) xs [v] := by
  have hr' := hr.mono (Z' := Z') (w' := w) hz (fun _ _ _ => rfl)
  have hlen := hr.length
  rcases ho.2 with ⟨rfl, hn⟩ | ⟨g, cap, cur, rfl, _, hg, hc, _, _, htk⟩
  · have hx : xs = [] := List.eq_nil_of_length_eq_zero hn
    subst hx
    exact .sl e t [] none 0 0 0 (fun _ => []) (Nat.le_refl _) (.inl rfl) (fun i hi => by cases hi) (fun i j v hi => by cases hi) (fun i hi => by cases hi)
  · refine .sl e t xs (some ⟨g, 0, none⟩) cap g 0 (fun i => (vs.drop (i * G.csz t)).take (G.csz t)) hc (.inr rfl) ?_ ?_ ?_
    · intro i hi
      rw [List.length_take, List.length_drop, hlen]
      have : (i + 1) * G.csz t ≤ xs.length * G.csz t := Nat.mul_le_mul_right _ hi
      rw [Nat.add_mul, Nat.one_mul] at this
      omega
    · intro i j u hi hj
      have hj' : j < G.csz t ∧ vs[i * G.csz t + j]? = some u := by
        rw [List.getElem?_take] at hj
        split at hj
        · rename_i hlt
          rw [List.getElem?_drop] at hj
          exact ⟨hlt, hj⟩
        · cases hj
      have hlt : i * G.csz t + j < vs.length := by
        rcases Nat.lt_or_ge (i * G.csz t + j) vs.length with h | h
        · exact h
        · rw [List.getElem?_eq_none h] at hj'; cases hj'.2
      rw [Nat.zero_add]
      refine ⟨hb g _ rfl (by rw [← hlen]; exact hlt), ?_⟩
      have := ho.cells (g := g) rfl (i * G.csz t + j) u hj'.2
      have hadd : (⟨g, 0, none⟩ : Addr).add (i * G.csz t + j) = ⟨g, i * G.csz t + j, none⟩ := by unfold Addr.add; split <;> simp_all
      rw [hadd] at this
      exact this
    · exact fun i hi => hr'.at i hi
theorem OwnC.rep {t : Ty} {x : G.D t} {cs : List Value} {fp : List Nat} (h : OwnC G w t x cs fp) (hb : ∀ k, k ∈ fp → ∀ i, Z k i) : RepC G Z w t x cs := by
  refine OwnC.rec (G := G) (w := w) (motive_1 := fun t x cs fp _ => (∀ k, k ∈ fp → ∀ i, Z k i) → RepC G Z w t x cs)
    (motive_2 := fun ts h cs fp _ => (∀ k, k ∈ fp → ∀ i, Z k i) → RepF G Z w ts h cs) (motive_3 := fun t xs cs fp _ => (∀ k, k ∈ fp → ∀ i, Z k i) → RowC G Z w t xs cs) ?_ ?_ ?_ ?_ ?_ ?_ ?_ ?_ ?_ ?_ h hb
  · exact fun k x _ => .int k x
  · exact fun b _ => .bool b
  · exact fun s _ => .str s
  · exact fun e t A c _ => .sl e t [] A c 0 0 (fun _ => []) (Nat.zero_le _) (.inl rfl) (fun i hi => by cases hi) (fun i j v hi => by cases hi) (fun i hi => by cases hi)
  · intro e t xs v vs b fp ho hbk _ ih hb
    refine RepC.of_own ho (ih fun k hk => hb k (List.mem_cons_of_mem _ hk)) (fun _ _ h => h) (fun k i hk _ => hb k ?_ i)
    rw [bk_own (b := b) ho, hbk] at hk
    injection hk with hk
    rw [← hk]; exact List.mem_cons_self
  · exact fun s x cs fp _ ih hb => .st s x cs (ih hb)
  · exact fun _ => .nil
  · exact fun t ts h cs cs' fp fp' hl _ _ ih1 ih2 hb => .cons t ts h cs cs' hl (ih1 fun k hk => hb k (List.mem_append_left _ hk)) (ih2 fun k hk => hb k (List.mem_append_right _ hk))
  · exact fun t _ => rfl
  · exact fun t x xs cs vs fp fp' hl _ _ ih1 ih2 hb => ⟨cs, vs, rfl, hl, ih1 fun k hk => hb k (List.mem_append_left _ hk), ih2 fun k hk => hb k (List.mem_append_right _ hk)⟩
theorem OwnR.row {t : Ty} : ∀ {xs : List (G.D t)} {cs : List Value} {fp : List Nat}, OwnR G w t xs cs fp → (∀ k, k ∈ fp → ∀ i, Z k i) → RowC G Z w t xs cs
  | _, _, _, .nil t, _ => rfl
  | _, _, _, .cons t x xs cs vs fp fp' hl h1 h2, hb => ⟨cs, vs, rfl, hl, h1.rep fun k hk => hb k (List.mem_append_left _ hk), OwnR.row h2 fun k hk => hb k (List.mem_append_right _ hk)⟩
theorem freeze_tmps (L : St G) (o : Nat) : (freeze L o).tmps = L.tmps := by
  unfold freeze; cases L; simp only; split <;> rfl
theorem freeze_nx (L : St G) (o : Nat) : (freeze L o).nx = L.nx := by
  unfold freeze; cases L; simp only; split <;> rfl
/-- A row is told as written no more. -/
theorem Mem.freeze {L : St G} (h : Mem W w0 Z pl L.objs L.nx w) {o : Nat} {e : TypeId} {t : Ty} {xs : List (G.D t)} (hg : get L.objs o = some (.arr e t xs) ∨ get L.objs o = some (.tr e t xs)) :
    ∃ Z', Ext Z w pl L.nx Z' w pl L.nx ∧ Mem W w0 Z' pl (freeze L o).objs L.nx w ∧ RepC G Z' w (.sl e t) xs [pl o] ∧ ((pl o).oneCell' = true) := by
  obtain ⟨f, T⟩ := h.tr
  obtain ⟨b0, hb0, hl0⟩ : ∃ b0, get L.objs o = some b0 ∧ live b0 = true := by rcases hg with hg | hg <;> exact ⟨_, hg, rfl⟩
  have hlt := h.lt o _ hb0
  let ex : Nat → Prop := fun b => b ∈ f o ∧ ∃ e t xs, get L.objs o = some (.tr e t xs)
  let Z' : Nat → Nat → Prop := fun b i => Z b i ∨ bk (pl o) = some b ∨ ex b
  have E : Ext Z w pl L.nx Z' w pl L.nx := ⟨Nat.le_refl _, fun _ _ => rfl, fun _ _ h => .inl h, fun _ _ _ => rfl⟩
  have R : RepC G Z' w (.sl e t) xs [pl o] ∧ ∃ vs, w.ownsRow 0 e (G.csz t) (pl o) xs.length vs := by
    rcases hg with hg | hg
    · obtain ⟨vs, h1, h2⟩ := h.ob o _ hg
      exact ⟨RepC.of_own h1 h2 (fun _ _ h => .inl h) (fun k i hk _ => .inr (.inl hk)), vs, h1⟩
    · obtain ⟨vs, h1, h2⟩ := T.rep o _ hg
      exact ⟨RepC.of_own h1 (h2.row (Z := Z') fun k hk i => .inr (.inr ⟨hk, e, t, xs, hg⟩)) (fun _ _ h => h) (fun k i hk _ => .inr (.inl hk)), vs, h1⟩
  obtain ⟨R, vs, h1⟩ := R
  have hk := h.kill o hlt
  -- the blocks behind the others
  have T2 : TrOK W w0.heap.size Z' pl ((o, .dead) :: L.objs) L.nx w (fun n => if n = o then [] else f n) := by
    have T1 := (T.kill o).set o [] (fun b hb => by rw [get_same] at hb; cases hb; trivial) List.nodup_nil (fun k hk => by cases hk)
    refine { T1 with zfar := fun o1 k h1 j hz => ?_ }
    have h2 := h1
    have h1 : k ∈ (if o1 = o then [] else f o1) := h1
    split at h1
    · cases h1
    · rename_i hne
      rcases hz with hz | hz | hz
      · exact T1.zfar o1 k h2 j hz
      · exact T.root o1 k o b0 h1 hb0 hl0 hz
      · exact hne (T.sep o1 o k h1 hz.1)
  have K : Mem W w0 Z' pl ((o, .dead) :: L.objs) L.nx w := by
    have K0 := h.kill o hlt
    exact {
      lt := K0.lt
      ob := fun o' b hg' => (K0.ob o' b hg').mono E (K0.lt o' b hg') (fun _ _ _ => rfl)
      sep := K0.sep
      own := K0.own
      zfar := fun o' b k hg' hl hk' i hz => by
        have hne : o ≠ o' := by intro e; subst e; rw [get_same] at hg'; cases hg'; cases hl
        rw [get_far _ _ hne] at hg'
        rcases hz with hz | hz | hz
        · exact h.zfar o' b k hg' hl hk' i hz
        · exact hne (h.sep o o' b0 b k hb0 hl0 hg' hl hz hk')
        · exact T.root o k o' b hz.1 hg' hl hk'
      zlt := fun b i hz => by
        rcases hz with hz | hz | hz
        · exact h.zlt b i hz
        · exact h.blt hb0 hl0 hz
        · exact T.lt o b hz.1
      zn := fun b i hz => by
        rcases hz with hz | hz | hz
        · exact h.zn b i hz
        · refine .inr ?_
          have := h.own o _ b hb0 hl0 hz
          rcases hg with hg | hg <;> (rw [hb0] at hg; injection hg with hg; subst hg; exact this)
        · exact .inr (T.own o b hz.1)
      z0 := fun b i hz => .inl (h.z0 b i hz)
      fx := K0.fx
      fr := K0.fr
      tr := ⟨_, T2⟩ }
  refine ⟨Z', E, ?_, R, ?_⟩
  · have K2 := K.add o (.frz e t xs) hlt R (fun e => by cases e) ⟨_, T2.put o (.frz e t xs) trivial (fun e => by cases e)⟩
    refine K2.congr (fun n => ?_)
    show get (Go.Proofs.YtmcbhnbemhfifaaDoor.RX.freeze L o).objs n = _
    unfold Go.Proofs.YtmcbhnbemhfifaaDoor.RX.freeze
    cases L with
    | mk tm ob nx =>
      simp only at hg ⊢
      rcases hg with hg | hg
      · rw [hg]
        simp only [get_cons]
        split <;> rfl
      · rw [hg]
        simp only [get_cons]
        split <;> rfl
  · rcases h1.2 with ⟨e1, _⟩ | ⟨g, cap, cur, e1, _⟩ <;> rw [e1] <;> rfl
end Go.Proofs.YtmcbhnbemhfifaaDoor.RX
