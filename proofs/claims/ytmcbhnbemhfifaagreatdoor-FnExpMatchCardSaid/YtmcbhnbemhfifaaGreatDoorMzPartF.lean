/- Part of the proof that FnExpMatch is true at every input; no condition. -/
import Derived.Test.YtmcbhnbemhfifaaGreatDoorMzPartE
set_option linter.unusedVariables false
set_option linter.unusedSimpArgs false
section
namespace Go.Proofs.YtmcbhnbemhfifaaGreatDoor.RX
open Go K
set_option autoImplicit false
set_option linter.unusedVariables false
set_option linter.unusedSimpArgs false
theorem sameB_refl (a : TExpForm) : sameB a a = true := by simp [sameB]
theorem sameB_trans {a b c : TExpForm} (h : sameB a b = true) (h' : sameB b c = true) : sameB a c = true := by
 unfold sameB at h h' ⊢
 simp only [Bool.and_eq_true, decide_eq_true_eq] at h h' ⊢
 exact ⟨h.1.trans h'.1, h.2.trans h'.2⟩
theorem inB_iff {l : List TExpForm} {p : TExpForm} : inB l p = true ↔ ∃ x ∈ l, sameB x p = true := by simp [inB]
theorem noDup_mono : ∀ (l s s' : List TExpForm), (∀ x ∈ s', x ∈ s) → noDup s l = true → noDup s' l = true
 | [], s, s', _, _ => rfl
 | x :: l, s, s', h, hd => by
  simp only [noDup, Bool.and_eq_true, Bool.not_eq_true'] at hd ⊢
  refine ⟨?_, noDup_mono l _ _ ?_ hd.2⟩
  ·cases e : inB s' x with
   | false => rfl
   | true =>
    obtain ⟨y, hy, hs⟩ := inB_iff.1 e
    have := inB_iff.2 ⟨y, h y hy, hs⟩
    rw [hd.1] at this; cases this
  ·intro y hy
   rcases List.mem_append.1 hy with hy | hy
   ·exact List.mem_append_left _ (h y hy)
   ·exact List.mem_append_right _ hy
theorem noDup_apart {l : List TExpForm} {s : List TExpForm} {x y : TExpForm} (h : noDup s l = true) (hx : x ∈ s) (hy : y ∈ l) : sameB x y = false := by
 induction l generalizing s with
 | nil => cases hy
 | cons z l ih =>
  simp only [noDup, Bool.and_eq_true, Bool.not_eq_true'] at h
  rcases List.mem_cons.1 hy with rfl | hy
  ·cases e : sameB x y with
   | false => rfl
   | true => rw [inB_iff.2 ⟨x, hx, e⟩] at h; cases h.1
  ·exact ih h.2 (List.mem_append_left _ hx) hy
theorem rep_spec (parts : List TExpForm) (hl : (parts.length : Int) ≤ 1000000000) (h1 : dotsN parts ≤ 1) (h0 : headDots parts = false) : Ev (fun k => qr.l4 k (-1) parts 0) (repF 0 (-1) parts) := by
 refine goList parts (P := fun i suf => ∀ r, (1 ≤ dotsN suf → r = -1 ∧ dotsN suf ≤ 1 ∧ (i = 0 → headDots suf = false)) → Ev (fun k => qr.l4 k r parts i) (repF i r suf)) ?_ ?_ (-1) (fun _ => ⟨rfl, h1, fun _ => h0⟩)
 ·intro r _
  refine Ev.shift ?_
  simp (disch := omega) only [qr.l4, if_neg]; exact Ev.now _
 ·intro i x t i0 i1 hx hm hl' _ _ ih r hr
  have hp := (dotsN_pos t).1
  refine Ev.shift ?_
  simp (disch := omega) only [qr.l4, if_pos, hx, w64, eTExpForm_eq]
  refine Ev.bind (dots_spec x) ?_
  cases hd : isDots x with
  | true =>
   simp only [dotsN, headDots, hd, if_true] at hr
   obtain ⟨r1, r2, r3⟩ := hr (by omega)
   have hi : ¬ i = 0 := fun e => by have := r3 e; cases this
   have hn : ¬ (0 : Int) ≤ r := by omega
   simp only [if_true, if_neg hn, if_neg hi, repF, hd]
   exact ih _ (fun h => by omega)
  | false =>
   simp only [dotsN, hd, Bool.false_eq_true, if_false] at hr
   simp only [Bool.false_eq_true, if_false, repF, hd]
   exact ih r (fun h => by
    obtain ⟨r1, r2, _⟩ := hr (by omega)
    exact ⟨r1, by omega, fun e => by omega⟩)
def sink (n : Int) (g : TExpGot) : TExpGot := { g with vDeep := g.vDeep + n }
theorem nonD_sink (lits : List TExpForm) : ∀ x : TExpForm, ∀ a b, nonD lits x (a + b) = (nonD lits x a).map (sink b) := by
 refine indForm fun x ih a b => ?_
 rw [nonD_mk, nonD_mk]
 split
 ·split <;> rfl
 ·generalize hl : x.vKids = l
  rw [hl] at ih
  clear hl
  induction l with
  | nil => simp [nonDs]
  | cons y l ihl =>
   simp only [nonDs, List.map_append]
   rw [ihl (fun z hz => ih z (by simp [hz]))]
   cases headDots l with
   | true => simp only [if_true]; rw [show a + b + 1 = (a + 1) + b by omega, ih y (by simp)]
   | false => simp only [Bool.false_eq_true, if_false]; rw [ih y (by simp)]
theorem headDots_snoc {l : List TExpForm} {e : TExpForm} (h : isDots e = false) : headDots (l ++ [e]) = headDots l := by
 cases l with
 | nil => simp [headDots, h]
 | cons x l => rfl
theorem nms_lit (lits : List TExpForm) : ∀ (x : TExpForm), ∀ y ∈ nms [] x, inB lits y = true ∨ y ∈ nms lits x := by
 refine indForm fun x ih y hy => ?_
 rw [nms_mk] at hy
 rw [nms_mk]
 split at hy
 ·rename_i h1
  rw [if_pos h1]
  have e : inB [] x = false := rfl
  rw [e, Bool.or_false] at hy
  split at hy
  ·cases hy
  ·rename_i hb
   have := List.mem_singleton.1 hy
   subst this
   cases hl : inB lits y with
   | true => exact .inl rfl
   | false =>
    right
    rw [Bool.or_false, if_neg hb]
    simp
 ·rename_i h1
  rw [if_neg h1]
  generalize x.vKids = l at hy ih
  induction l with
  | nil => simp [nmss] at hy
  | cons z l ihl =>
   simp only [nmss] at hy ⊢
   rcases List.mem_append.1 hy with h | h
   ·rcases ih z (by simp) y h with h | h
    ·exact .inl h
    ·exact .inr (List.mem_append_left _ h)
   ·rcases ihl h (fun w hw => ih w (by simp [hw])) with h | h
    ·exact .inl h
    ·exact .inr (List.mem_append_right _ h)
theorem nms_sub (lits : List TExpForm) : ∀ (x : TExpForm), ∀ y ∈ nms lits x, y ∈ nms [] x ∧ inB lits y = false := by
 refine indForm fun x ih y hy => ?_
 rw [nms_mk] at hy
 rw [nms_mk]
 split at hy
 ·rename_i h1
  rw [if_pos h1]
  have e : inB [] x = false := rfl
  rw [e, Bool.or_false]
  split at hy
  ·cases hy
  ·rename_i hb
   have := List.mem_singleton.1 hy
   subst this
   cases hl : inB lits y with
   | true => rw [hl, Bool.or_true] at hb; exact absurd rfl hb
   | false =>
    rw [hl, Bool.or_false] at hb
    rw [if_neg hb]
    simp
 ·rename_i h1
  rw [if_neg h1]
  generalize x.vKids = l at hy ih
  induction l with
  | nil => simp [nmss] at hy
  | cons z l ihl =>
   simp only [nmss] at hy ⊢
   rcases List.mem_append.1 hy with h | h
   ·have := ih z (by simp) y h
    exact ⟨List.mem_append_left _ this.1, this.2⟩
   ·have := ihl h (fun w hw => ih w (by simp [hw]))
    exact ⟨List.mem_append_right _ this.1, this.2⟩
theorem nonD_mem {lits : List TExpForm} {x : TExpForm} {d : Int} {g : TExpGot} (h : g ∈ nonD lits x d) : g.vName ∈ nms lits x := by
 rw [← nonD_name lits x d]
 exact List.mem_map_of_mem h
theorem nonDs_mem {lits : List TExpForm} {x : List TExpForm} {d : Int} {g : TExpGot} (h : g ∈ nonDs lits x d) : g.vName ∈ nmss lits x := by
 rw [← nonDs_name lits x d]
 exact List.mem_map_of_mem h
theorem nonD_deep (lits : List TExpForm) : ∀ x : TExpForm, ∀ d, ∀ g ∈ nonD lits x d, d ≤ g.vDeep ∧ g.vDeep ≤ d + wid x := by
 refine indForm fun x ih d g hg => ?_
 have hp := wid_parts x
 rw [nonD_mk] at hg
 split at hg
 ·split at hg
  ·cases hg
  ·rw [List.mem_singleton.1 hg]; show d ≤ d ∧ d ≤ d + wid x; omega
 ·have : ∀ l : List TExpForm, (∀ y ∈ l, y ∈ x.vKids) → g ∈ nonDs lits l d → d ≤ g.vDeep ∧ g.vDeep ≤ d + 1 + wids l := by
   intro l
   induction l with
   | nil => intro _ h; simp [nonDs] at h
   | cons y l ihl =>
    intro hs h
    simp only [nonDs] at h
    have h0 := (wids_len l).1
    have hy := wid_pos y
    rcases List.mem_append.1 h with h | h
    ·have := ih y (hs y (by simp)) _ g h
     simp only [wids]
     split at this <;> omega
    ·have := ihl (fun z hz => hs z (by simp [hz])) h
     simp only [wids]; omega
  have := this x.vKids (fun _ h => h) hg
  omega
theorem deep_leaf (x nm : TExpForm) (h4 : ¬ x.vSort = 4) (hk : x.vKids = []) : Ev (fun k => qp.f k x nm) 0 := by
 refine Ev.shift ?_
 simp only [qp.f, eTExpForm_eq, hk]
 have hp : Ev (fun k => qz.f k x) [] := by
  simp only [qz.f, if_neg h4, hk]; exact Ev.now _
 have hr : Ev (fun k => qr.f k x) (-1) := by
  simp only [qr.f, eTExpForm_eq]
  refine Ev.bind hp ?_
  refine Ev.shift ?_
  simp (disch := simp) only [qr.l4, if_neg]; exact Ev.now _
 refine Ev.bind hp ?_
 refine Ev.bind hr ?_
 refine Ev.shift ?_
 simp (disch := simp) only [qp.l4, if_neg]; exact Ev.now _
theorem deep_spec (lits : List TExpForm) : ∀ (p : TExpForm) (e : Int), okf p e = true → stOk p = true → wid p ≤ 500000000 → noDup [] (nms lits p) = true → ∀ g ∈ nonD lits p 0, Ev (fun k => qp.f k p g.vName) g.vDeep := by
 refine indForm fun p ih e hok hst hw hnd g hg => ?_
 have hp := wid_parts p
 by_cases h1 : p.vSort = 1
 ·have hk : p.vKids = [] := by
   rcases okf_shape hok with ⟨_, k⟩ | ⟨_, k⟩ | ⟨h', _⟩
   ·exact k
   ·exact k
   ·omega
  have hz : g.vDeep = 0 := by
   rw [nonD_mk, if_pos h1] at hg
   split at hg
   ·cases hg
   ·rw [List.mem_singleton.1 hg]
  rw [hz]
  exact deep_leaf p g.vName (by omega) hk
 by_cases h2 : p.vSort = 2
 ·have hk : p.vKids = [] := by
   rcases okf_shape hok with ⟨_, k⟩ | ⟨_, k⟩ | ⟨h', _⟩
   ·exact k
   ·exact k
   ·omega
  rw [nonD_mk, if_neg h1, hk] at hg
  simp [nonDs] at hg
 have P := patL lits hok hst h1 h2
 have hrep := repF_ok P.one P.head
 have hrs := rep_spec (partsOf p) (by have := P.plen; omega) P.one P.head
 generalize repF 0 (-1) (partsOf p) = rep at hrep hrs
 have hgw : wid g.vName ≤ 500000000 := by have := (nms_facts lits p).2 _ (nonD_mem hg); omega
 have hg1 : g.vName.vSort = 1 := ((nms_facts lits p).2 _ (nonD_mem hg)).1
 have hgl : inB lits g.vName = false := (nms_sub lits p _ (nonD_mem hg)).2
 rw [nonD_mk, if_neg h1] at hg
 rw [nms_mk, if_neg h1] at hnd
 have hpr := parts_spec p (by omega) P.sh
 refine Ev.shift ?_
 simp only [qp.f, eTExpForm_eq]
 refine Ev.bind hpr ?_
 refine Ev.bind (r := rep) ?_ ?_
 ·simp only [qr.f, eTExpForm_eq]
  exact Ev.bind hpr hrs
 have mark : ∀ (i : Int) (x : TExpForm) (r : List TExpForm), 0 ≤ i → p.vKids.drop i.toNat = x :: r → (headDots r = true ↔ i = rep ∧ i < ((partsOf p).length : Int)) := by
  intro i x r i0 hd
  rcases P.sh with s3 | ⟨s4, _⟩
  ·have n4 : ¬ p.vSort = 4 := by omega
   have e : partsOf p = p.vKids := by simp only [partsOf, if_neg n4]
   have := hrep.hit i x r i0 (by rw [e]; exact hd)
   have hlt : i.toNat < p.vKids.length := by
    rcases Nat.lt_or_ge i.toNat p.vKids.length with h | h
    ·exact h
    ·rw [List.drop_eq_nil_of_le h] at hd; cases hd
   rw [e]
   constructor
   ·intro h; exact ⟨this.2 h, by omega⟩
   ·intro h; exact this.1 h.1
  ·obtain ⟨l1, l2, l3, l4⟩ := P.fin s4
   rw [← l4] at hd
   rcases Nat.lt_or_ge i.toNat (partsOf p).length with h | h
   ·rw [List.drop_append_of_le_length (by omega), List.drop_eq_getElem_cons h] at hd
    obtain ⟨e1, e2⟩ := List.cons.inj hd
    have e2 : (partsOf p).drop (i.toNat + 1) ++ [lastOf p] = r := e2
    have := hrep.hit i (partsOf p)[i.toNat] ((partsOf p).drop (i.toNat + 1)) i0 (List.drop_eq_getElem_cons h)
    rw [← e2, headDots_snoc l1]
    constructor
    ·intro h'; exact ⟨this.2 h', by omega⟩
    ·intro h'; exact this.1 h'.1
   ·have : r = [] := by
     have := congrArg List.length hd
     simp only [List.length_drop, List.length_append, List.length_cons, List.length_nil] at this
     exact List.eq_nil_of_length_eq_zero (by omega)
    subst this
    constructor
    ·intro h'; cases h'
    ·intro h'; omega
 have fin := goList p.vKids (P := fun i suf => g ∈ nonDs lits suf 0 → noDup [] (nmss lits suf) = true → Ev (fun k => qp.l4 k (partsOf p) rep i p.vKids g.vName.vSort g.vName.vText g.vName.vScopes g.vName.vFrom g.vName.vKids) g.vDeep) ?_ ?_ hg hnd
 ·exact fin
 ·intro h; simp [nonDs] at h
 ·intro i x r i0 i1 hx hm hl hdr _ ihr hgs hnds
  have hk := P.kids x hm
  have hwx := wids_mem hm
  have hmark := mark i x r i0 hdr
  simp only [nmss] at hnds
  rw [noDup_append, List.nil_append, Bool.and_eq_true] at hnds
  refine Ev.shift ?_
  simp (disch := omega) only [qp.l4, qp.d6b, if_pos, hx, w64, eTExpForm_eq, mTExpForm]
  refine Ev.bind (names_spec [] ⟨by simp, by simp⟩ (by simp) x (by omega)) ?_
  have hfx := nms_facts [] x
  refine Ev.bind (among_spec (nms [] x) g.vName ⟨by omega, fun y hy => by have := (hfx.2 y hy).2; omega⟩ (fun y hy => (hfx.2 y hy).1) hg1) ?_
  simp only [nonDs] at hgs
  rcases List.mem_append.1 hgs with h | h
  ·have hin : inB (nms [] x) g.vName = true := inB_iff.2 ⟨g.vName, (nms_sub lits x _ (nonD_mem h)).1, sameB_refl _⟩
   rw [hin]
   simp only [if_true]
   cases hh : headDots r with
   | true =>
    rw [hh] at h hmark
    simp only [if_true] at h
    rw [nonD_sink lits x 0 1] at h
    obtain ⟨g0, hg0, e0⟩ := List.mem_map.1 h
    have hn : g.vName = g0.vName := by rw [← e0]; rfl
    have hdp : g.vDeep = g0.vDeep + 1 := by rw [← e0]; rfl
    have hd0 := nonD_deep lits x 0 g0 hg0
    rw [hn, hdp]
    refine Ev.bind (ih x hm (e + 1) hk.1 hk.2 (by omega) hnds.1 g0 hg0) ?_
    obtain ⟨m1, m2⟩ := hmark.1 rfl
    simp (disch := omega) only [if_pos m1, if_pos m2, w64]
    exact Ev.now _
   | false =>
    rw [hh] at h hmark
    simp only [Bool.false_eq_true, if_false] at h
    refine Ev.bind (ih x hm (e + 1) hk.1 hk.2 (by omega) hnds.1 g h) ?_
    by_cases m1 : i = rep
    ·have m2 : ¬ i < ((partsOf p).length : Int) := fun m2 => by have := hmark.2 ⟨m1, m2⟩; cases this
     simp only [if_pos m1, if_neg m2]; exact Ev.now _
    ·simp only [if_neg m1]; exact Ev.now _
  ·have hin : inB (nms [] x) g.vName = false := by
    cases hb : inB (nms [] x) g.vName with
    | false => rfl
    | true =>
     obtain ⟨y, hy, hs⟩ := inB_iff.1 hb
     rcases nms_lit lits x y hy with hl' | hl'
     ·obtain ⟨z, hz, hzs⟩ := inB_iff.1 hl'
      rw [inB_iff.2 ⟨z, hz, sameB_trans hzs hs⟩] at hgl
      cases hgl
     ·rw [noDup_apart hnds.2 hl' (nonDs_mem h)] at hs
      cases hs
   rw [hin]
   simp only [Bool.false_eq_true, if_false]
   exact ihr h (noDup_mono _ _ _ (by simp) hnds.2)
end Go.Proofs.YtmcbhnbemhfifaaGreatDoor.RX
end
section
namespace Go.Proofs.YtmcbhnbemhfifaaGreatDoor.RX
open Go K
set_option autoImplicit false
set_option linter.unusedVariables false
set_option linter.unusedSimpArgs false
structure Fin' (lits : List TExpForm) (binds : List TExpBind) (o : Option GL) (n1 n2 : Int) (r : Bool × List TExpForm × List TExpBind × GL × List TExpForm × List TExpForm) : Prop where
 ok : r.1 = (outM o).1
 li : r.2.1 = lits
 bi : r.2.2.1 = binds
 go : r.2.2.2.1 = (outM o).2
 b1 : (r.2.2.2.2.1.length : Int) ≤ n1
 b2 : (r.2.2.2.2.2.length : Int) ≤ n2
structure FinM (lits : List TExpForm) (binds : List TExpBind) (o : Option GL) (n1 n2 : Int) (r : GL × Bool × List TExpForm × List TExpBind × List TExpForm × List TExpForm) : Prop where
 go : r.1 = (outM o).2
 ok : r.2.1 = (outM o).1
 li : r.2.2.1 = lits
 bi : r.2.2.2.1 = binds
 b1 : (r.2.2.2.2.1.length : Int) ≤ n1
 b2 : (r.2.2.2.2.2.length : Int) ≤ n2
theorem nonD_form (lits : List TExpForm) : ∀ x : TExpForm, ∀ d, ∀ g ∈ nonD lits x d, g.vForm = zTExpForm := by
 refine indForm fun x ih d g hg => ?_
 rw [nonD_mk] at hg
 split at hg
 ·split at hg
  ·cases hg
  ·rw [List.mem_singleton.1 hg]
 ·generalize hl : x.vKids = l at hg
  rw [hl] at ih
  clear hl
  induction l with
  | nil => simp [nonDs] at hg
  | cons y l ihl =>
   simp only [nonDs] at hg
   rcases List.mem_append.1 hg with h | h
   ·exact ih y (by simp) _ g h
   ·exact ihl (fun z hz => ih z (by simp [hz])) h
theorem add_spec (p : TExpForm) (x2 : List TExpForm) (x11 : Int) (h11 : 0 ≤ x11) (h11b : x11 ≤ 1000000000) (lits : List TExpForm) (binds : List TExpBind) (lk fx : List TExpForm) (q : GL × Bool × List TExpForm × List TExpBind × List TExpForm × List TExpForm → Prop) :
  ∀ (todo done gd g : GL) (i : Int), (done.length : Int) = i → (gd.length : Int) = i → todo.length ≤ g.length → ((done ++ todo).length : Int) ≤ 1000000000 → (∀ y ∈ todo, (y.vMany.length : Int) ≤ 1000000000) →
  Evs (fun k => q8.l8 k x2 (x11 + 1) lits binds p.vSort p.vText p.vScopes p.vFrom p.vKids (done ++ addG todo g) lk fx) q →
  Evs (fun k => q8.l14 k x2 x11 i lits binds p.vSort p.vText p.vScopes p.vFrom p.vKids (done ++ todo) (gd ++ g) lk fx) q := by
 intro todo
 induction todo with
 | nil =>
  intro done gd g i h1 h2 h3 h4 h5 hk
  refine Evs.shift ?_
  rw [List.append_nil] at h4 ⊢
  simp (disch := omega) only [q8.l14, if_neg, w64]
  have : addG [] g = [] := by cases g <;> rfl
  rw [this, List.append_nil] at hk
  exact hk
 | cons t todo ih =>
  intro done gd g i h1 h2 h3 h4 h5 hk
  cases g with
  | nil => simp at h3
  | cons y g =>
   have ht := h5 t (by simp)
   have hlen : ((done ++ t :: todo).length : Int) = i + 1 + (todo.length : Int) := by rw [List.length_append, List.length_cons]; omega
   have hlen2 : ((gd ++ y :: g).length : Int) = i + 1 + (g.length : Int) := by rw [List.length_append, List.length_cons]; omega
   have i0 : 0 ≤ i := by omega
   refine Evs.shift ?_
   have e1 : (done ++ t :: todo).getD i.toNat zTExpGot = t := mid_getD h1
   have e2 : (gd ++ y :: g).getD i.toNat zTExpGot = y := mid_getD h2
   rw [hlen] at h4
   simp (disch := first | omega | (simp only [List.length_append, List.length_singleton]; omega)) only [q8.l14, q8.d16b, if_pos, e1, e2, eTExpForm_eq, mTExpGot, put_last, hlen, hlen2, mid_set h1, w64]
   have := ih (done ++ [{ t with vMany := t.vMany ++ [y] }]) (gd ++ [y]) g (i + 1) (by rw [List.length_append, List.length_singleton]; omega) (by rw [List.length_append, List.length_singleton]; omega) (by simpa using h3) (by simp only [List.length_append, List.length_singleton]; omega) (fun z hz => h5 z (by simp [hz])) (by simpa [addG] using hk)
   simpa using this
theorem many_loop (p : TExpForm) (ys : List TExpForm) (hys : (ys.length : Int) ≤ 500000000) (lits : List TExpForm) (binds : List TExpBind) (m : TExpForm → Option GL) (N : Nat) (hN : (N : Int) ≤ 1000000000)
  (hm : ∀ f ∈ ys, ∀ lk fx : List TExpForm, (lk.length : Int) + wid f ≤ 1000000000 → (fx.length : Int) + wid f ≤ 1000000000 → Evs (fun k => qd.f k p f lits binds lk fx) (Fin' lits binds (m f) ((lk.length : Int) + wid f) ((fx.length : Int) + wid f)))
  (hlen : ∀ f g, m f = some g → g.length = N) (n1 n2 : Int) (hn1 : n1 ≤ 1000000000) (hn2 : n2 ≤ 1000000000) :
  ∀ (lk fx : List TExpForm) (ns : GL), ns.length = N → (∀ y ∈ ns, (y.vMany.length : Int) ≤ 0) → (lk.length : Int) + wids ys ≤ n1 → (fx.length : Int) + wids ys ≤ n2 →
  Evs (fun k => q8.l8 k ys 0 lits binds p.vSort p.vText p.vScopes p.vFrom p.vKids ns lk fx) (FinM lits binds (manyM m ns ys) n1 n2) := by
 have key := goList ys (P := fun i suf => ∀ (lk fx : List TExpForm) (ns : GL), ns.length = N → (∀ y ∈ ns, (y.vMany.length : Int) ≤ i) → (lk.length : Int) + wids suf ≤ n1 → (fx.length : Int) + wids suf ≤ n2 → Evs (fun k => q8.l8 k ys i lits binds p.vSort p.vText p.vScopes p.vFrom p.vKids ns lk fx) (FinM lits binds (manyM m ns suf) n1 n2)) ?_ ?_
 ·exact key
 ·intro lk fx ns h1 h2 h3 h4
  refine Evs.shift ?_
  simp (disch := omega) only [q8.l8, if_neg]
  simp only [wids] at h3 h4
  exact Evs.now ⟨rfl, rfl, rfl, rfl, by show (lk.length : Int) ≤ n1; omega, by show (fx.length : Int) ≤ n2; omega⟩
 ·intro i x r i0 i1 hx hxm hl _ _ ih lk fx ns h1 h2 h3 h4
  simp only [wids] at h3 h4
  have hr := (wids_len r).1
  refine Evs.shift ?_
  simp (disch := omega) only [q8.l8, if_pos, hx, eTExpForm_eq, mTExpForm]
  refine Evs.bind (hm x hxm lk fx (by omega) (by omega)) ?_
  rintro ⟨ok, li, bi, go, lk', fx'⟩ ⟨e1, e2, e3, e4, e5, e6⟩
  simp only at e1 e2 e3 e4 e5 e6
  subst e1 e2 e3 e4
  simp only [manyM]
  cases hmx : m x with
  | none =>
   simp only [outM, Bool.false_eq_true, not_false_eq_true, if_true, Option.bind_none]
   exact Evs.now ⟨rfl, rfl, rfl, rfl, by show (lk'.length : Int) ≤ n1; omega, by show (fx'.length : Int) ≤ n2; omega⟩
  | some g =>
   simp only [outM, not_true, if_false, Option.bind_some]
   have hg := hlen x g hmx
   have := add_spec p ys i i0 (by omega) li bi lk' fx' (FinM li bi (manyM m (addG ns g) r) n1 n2) ns [] [] g 0 rfl rfl (by omega) (by simp; omega) (fun y hy => by have := h2 y hy; omega) (by
    simp only [List.nil_append]
    exact ih lk' fx' (addG ns g) (by rw [addG_len]; exact h1) (addG_many i ns g h2) (by omega) (by omega))
   simpa using this
theorem many_spec (lits : List TExpForm) (binds : List TExpBind) (hlit : Sml lits) (hl1 : ∀ x ∈ lits, x.vSort = 1) (p : TExpForm) (e : Int) (hok : okf p e = true) (hst : stOk p = true) (hw : wid p ≤ 100000000) (hnd : noDup [] (nms lits p) = true) (hdt : isDots p = false)
  (ys : List TExpForm) (hys : (ys.length : Int) ≤ 500000000) (m : TExpForm → Option GL)
  (hm : ∀ f ∈ ys, ∀ lk fx : List TExpForm, (lk.length : Int) + wid f ≤ 1000000000 → (fx.length : Int) + wid f ≤ 1000000000 → Evs (fun k => qd.f k p f lits binds lk fx) (Fin' lits binds (m f) ((lk.length : Int) + wid f) ((fx.length : Int) + wid f)))
  (hlen : ∀ f g, m f = some g → g.length = (nms lits p).length) (n1 n2 : Int) (hn1 : n1 ≤ 1000000000) (hn2 : n2 ≤ 1000000000) (lk fx : List TExpForm) (h1 : (lk.length : Int) + wids ys ≤ n1) (h2 : (fx.length : Int) + wids ys ≤ n2) :
  Evs (fun k => q8.f k p ys lits binds lk fx) (FinM lits binds (manyM m (nonD lits p 1) ys) n1 n2) := by
 have hf := nms_facts lits p
 refine Evs.shift ?_
 simp only [q8.f, eTExpForm_eq]
 refine Evs.bind (Evs.of (names_spec lits hlit hl1 p (by omega)) (P := fun r => r = nms lits p) rfl) fun r hr => ?_
 subst hr
 have base := many_loop p ys hys lits binds m (nms lits p).length (by omega) hm hlen n1 n2 hn1 hn2 lk fx (nonD lits p 1) (nonD_len lits p 1) (fun y hy => by rw [nonD_many lits p 1 y hy]; simp) h1 h2
 have hN : nms lits p = (nonD lits p 0).map (fun g => g.vName) := (nonD_name lits p 0).symm
 have hS : nonD lits p 1 = (nonD lits p 0).map (sink 1) := nonD_sink lits p 0 1
 have key := goList (nms lits p) (P := fun i suf => ∀ (gs a : GL), suf = gs.map (fun g => g.vName) → a ++ gs.map (sink 1) = nonD lits p 1 → (∀ g ∈ gs, g ∈ nonD lits p 0) → (a.length : Int) = i → Evs (fun k => q8.l4 k ys i lits binds p.vSort p.vText p.vScopes p.vFrom p.vKids a (nms lits p) lk fx) (FinM lits binds (manyM m (nonD lits p 1) ys) n1 n2)) ?_ ?_ (nonD lits p 0) [] hN (by rw [hS]; rfl) (fun g hg => hg) rfl
 ·exact key
 ·intro gs a hs ha _ _
  have : gs = [] := by cases gs with | nil => rfl | cons x gs => cases hs
  subst this
  simp only [List.map_nil, List.append_nil] at ha
  subst ha
  refine Evs.shift ?_
  simp (disch := omega) only [q8.l4, if_neg]
  exact base
 ·intro i x r i0 i1 hx hxm hl _ _ ih gs a hs ha hgs hal
  cases gs with
  | nil => cases hs
  | cons g gs =>
   simp only [List.map_cons, List.cons.injEq] at hs
   obtain ⟨hxg, hr⟩ := hs
   have hg0 := hgs g (by simp)
   have hwx := (hf.2 x hxm).2
   have hx' : (nms lits p).getD i.toNat zTExpForm = x := hx zTExpForm
   have hdp := nonD_deep lits p 0 g hg0
   refine Evs.shift ?_
   simp (disch := omega) only [q8.l4, q8.d6b, if_pos, hx', eTExpForm_eq, mTExpForm, List.length_singleton, w64]
   refine Evs.bind (Evs.of (copy_all x (by omega)) (P := fun r => r = (x.vSort, x.vText, x.vFrom, x.vScopes, x.vKids)) rfl) fun r1 hr1 => ?_
   subst hr1
   refine Evs.bind (Evs.of (deep_spec lits p e hok hst (by omega) hnd g hg0) (P := fun r => r = g.vDeep) rfl |> fun h => by rw [← hxg] at h; exact h) fun r2 hr2 => ?_
   subst hr2
   simp (disch := omega) only [if_pos, w64, mTExpForm]
   refine ih gs (a ++ [sink 1 g]) hr (by rw [← ha]; simp) (fun y hy => hgs y (by simp [hy])) (by rw [List.length_append, List.length_singleton]; omega) |> fun h => ?_
   have hge : sink 1 g = ⟨x, 1 + g.vDeep, ⟨0, ByteArray.empty, [], 0, []⟩, []⟩ := by
    have f1 := nonD_form lits p 0 g hg0
    have f2 := nonD_many lits p 0 g hg0
    unfold sink
    rw [f1, f2, ← hxg, Int.add_comm]
    rfl
   rw [hge] at h
   exact h
end Go.Proofs.YtmcbhnbemhfifaaGreatDoor.RX
end
section
namespace Go.Proofs.YtmcbhnbemhfifaaGreatDoor.RX
open Go K
set_option autoImplicit false
set_option linter.unusedVariables false
set_option linter.unusedSimpArgs false
theorem Fin'.mono {lits : List TExpForm} {binds : List TExpBind} {o : Option GL} {n1 n2 m1 m2 : Int} {r : Bool × List TExpForm × List TExpBind × GL × List TExpForm × List TExpForm} (h : Fin' lits binds o n1 n2 r) (h1 : n1 ≤ m1) (h2 : n2 ≤ m2) : Fin' lits binds o m1 m2 r :=
 ⟨h.ok, h.li, h.bi, h.go, Int.le_trans h.b1 h1, Int.le_trans h.b2 h2⟩
theorem seq_spec (parts own : List TExpForm) (rep more : Int) (lits : List TExpForm) (binds : List TExpBind) (ps : Int) (pk : List TExpForm) (F : TExpForm) (m : TExpForm → TExpForm → Option GL)
  (hown : (own.length : Int) ≤ 500000000) (hpl : (parts.length : Int) ≤ 500000000) (hrep : RepAt parts rep) (hd1 : dotsN parts ≤ 1) (hd0 : headDots parts = false) (hmore : 0 ≤ rep → more = (own.length : Int) - ((parts.length : Int) - 2))
  (hm : ∀ p ∈ parts, isDots p = false → ∀ f ∈ own, ∀ lk fx : List TExpForm, (lk.length : Int) + wid f ≤ 1000000000 → (fx.length : Int) + wid f ≤ 1000000000 → Evs (fun k => qd.f k p f lits binds lk fx) (Fin' lits binds (m p f) ((lk.length : Int) + wid f) ((fx.length : Int) + wid f)))
  (hn : ∀ p ∈ parts, isDots p = false → ∀ ys : List TExpForm, (∀ y ∈ ys, y ∈ own) → (ys.length : Int) ≤ 500000000 → ∀ (n1 n2 : Int) (lk fx : List TExpForm), n1 ≤ 1000000000 → n2 ≤ 1000000000 → (lk.length : Int) + wids ys ≤ n1 → (fx.length : Int) + wids ys ≤ n2 → Evs (fun k => q8.f k p ys lits binds lk fx) (FinM lits binds (manyM (m p) (nonD lits p 1) ys) n1 n2))
  (hlen : ∀ p ∈ parts, isDots p = false → ∀ f g, m p f = some g → g.length = (nms lits p).length)
  (hs : ((nmss lits parts).length : Int) ≤ 500000000) (E : GL × List TExpForm → Option GL) (C T1 T2 : Int) (hC : 0 ≤ C) (hT1 : T1 ≤ 1000000000) (hT2 : T2 ≤ 1000000000)
  (hend : ∀ (at' : Int) (a1 : GL) (lk fx : List TExpForm), 0 ≤ at' → at' ≤ (own.length : Int) → (a1.length : Int) ≤ 1000000000 → (lk.length : Int) + wids (own.drop at'.toNat) + C ≤ T1 → (fx.length : Int) + wids (own.drop at'.toNat) + C ≤ T2 →
   Evs (fun k => q6.l14 k parts own rep more at' (parts.length : Int) lits binds ps pk F.vSort F.vText F.vScopes F.vFrom F.vKids a1 lk fx) (Fin' lits binds (E (a1, own.drop at'.toNat)) T1 T2))
  (hle : (nP parts : Int) - dotsN parts ≤ (own.length : Int)) (lk fx : List TExpForm) (hlk : (lk.length : Int) + wids own + C ≤ T1) (hfx : (fx.length : Int) + wids own + C ≤ T2) :
  Evs (fun k => q6.l14 k parts own rep more 0 0 lits binds ps pk F.vSort F.vText F.vScopes F.vFrom F.vKids [] lk fx) (Fin' lits binds ((seqM m (nd1 lits) parts own).bind E) T1 T2) := by
 have key := goList parts (P := fun i suf => dotsN suf ≤ 1 → ∀ (at' : Int) (a1 : GL) (lk fx : List TExpForm), 0 ≤ at' → at' ≤ (own.length : Int) → (headDots suf = false → 1 ≤ dotsN suf → at' = i) → (nP suf : Int) - (if headDots suf = true then 0 else dotsN suf) ≤ (own.length : Int) - at' → (a1.length : Int) + ((nmss lits suf).length : Int) ≤ 1000000000 →
  (lk.length : Int) + wids (own.drop at'.toNat) + C ≤ T1 → (fx.length : Int) + wids (own.drop at'.toNat) + C ≤ T2 →
  Evs (fun k => q6.l14 k parts own rep more at' i lits binds ps pk F.vSort F.vText F.vScopes F.vFrom F.vKids a1 lk fx) (Fin' lits binds ((seqM m (nd1 lits) suf (own.drop at'.toNat)).bind fun q => E (pre a1 q)) T1 T2)) ?_ ?_ hd1 0 [] lk fx (by omega) (by omega) (fun _ _ => rfl) (by rw [hd0]; simp; omega) (by simp; omega) (by simpa using hlk) (by simpa using hfx)
 ·simpa [pre] using key
 ·intro _ at' a1 lk fx h2 h3 _ _ h6 h7 h8
  simp only [seqM, Option.bind_some, pre, List.append_nil]
  exact hend at' a1 lk fx h2 h3 (by simp only [nmss, List.length_nil] at h6; omega) h7 h8
 ·intro i x t i0 i1 hx hxm hl hdr _ ih hds at' a1 lk fx h2 h3 h4 h5 h6 h7 h8
  have hdp := (dotsN_pos t).1
  have hit := hrep.hit i x t i0 hdr
  have hnp := nP_dots t
  have hwd := wids_len (own.drop at'.toNat)
  have irr : i < (parts.length : Int) := i1
  refine Evs.shift ?_
  cases hdx : isDots x with
  | true =>
   simp only [dotsN, nP, headDots, hdx, if_true] at hds h4 h5
   simp only [nmss, nms_dots lits hdx, List.nil_append] at h6
   have hz : headDots t = false := headDots_of (noDots (by omega))
   simp only [q6.l14, if_pos i1, if_pos i0, hx, eTExpForm_eq]
   refine Evs.bind (Evs.of (dots_spec x) (P := fun r => r = isDots x) rfl) fun r hr => ?_
   subst hr
   simp (disch := omega) only [hdx, if_true, w64]
   have := ih (by omega) at' a1 lk fx h2 h3 (fun _ h => by omega) (by rw [hz]; simp; omega) h6 h7 h8
   simpa only [seqM, hdx, if_true] using this
  | false =>
   simp only [dotsN, nP, headDots, hdx, Bool.false_eq_true, if_false] at hds h4 h5
   simp only [nmss, List.length_append] at h6
   have h4 := h4 trivial
   simp only [q6.l14, if_pos i1, if_pos i0, hx, eTExpForm_eq]
   refine Evs.bind (Evs.of (dots_spec x) (P := fun r => r = isDots x) rfl) fun r hr => ?_
   subst hr
   simp only [hdx, Bool.false_eq_true, if_false]
   cases hdt : headDots t with
   | true =>
    obtain ⟨dd, r, ht⟩ : ∃ dd r, t = dd :: r := by
     cases t with
     | nil => simp [headDots] at hdt
     | cons dd r => exact ⟨dd, r, rfl⟩
    have hdd : isDots dd = true := by rw [ht] at hdt; exact hdt
    have hir : i = rep := hit.2 hdt
    have h1t : 1 ≤ dotsN t := by
     have := (dotsN_pos r).1
     rw [ht]; simp only [dotsN, hdd, if_true]; omega
    have hai : at' = i := h4 (by omega)
    have hmo := hmore (by omega)
    have hm0 : 0 ≤ more := by omega
    have hrl : (own.drop at'.toNat).length - nP t = more.toNat := by
     rw [List.length_drop]; omega
    have e1 : IntKind.i64.wrap (at' + more) = at' + more := w64 (by omega) (by omega)
    have e2 : at' ≤ at' + more := by omega
    have e3 : at' + more ≤ (own.length : Int) := by omega
    have e4 : IntKind.i64.wrap (i + 1) = i + 1 := w64 (by omega) (by omega)
    simp only [if_pos hir, if_pos i0, if_pos h2, e1, if_pos e2, if_pos e3, e4]
    have hsl : (own.take (at' + more).toNat).drop at'.toNat = (own.drop at'.toNat).take more.toNat := by
     rw [List.drop_take]
     congr 1
     omega
    rw [hsl]
    have hwa := wids_append ((own.drop at'.toNat).take more.toNat) ((own.drop at'.toNat).drop more.toNat)
    rw [List.take_append_drop] at hwa
    have hw0 := (wids_len ((own.drop at'.toNat).drop more.toNat)).1
    have hw1 := (wids_len ((own.drop at'.toNat).take more.toNat)).1
    have hdrop : own.drop (at' + more).toNat = (own.drop at'.toNat).drop more.toNat := by
     rw [List.drop_drop]; congr 1; omega
    refine Evs.bind (hn x hxm hdx ((own.drop at'.toNat).take more.toNat) (fun y hy => List.mem_of_mem_drop (List.mem_of_mem_take hy)) (by rw [List.length_take, List.length_drop]; omega) ((lk.length : Int) + wids ((own.drop at'.toNat).take more.toNat)) ((fx.length : Int) + wids ((own.drop at'.toNat).take more.toNat)) lk fx (by omega) (by omega) (Int.le_refl _) (Int.le_refl _)) ?_
    rintro ⟨go, ok, li, bi, lk', fx'⟩ ⟨r1, r2, r3, r4, r5, r6⟩
    simp only at r1 r2 r3 r4 r5 r6
    subst r3 r4
    simp only [seqM, hdx, hdt, Bool.false_eq_true, if_false, if_true, hrl]
    cases hmm : manyM (m x) (nonD li x 1) ((own.drop at'.toNat).take more.toNat) with
    | none =>
     rw [hmm] at r1 r2
     have r1 : go = [] := r1
     have r2 : ok = false := r2
     subst r1 r2
     simp only [Bool.false_eq_true, not_false_eq_true, if_true, Option.bind_none]
     exact Evs.now ⟨rfl, rfl, rfl, rfl, by show (lk'.length : Int) ≤ T1; omega, by show (fx'.length : Int) ≤ T2; omega⟩
    | some g =>
     rw [hmm] at r1 r2
     have r1 : go = g := r1
     have r2 : ok = true := r2
     subst r1 r2
     have hg := manyM_len _ _ _ _ hmm
     rw [nonD_len] at hg
     simp only [outM, not_true, if_false, Option.bind_some]
     have hc : a1.length + go.length ≤ 733007751850 := by omega
     simp only [if_pos hc]
     have := ih (by omega) (at' + more) (a1 ++ go) lk' fx' (by omega) e3 (fun h => by rw [hdt] at h; cases h) (by rw [hdt]; simp; omega) (by rw [List.length_append]; omega) (by rw [hdrop]; omega) (by rw [hdrop]; omega)
     rw [hdrop] at this
     cases hse : seqM m (nd1 li) t ((own.drop at'.toNat).drop more.toNat) with
     | none => rw [hse] at this; simpa only [Option.bind_none, Option.map_none] using this
     | some q => rw [hse] at this; simpa only [Option.bind_some, Option.map_some, pre, List.append_assoc] using this
   | false =>
    have hir : ¬ i = rep := fun e => by rw [hit.1 e] at hdt; cases hdt
    have hlt : at' < (own.length : Int) := by
     by_cases z : 1 ≤ dotsN t
     ·have := nP_one hdt z; omega
     ·omega
    have hdo := drop_rd (d := zTExpForm) (l := own) h2 hlt
    have hym : rdAt zTExpForm own at' ∈ own := rdAt_mem _ _ _ h2 hlt
    generalize hy : rdAt zTExpForm own at' = y at hdo hym
    rw [hdo] at h7 h8
    simp only [wids] at h7 h8
    have hwr := (wids_len (own.drop (at'.toNat + 1))).1
    have e1 : IntKind.i64.wrap (at' + 1) = at' + 1 := w64 (by omega) (by omega)
    have e4 : IntKind.i64.wrap (i + 1) = i + 1 := w64 (by omega) (by omega)
    simp only [if_neg hir, if_pos i0, if_pos h2, if_pos hlt, hy, e1, e4]
    refine Evs.bind (hm x hxm hdx y hym lk fx (by omega) (by omega)) ?_
    rintro ⟨ok, li, bi, go, lk', fx'⟩ ⟨r1, r2, r3, r4, r5, r6⟩
    simp only at r1 r2 r3 r4 r5 r6
    subst r2 r3
    rw [hdo]
    simp only [seqM, hdx, hdt, Bool.false_eq_true, if_false]
    cases hmx : m x y with
    | none =>
     rw [hmx] at r1 r4
     have r1 : ok = false := r1
     have r4 : go = [] := r4
     subst r1 r4
     simp only [Bool.false_eq_true, not_false_eq_true, if_true, Option.bind_none]
     exact Evs.now ⟨rfl, rfl, rfl, rfl, by show (lk'.length : Int) ≤ T1; omega, by show (fx'.length : Int) ≤ T2; omega⟩
    | some g =>
     rw [hmx] at r1 r4
     have r1 : ok = true := r1
     have r4 : go = g := r4
     subst r1 r4
     have hg := hlen x hxm hdx y go hmx
     simp only [not_true, if_false, Option.bind_some]
     have hc : a1.length + go.length ≤ 733007751850 := by omega
     simp only [if_pos hc]
     have := ih (by omega) (at' + 1) (a1 ++ go) lk' fx' (by omega) (by omega) (fun _ h => by have := h4 (by omega); omega) (by rw [hdt]; simp; omega) (by rw [List.length_append]; omega) (by rw [show (at' + 1).toNat = at'.toNat + 1 by omega]; omega) (by rw [show (at' + 1).toNat = at'.toNat + 1 by omega]; omega)
     rw [show (at' + 1).toNat = at'.toNat + 1 by omega] at this
     cases hse : seqM m (nd1 li) t (own.drop (at'.toNat + 1)) with
     | none => rw [hse] at this; simpa only [Option.bind_none, Option.map_none] using this
     | some q => rw [hse] at this; simpa only [Option.bind_some, Option.map_some, pre, List.append_assoc] using this
end Go.Proofs.YtmcbhnbemhfifaaGreatDoor.RX
end
section
namespace Go.Proofs.YtmcbhnbemhfifaaGreatDoor.RX
open Go K
set_option autoImplicit false
set_option linter.unusedVariables false
set_option linter.unusedSimpArgs false
theorem same2_ev {α : Type} {g h : Nat → Option α} {r : α} (h1 : Ev g r) (h2 : Ev h r) : Ev (fun k => same2 (g k) (h k)) r := by
 obtain ⟨a, ha⟩ := h1
 obtain ⟨b, hb⟩ := h2
 exact ⟨max a b, fun k hk => same2_both (ha k (by omega)) (hb k (by omega))⟩
theorem stands_spec (binds : List TExpBind) (hb : SmlB binds) (p f : TExpForm) (h1 : p.vSort = 1) (f1 : f.vSort = 1) (hp : (p.vScopes.length : Int) ≤ 1000000000) (hf : (f.vScopes.length : Int) ≤ 1000000000) : Ev (fun k => q28.f k binds p f) (standB binds p f) := by
 simp only [q28.f, eTExpForm_eq, standB]
 refine Ev.bind (find_spec binds hb p hp h1) ?_
 refine Ev.bind (find_spec binds hb f hf f1) ?_
 generalize findB binds p.vText p.vScopes = a
 generalize findB binds f.vText f.vScopes = b
 unfold st2 q28.j5
 by_cases a2 : a.2 = 2
 ·simp only [if_pos a2]
  refine Ev.eq (Ev.now _) ?_
  simp [a2]
 by_cases b2 : b.2 = 2
 ·simp only [if_neg a2, if_pos b2]
  refine Ev.eq (Ev.now _) ?_
  simp [b2]
 by_cases e : a.2 = b.2
 ·simp only [if_neg a2, if_neg b2, if_neg (decide_not_ne e)]
  by_cases a1 : a.2 = 1
  ·have b1 : b.2 = 1 := by omega
   by_cases n : a.1.toList = b.1.toList
   ·simp only [if_pos a1, if_pos n]
    refine Ev.eq (Ev.now _) ?_
    simp [a1, b1, n]
   ·have a0 : ¬ a.2 = 0 := by omega
    simp only [if_pos a1, if_neg n, if_neg a0]
    refine Ev.eq (Ev.now _) ?_
    simp [a1, b1]
    exact fun h => n h.symm
  ·by_cases a0 : a.2 = 0
   ·have b0 : b.2 = 0 := by omega
    simp only [if_neg a1, if_pos a0]
    refine Ev.eq (Ev.now _) ?_
    simp [a0, b0, eq_comm]
   ·simp only [if_neg a1, if_neg a0]
    refine Ev.eq (Ev.now _) ?_
    simp [a1, a0]
 ·simp only [if_neg a2, if_neg b2, if_pos e]
  refine Ev.eq (Ev.now _) ?_
  by_cases a1 : a.2 = 1
  ·have b1 : ¬ b.2 = 1 := by omega
   simp [a1, b1]
  ·by_cases a0 : a.2 = 0
   ·have b0 : ¬ b.2 = 0 := by omega
    simp [a0, b0]
   ·simp [a1, a0]
def wrapF (f : TExpForm) : TExpForm := if f.vSort = 3 ∨ f.vSort = 4 then f else ⟨4, ByteArray.empty, [], 0, [f]⟩
theorem wrap_parts {f : TExpForm} {d : Int} (hok : okf f d = true) (hw : wid f ≤ 500000000) : Ev (fun k => qz.f k (wrapF f)) (ownOf f) := by
 unfold wrapF ownOf
 rcases okf_shape hok with ⟨h, _⟩ | ⟨h, _⟩ | ⟨h, _⟩
 ·have n : ¬ (f.vSort = 3 ∨ f.vSort = 4) := by omega
  simp (disch := simp) only [if_neg n, qz.f, if_pos, List.length_singleton, List.drop_zero]
  exact Ev.now _
 ·have n : ¬ (f.vSort = 3 ∨ f.vSort = 4) := by omega
  simp (disch := simp) only [if_neg n, qz.f, if_pos, List.length_singleton, List.drop_zero]
  exact Ev.now _
 ·have y : f.vSort = 3 ∨ f.vSort = 4 := by omega
  simp only [if_pos y]
  exact parts_spec f (by omega) h
theorem rest_spec {f : TExpForm} {d : Int} (hok : okf f d = true) (hw : wid f ≤ 500000000) (at' : Int) (h0 : 0 ≤ at') (h1 : at' ≤ ((ownOf f).length : Int)) : Ev (fun k => q1k.f k (wrapF f) at') (leftT ((ownOf f).drop at'.toNat) (lastO f)) := by
 have hp := wid_parts f
 rcases okf_shape hok with ⟨h, _⟩ | ⟨h, _⟩ | ⟨h, _⟩
 ·have n : ¬ (f.vSort = 3 ∨ f.vSort = 4) := by omega
  have n3 : ¬ f.vSort = 3 := by omega
  have n4 : ¬ f.vSort = 4 := by omega
  have ho : ownOf f = [] := by unfold ownOf; rw [if_neg n]
  rw [ho] at h1
  have : at' = 0 := by simp at h1; omega
  subst this
  simp only [ho, wrapF, if_neg n, lastO, if_neg n3, if_neg n4, leftT, joinT, List.drop_nil, List.length_nil, if_true, q1k.f, List.length_singleton, eTExpForm_eq]
  exact Ev.now _
 ·have n : ¬ (f.vSort = 3 ∨ f.vSort = 4) := by omega
  have n3 : ¬ f.vSort = 3 := by omega
  have n4 : ¬ f.vSort = 4 := by omega
  have ho : ownOf f = [] := by unfold ownOf; rw [if_neg n]
  rw [ho] at h1
  have : at' = 0 := by simp at h1; omega
  subst this
  simp only [ho, wrapF, if_neg n, lastO, if_neg n3, if_neg n4, leftT, joinT, List.drop_nil, List.length_nil, if_true, q1k.f, List.length_singleton, eTExpForm_eq]
  exact Ev.now _
 ·have y : f.vSort = 3 ∨ f.vSort = 4 := by omega
  have ho : ownOf f = partsOf f := by unfold ownOf; rw [if_pos y]
  have hfull : f.vKids.take (f.vKids.length : Int).toNat = f.vKids := by rw [Int.toNat_natCast, List.take_length]
  have c2 : (f.vKids.length : Int) ≤ (f.vKids.length : Int) := Int.le_refl _
  rw [ho] at h1 ⊢
  rcases h with h3 | ⟨h4, h5⟩
  ·have n4 : ¬ f.vSort = 4 := by omega
   simp only [partsOf, if_neg n4] at h1 ⊢
   simp (disch := first | omega | (simp only [List.length_nil, List.length_drop]; omega)) only [wrapF, if_pos y, q1k.f, if_neg n4, q1k.d3, lastO, if_pos h3, leftT, if_pos, hfull, List.nil_append]
   rw [h3]
   exact Ev.now _
  ·have n3 : ¬ f.vSort = 3 := by omega
   have hks := ends_of h5 h4
   have hpl : (partsOf f).length = f.vKids.length - 1 := by
    simp only [partsOf, if_pos h4, List.length_take]; omega
   simp (disch := omega) only [wrapF, if_pos y, q1k.f, if_pos h4, lastO, if_neg n3, leftT, w64, joinT]
   by_cases hl : (f.vKids.length : Int) ≤ at' + 1
   ·have hz : ((partsOf f).drop at'.toNat).length = 0 := by rw [List.length_drop]; omega
    simp (disch := omega) only [if_pos hl, if_pos, eTExpForm_eq, if_pos hz]
    exact Ev.now _
   ·have hz : ¬ ((partsOf f).drop at'.toNat).length = 0 := by rw [List.length_drop]; omega
    have hls := last_sort hok h4
    have n : ¬ ((lastOf f).vSort = 3 ∨ (lastOf f).vSort = 4) := by omega
    simp (disch := first | omega | (simp only [List.length_nil, List.length_drop]; omega)) only [if_neg hl, if_neg hz, if_neg n, q1k.d3, if_pos, hfull, List.nil_append]
    have hd : f.vKids.drop at'.toNat = (partsOf f).drop at'.toNat ++ [lastOf f] := by
     rw [← hks, List.drop_append_of_le_length (by omega)]
    rw [hd, h4]
    exact Ev.now _
theorem left_wid {f : TExpForm} {d : Int} (hok : okf f d = true) (at' : Int) (h0 : 0 ≤ at') (h1 : at' ≤ ((ownOf f).length : Int)) : wid (leftT ((ownOf f).drop at'.toNat) (lastO f)) ≤ wids ((ownOf f).drop at'.toNat) + (wid f - wids (ownOf f)) ∧ 0 ≤ wid f - wids (ownOf f) := by
 have hp := wid_parts f
 have hq := wid_mk f
 rcases okf_shape hok with ⟨h, _⟩ | ⟨h, _⟩ | ⟨h, _⟩
 ·have n : ¬ (f.vSort = 3 ∨ f.vSort = 4) := by omega
  have n3 : ¬ f.vSort = 3 := by omega
  have n4 : ¬ f.vSort = 4 := by omega
  simp [ownOf, if_neg n, lastO, if_neg n3, if_neg n4, leftT, joinT, wids]
  omega
 ·have n : ¬ (f.vSort = 3 ∨ f.vSort = 4) := by omega
  have n3 : ¬ f.vSort = 3 := by omega
  have n4 : ¬ f.vSort = 4 := by omega
  simp [ownOf, if_neg n, lastO, if_neg n3, if_neg n4, leftT, joinT, wids]
  omega
 ·have y : f.vSort = 3 ∨ f.vSort = 4 := by omega
  have ho : ownOf f = partsOf f := by unfold ownOf; rw [if_pos y]
  rw [ho]
  rcases h with h3 | ⟨h4, h5⟩
  ·have n4 : ¬ f.vSort = 4 := by omega
   simp only [partsOf, if_neg n4, lastO, if_pos h3, leftT]
   rw [wid_c]
   simp
   omega
  ·have n3 : ¬ f.vSort = 3 := by omega
   have hks := ends_of h5 h4
   have hw : wids f.vKids = wids (partsOf f) + wid (lastOf f) := by rw [← hks, wids_append, wids_one]
   have := join_wid ((partsOf f).drop at'.toNat) (lastOf f)
   have := wid_pos (lastOf f)
   simp only [lastO, if_neg n3, if_pos h4, leftT]
   omega
theorem noDup_kid {lits : List TExpForm} : ∀ {l : List TExpForm} {s : List TExpForm}, noDup s (nmss lits l) = true → ∀ x ∈ l, noDup [] (nms lits x) = true
 | y :: l, s, h, x, hx => by
  simp only [nmss] at h
  rw [noDup_append, Bool.and_eq_true] at h
  rcases List.mem_cons.1 hx with rfl | hx
  ·exact noDup_mono _ _ _ (by simp) h.1
  ·exact noDup_kid h.2 x hx
theorem match_spec (lits : List TExpForm) (binds : List TExpBind) (hlit : Sml lits) (hl1 : ∀ x ∈ lits, x.vSort = 1) (hb : SmlB binds) : ∀ (n : Nat) (p : TExpForm) (e : Int) (f : TExpForm), cnt p ≤ (n : Int) → okf p e = true → stOk p = true → noDup [] (nms lits p) = true → (p.vSort = 3 ∨ p.vSort = 4 → ∃ d, okf f d = true) → wid p ≤ 100000000 → wid f ≤ 300000000 →
  ∀ lk fx : List TExpForm, (lk.length : Int) + wid f ≤ 1000000000 → (fx.length : Int) + wid f ≤ 1000000000 → Evs (fun k => qd.f k p f lits binds lk fx) (Fin' lits binds (mtn lits binds n p f) ((lk.length : Int) + wid f) ((fx.length : Int) + wid f)) := by
 intro n
 induction n with
 | zero => intro p e f hc; have := (cnt_pos p).1; omega
 | succ n ih =>
  intro p e f hc hok hst hnd hf hwp hwf lk fx hlk hfx
  have hpp := wid_parts p
  have hpf := wid_parts f
  have hfp := wid_pos f
  refine Evs.shift ?_
  have isB : Evs (fun k => q1y.f k p) (fun r => r = isBlank p) := Evs.of (blank_spec p) rfl
  by_cases h1 : p.vSort = 1
  ·simp only [qd.f, if_pos h1, eTExpForm_eq, mtn, leafM]
   refine Evs.bind (Evs.of (among_spec lits p hlit hl1 h1) (P := fun r => r = inB lits p) rfl) fun r hr => ?_
   subst hr
   simp only [qd.j2b]
   cases inB lits p with
   | true =>
    simp only [if_true]
    by_cases f1 : f.vSort = 1
    ·have g1 : lk.length + 1 ≤ 1759218604441 := by omega
     have g2 : fx.length + 1 ≤ 1759218604441 := by omega
     have g3 : (0 : Int) ≤ (lk.length : Int) := by omega
     have g4 : (0 : Int) ≤ (fx.length : Int) := by omega
     have g5 : ∀ z : TExpForm, (lk.length : Int) < ((lk ++ [z]).length : Int) := fun z => by simp; omega
     have g6 : ∀ z : TExpForm, (fx.length : Int) < ((fx ++ [z]).length : Int) := fun z => by simp; omega
     simp only [if_neg (decide_not_ne f1), if_pos f1, qd.d4, qd.d5, qd.d6, List.length_singleton, if_pos g1, if_pos g2, if_pos g3, if_pos g4, if_pos (g5 _), if_pos (g6 _), put_last, mTExpForm]
     refine Evs.bind (Evs.of (stands_spec binds hb p f h1 f1 (by omega) (by omega)) (P := fun r => r = standB binds p f) rfl) fun r hr => ?_
     subst hr
     cases standB binds p f with
     | true => exact Evs.now ⟨rfl, rfl, rfl, rfl, by show ((lk ++ [f]).length : Int) ≤ _; simp; omega, by show ((fx ++ [p]).length : Int) ≤ _; simp; omega⟩
     | false => exact Evs.now ⟨rfl, rfl, rfl, rfl, by show ((lk ++ [f]).length : Int) ≤ _; simp; omega, by show ((fx ++ [p]).length : Int) ≤ _; simp; omega⟩
    ·simp only [if_pos f1, if_neg f1]
     exact Evs.now ⟨rfl, rfl, rfl, rfl, by show (lk.length : Int) ≤ _; omega, by show (fx.length : Int) ≤ _; omega⟩
   | false =>
    simp only [Bool.false_eq_true, if_false, mTExpForm]
    refine Evs.bind isB fun r hr => ?_
    subst hr
    cases isBlank p with
    | true =>
     simp only [if_true]
     exact Evs.now ⟨rfl, rfl, rfl, rfl, by show (lk.length : Int) ≤ _; omega, by show (fx.length : Int) ≤ _; omega⟩
    | false =>
     simp only [Bool.false_eq_true, if_false, if_pos h1, qd.d10, mTExpForm]
     refine Evs.bind (Evs.of (copy_all p (by omega)) (P := fun r => r = (p.vSort, p.vText, p.vFrom, p.vScopes, p.vKids)) rfl) fun r hr => ?_
     subst hr
     refine Evs.bind (Evs.of (copy_all f (by omega)) (P := fun r => r = (f.vSort, f.vText, f.vFrom, f.vScopes, f.vKids)) rfl) fun r hr => ?_
     subst hr
     simp only [mTExpForm]
     exact Evs.now ⟨rfl, rfl, rfl, rfl, by show (lk.length : Int) ≤ _; omega, by show (fx.length : Int) ≤ _; omega⟩
  have nb : isBlank p = false := by unfold isBlank; rw [decide_eq_false h1]; rfl
  simp only [qd.f, if_neg h1, qd.j2b, Bool.false_eq_true, if_false, mTExpForm]
  refine Evs.bind isB fun r hr => ?_
  rw [nb] at hr
  subst hr
  simp only [Bool.false_eq_true, if_false]
  by_cases h2 : p.vSort = 2
  ·simp only [if_pos h2, qd.d12, mtn, if_neg h1]
   by_cases f2 : f.vSort = 2
   ·simp only [if_pos f2]
    by_cases t : f.vText.toList = p.vText.toList
    ·simp only [if_pos t, decide_eq_true t]
     exact Evs.now ⟨rfl, rfl, rfl, rfl, by show (lk.length : Int) ≤ _; omega, by show (fx.length : Int) ≤ _; omega⟩
    ·simp only [if_neg t, decide_eq_false t]
     exact Evs.now ⟨rfl, rfl, rfl, rfl, by show (lk.length : Int) ≤ _; omega, by show (fx.length : Int) ≤ _; omega⟩
   ·simp only [if_neg f2]
    exact Evs.now ⟨rfl, rfl, rfl, rfl, by show (lk.length : Int) ≤ _; omega, by show (fx.length : Int) ≤ _; omega⟩
  simp only [if_neg h2]
  have P := patL lits hok hst h1 h2
  obtain ⟨d, hokf⟩ := hf (by have := P.sh; omega)
  have hnpl := nP_dots (partsOf p)
  have hdp := (dotsN_pos (partsOf p)).1
  have hoks : ∀ y ∈ ownOf f, okf y (d + 1) = true ∧ wid y ≤ 300000000 := by
   intro y hy
   unfold ownOf at hy
   split at hy
   ·rename_i hs
    have hmem : y ∈ f.vKids := by
     unfold partsOf at hy
     split at hy
     ·exact List.mem_of_mem_take hy
     ·exact hy
    have hwy := wids_mem hmem
    rcases okf_shape hokf with ⟨h', _⟩ | ⟨h', _⟩ | ⟨_, h'⟩
    ·omega
    ·omega
    ·exact ⟨okfs_mem' h' y hmem, by omega⟩
   ·cases hy
  have hown : ((ownOf f).length : Int) ≤ 500000000 := by
   unfold ownOf
   split
   ·unfold partsOf
    split
    ·rw [List.length_take]; omega
    ·omega
   ·simp
  have hrep := repF_ok P.one P.head
  have hrs := rep_spec (partsOf p) (by have := P.plen; omega) P.one P.head
  generalize repF 0 (-1) (partsOf p) = rep at hrep hrs
  have hpl := P.plen
  have hpw := P.pwid
  have hnm := (nmss_facts lits (partsOf p)).1
  have hck : cnt p = 1 + cnts p.vKids := cnt_mk p
  have hndk : noDup [] (nmss lits p.vKids) = true := by rw [nms_mk, if_neg h1] at hnd; exact hnd
  have hsub : ∀ x ∈ p.vKids, cnt x ≤ (n : Int) ∧ wid x ≤ 100000000 := fun x hx => ⟨by have := cnt_mem hx; omega, by have := wids_mem hx; omega⟩
  have hlenm : ∀ x ∈ p.vKids, isDots x = false → ∀ f' g, mtn lits binds n x f' = some g → g.length = (nms lits x).length := fun x hx hd f' g hg => mtn_len lits binds n x (e + 1) f' g (P.kids x hx).1 (P.kids x hx).2 hd hg
  have hm : ∀ x ∈ partsOf p, isDots x = false → ∀ y ∈ ownOf f, ∀ lk fx : List TExpForm, (lk.length : Int) + wid y ≤ 1000000000 → (fx.length : Int) + wid y ≤ 1000000000 → Evs (fun k => qd.f k x y lits binds lk fx) (Fin' lits binds (mtn lits binds n x y) ((lk.length : Int) + wid y) ((fx.length : Int) + wid y)) := by
   intro x hx hd y hy lk fx g1 g2
   have hx' := P.sub x hx
   exact ih x (e + 1) y (hsub x hx').1 (P.kids x hx').1 (P.kids x hx').2 (noDup_kid hndk x hx') (fun _ => ⟨d + 1, (hoks y hy).1⟩) (hsub x hx').2 (hoks y hy).2 lk fx g1 g2
  have hpr := parts_spec p (by omega) P.sh
  have hFs : (wrapF f).vSort = 3 ↔ f.vSort = 3 := by
   unfold wrapF
   split
   ·exact Iff.rfl
   ·constructor
    ·intro h; cases h
    ·intro h; omega
  have hlw0 := (left_wid hokf 0 (by omega) (by omega)).2
  have fine : badL p f = false → ∀ more : Int, (0 ≤ rep → more = ((ownOf f).length : Int) - (((partsOf p).length : Int) - 2)) → Evs (fun k => q6.l14 k (partsOf p) (ownOf f) rep more 0 0 lits binds p.vSort p.vKids (wrapF f).vSort (wrapF f).vText (wrapF f).vScopes (wrapF f).vFrom (wrapF f).vKids [] lk fx) (Fin' lits binds (mtn lits binds (n + 1) p f) ((lk.length : Int) + wid f) ((fx.length : Int) + wid f)) := by
   intro hbad more hmore
   have hle : (nP (partsOf p) : Int) - dotsN (partsOf p) ≤ ((ownOf f).length : Int) := by
    unfold badL at hbad
    simp only [Bool.or_eq_false_iff, decide_eq_false_iff_not] at hbad
    have := hbad.2.1
    unfold least at this
    omega
   have hres : mtn lits binds (n + 1) p f = (seqM (mtn lits binds n) (nd1 lits) (partsOf p) (ownOf f)).bind fun q => if p.vSort = 4 then (mtn lits binds n (lastOf p) (leftT q.2 (lastO f))).map (q.1 ++ ·) else some q.1 := by
    simp only [mtn, if_neg h1, if_neg h2, listM, hbad, Bool.false_eq_true, if_false]
   rw [hres]
   refine seq_spec (partsOf p) (ownOf f) rep more lits binds p.vSort p.vKids (wrapF f) (mtn lits binds n) hown (by omega) hrep P.one P.head hmore hm ?_ (fun x hx hd f' g hg => hlenm x (P.sub x hx) hd f' g hg) (by omega) _ (wid f - wids (ownOf f)) _ _ hlw0 hlk hfx ?_ hle lk fx (by omega) (by omega)
   ·intro x hx hd ys hys hysl n1 n2 lk fx g1 g2 g3 g4
    have hx' := P.sub x hx
    exact many_spec lits binds hlit hl1 x (e + 1) (P.kids x hx').1 (P.kids x hx').2 (hsub x hx').2 (noDup_kid hndk x hx') hd ys hysl (mtn lits binds n x) (fun y hy => hm x hx hd y (hys y hy)) (fun f' g hg => hlenm x hx' hd f' g hg) n1 n2 g1 g2 lk fx g3 g4
   ·intro at' a1 lk' fx' g1 g2 g3 g4 g5
    have nl : ¬ ((partsOf p).length : Int) < ((partsOf p).length : Int) := Int.lt_irrefl _
    refine Evs.shift ?_
    have hwd := (wids_len ((ownOf f).drop at'.toNat)).1
    have hlw := (left_wid hokf at' g1 g2).1
    have hdl := wids_append ((ownOf f).take at'.toNat) ((ownOf f).drop at'.toNat)
    rw [List.take_append_drop] at hdl
    have hdl2 := (wids_len ((ownOf f).take at'.toNat)).1
    by_cases s3 : p.vSort = 3
    ·have n4 : ¬ p.vSort = 4 := by omega
     simp only [q6.l14, if_neg nl, if_pos s3, if_neg n4]
     exact Evs.now ⟨rfl, rfl, rfl, rfl, by show (lk'.length : Int) ≤ _; omega, by show (fx'.length : Int) ≤ _; omega⟩
    ·have s4 : p.vSort = 4 := by have := P.sh; omega
     obtain ⟨l1, l2, l3, _⟩ := P.fin s4
     have hkl : 2 ≤ (p.vKids.length : Int) := by have := P.sh; omega
     have hrest := rest_spec hokf (by omega) at' g1 g2
     have hlast : rdAt zTExpForm p.vKids ((p.vKids.length : Int) - 1) = lastOf p := rfl
     obtain ⟨r, hr, hev⟩ := ih (lastOf p) (e + 1) (leftT ((ownOf f).drop at'.toNat) (lastO f)) (hsub _ l2).1 (P.kids _ l2).1 (P.kids _ l2).2 (noDup_kid hndk _ l2) (fun h => by omega) (hsub _ l2).2 (by omega) lk' fx' (by omega) (by omega)
     obtain ⟨ok, li, bi, go, lk2, fx2⟩ := r
     obtain ⟨r1, r2, r3, r4, r5, r6⟩ := hr
     simp only at r1 r2 r3 r4 r5 r6
     have w1 : IntKind.i64.wrap ((p.vKids.length : Int) - 1) = (p.vKids.length : Int) - 1 := w64 (by omega) (by omega)
     have c1 : 0 ≤ (p.vKids.length : Int) - 1 := by omega
     have c2 : (p.vKids.length : Int) - 1 < (p.vKids.length : Int) := by omega
     simp only [q6.l14, if_neg nl, if_neg s3, if_pos s4, q6.d29b, q6.d29_0b, q6.d29_1b, w1, if_pos c1, if_pos c2, hlast, eTExpForm_eq, mTExpForm]
     have hgl := hlenm (lastOf p) l2 l1 (leftT ((ownOf f).drop at'.toNat) (lastO f))
     have hnl := (nms_facts lits (lastOf p)).1
     have hwl := (hsub _ l2).2
     generalize mtn lits binds n (lastOf p) (leftT ((ownOf f).drop at'.toNat) (lastO f)) = o at r1 r4 hgl
     subst r2 r3
     cases o with
     | none =>
      have r1 : ok = false := r1
      have r4 : go = [] := r4
      subst r1 r4
      refine ⟨(false, li, bi, [], lk2, fx2), ⟨rfl, rfl, rfl, rfl, by show (lk2.length : Int) ≤ _; omega, by show (fx2.length : Int) ≤ _; omega⟩, same2_ev ?_ ?_⟩
      ·refine Ev.bind hrest ?_
       refine Ev.bind hev ?_
       simp only [Bool.false_eq_true, not_false_eq_true, if_true]
       exact Ev.now _
      ·refine Ev.bind hrest ?_
       refine Ev.bind hev ?_
       simp only [Bool.false_eq_true, not_false_eq_true, if_true]
       exact Ev.now _
     | some g =>
      have r1 : ok = true := r1
      have r4 : go = g := r4
      subst r1 r4
      have hg := hgl go rfl
      have hc : a1.length + go.length ≤ 733007751850 := by omega
      refine ⟨(true, li, bi, a1 ++ go, lk2, fx2), ⟨rfl, rfl, rfl, rfl, by show (lk2.length : Int) ≤ _; omega, by show (fx2.length : Int) ≤ _; omega⟩, same2_ev ?_ ?_⟩
      ·refine Ev.bind hrest ?_
       refine Ev.bind hev ?_
       simp only [not_true, if_false, if_pos hc]
       exact Ev.now _
      ·refine Ev.bind hrest ?_
       refine Ev.bind hev ?_
       simp only [not_true, if_false, if_pos hc]
       exact Ev.now _
  have fail : badL p f = true → Evs (fun _ => some (false, lits, binds, ([] : GL), lk, fx)) (Fin' lits binds (mtn lits binds (n + 1) p f) ((lk.length : Int) + wid f) ((fx.length : Int) + wid f)) := by
   intro hbad
   have hres : mtn lits binds (n + 1) p f = none := by
    simp only [mtn, if_neg h1, if_neg h2, listM, hbad, if_true]
   rw [hres]
   exact Evs.now ⟨rfl, rfl, rfl, rfl, by show (lk.length : Int) ≤ _; omega, by show (fx.length : Int) ≤ _; omega⟩
  have chk : ∀ more : Int, (0 ≤ rep → more = ((ownOf f).length : Int) - (((partsOf p).length : Int) - 2)) → (rep < 0 → more = 0) → Evs (fun k => q6.j9 k (partsOf p) (ownOf f) rep more lits binds p.vSort p.vKids (wrapF f).vSort (wrapF f).vText (wrapF f).vScopes (wrapF f).vFrom (wrapF f).vKids lk fx) (Fin' lits binds (mtn lits binds (n + 1) p f) ((lk.length : Int) + wid f) ((fx.length : Int) + wid f)) := by
   intro more hm1 hm2
   have fin := fun h => fine h more hm1
   have hpos := hrep.pos
   have hone := P.one
   simp only [q6.j9, q6.j9b, q6.j10b, if_true, Bool.false_eq_true, if_false]
   by_cases s3 : p.vSort = 3
   ·by_cases f3 : f.vSort = 3
    ·have F3 : (wrapF f).vSort = 3 := hFs.2 f3
     simp only [if_pos s3, if_neg (decide_not_ne F3)]
     by_cases c : rep < 0
     ·have z : dotsN (partsOf p) = 0 := by omega
      have hm := hm2 c
      have hl : least p = ((partsOf p).length : Int) := by unfold least; omega
      have hbad : badL p f = (decide (((ownOf f).length : Int) < ((partsOf p).length : Int)) || decide (((partsOf p).length : Int) < ((ownOf f).length : Int))) := by
       unfold badL; rw [hl]; simp [s3, f3, z]
      have n0 : ¬ more < 0 := by omega
      simp only [if_pos c, if_neg n0]
      by_cases c1 : ((ownOf f).length : Int) < ((partsOf p).length : Int)
      ·simp only [if_pos c1]; exact fail (by rw [hbad]; simp [c1])
      ·simp only [if_neg c1]
       by_cases c2 : ((partsOf p).length : Int) < ((ownOf f).length : Int)
       ·simp only [decide_eq_true c2, if_true]; exact fail (by rw [hbad]; simp [c2])
       ·simp only [decide_eq_false c2, Bool.false_eq_true, if_false]; exact fin (by rw [hbad, decide_eq_false c1, decide_eq_false c2]; rfl)
     ·have z : ¬ dotsN (partsOf p) = 0 := by omega
      have hm := hm1 (by omega)
      have hl : least p = ((partsOf p).length : Int) - 2 := by unfold least; omega
      have hbad : badL p f = decide (((ownOf f).length : Int) < ((partsOf p).length : Int) - 2) := by
       unfold badL; rw [hl]; simp [s3, f3, z]
      simp only [if_neg c]
      by_cases c1 : more < 0
      ·simp only [if_pos c1]; exact fail (by rw [hbad]; simp; omega)
      ·simp only [if_neg c1]; exact fin (by rw [hbad]; simp; omega)
    ·have F3 : ¬ (wrapF f).vSort = 3 := fun h => f3 (hFs.1 h)
     have hbad : badL p f = true := by unfold badL; simp [s3, f3]
     simp only [if_pos s3, if_pos F3, ite_self]
     exact fail hbad
   ·have hbad : badL p f = decide (((ownOf f).length : Int) < least p) := by
     unfold badL; simp [s3]
    simp only [if_neg s3]
    by_cases c : rep < 0
    ·have hm := hm2 c
     have n0 : ¬ more < 0 := by omega
     have hl : least p = ((partsOf p).length : Int) := by unfold least; omega
     simp only [if_pos c, if_neg n0]
     by_cases c1 : ((ownOf f).length : Int) < ((partsOf p).length : Int)
     ·simp only [if_pos c1]; exact fail (by rw [hbad, hl]; simp [c1])
     ·simp only [if_neg c1]; exact fin (by rw [hbad, hl, decide_eq_false c1])
    ·have hm := hm1 (by omega)
     have hl : least p = ((partsOf p).length : Int) - 2 := by unfold least; omega
     simp only [if_neg c]
     by_cases c1 : more < 0
     ·simp only [if_pos c1]; exact fail (by rw [hbad, hl]; simp; omega)
     ·simp only [if_neg c1]; exact fin (by rw [hbad, hl]; simp; omega)
  have body : Evs (fun k => q6.j3 k lits binds p.vSort p.vText p.vScopes p.vFrom p.vKids (wrapF f).vSort (wrapF f).vText (wrapF f).vScopes (wrapF f).vFrom (wrapF f).vKids lk fx) (Fin' lits binds (mtn lits binds (n + 1) p f) ((lk.length : Int) + wid f) ((fx.length : Int) + wid f)) := by
   simp only [q6.j3, q6.j3b, mTExpForm]
   refine Evs.bind (Evs.of hpr (P := fun r => r = partsOf p) rfl) fun r hr => ?_
   subst hr
   refine Evs.bind (Evs.of (wrap_parts hokf (by omega)) (P := fun r => r = ownOf f) rfl) fun r hr => ?_
   subst hr
   refine Evs.bind (Evs.of (r := rep) ?_ (P := fun r => r = rep) rfl) fun r hr => ?_
   ·simp only [qr.f, eTExpForm_eq]
    exact Ev.bind hpr hrs
   subst hr
   have hpos := hrep.pos
   by_cases c : 0 ≤ r
   ·have w1 : IntKind.i64.wrap (((partsOf p).length : Int) - 2) = ((partsOf p).length : Int) - 2 := w64 (by omega) (by omega)
    have w2 : IntKind.i64.wrap (((ownOf f).length : Int) - (((partsOf p).length : Int) - 2)) = ((ownOf f).length : Int) - (((partsOf p).length : Int) - 2) := w64 (by omega) (by omega)
    simp only [if_pos c, w1, w2]
    exact chk _ (fun _ => rfl) (fun h => by omega)
   ·simp only [if_neg c]
    exact chk 0 (fun h => by omega) (fun _ => rfl)
  have list : Evs (fun k => q6.f k p f lits binds lk fx) (Fin' lits binds (mtn lits binds (n + 1) p f) ((lk.length : Int) + wid f) ((fx.length : Int) + wid f)) := by
   refine Evs.shift ?_
   by_cases f3 : f.vSort = 3
   ·have hw : wrapF f = f := by unfold wrapF; rw [if_pos (Or.inl f3)]
    rw [hw] at body
    simp only [q6.f, if_neg (decide_not_ne f3)]
    exact body
   ·by_cases f4 : f.vSort = 4
    ·have hw : wrapF f = f := by unfold wrapF; rw [if_pos (Or.inr f4)]
     rw [hw] at body
     simp only [q6.f, if_pos f3, if_neg (decide_not_ne f4)]
     exact body
    ·have hw : wrapF f = ⟨4, ByteArray.empty, [], 0, [f]⟩ := by unfold wrapF; rw [if_neg (by omega)]
     rw [hw] at body
     simp only [q6.f, if_pos f3, if_pos f4, eTExpForm_eq]
     exact body
  refine Evs.bind list fun r hr => ?_
  exact Evs.now ⟨hr.ok, hr.li, hr.bi, hr.go, hr.b1, hr.b2⟩
end Go.Proofs.YtmcbhnbemhfifaaGreatDoor.RX
end
section
namespace Go.Proofs.YtmcbhnbemhfifaaGreatDoor.RX
open Go K
set_option autoImplicit false
set_option linter.unusedVariables false
set_option linter.unusedSimpArgs false
def getI : Int → GL → TExpForm → Int
 | _, [], _ => -1
 | i, g :: l, x => if sameB g.vName x then i else getI (i + 1) l x
def SmlG (l : GL) : Prop := (l.length : Int) ≤ 1000000000 ∧ ∀ g ∈ l, wid g.vName ≤ 1000000000
theorem get_impl (l : GL) (x : TExpForm) (hl : SmlG l) : Ev (fun k => q1l.f k l x) (getI 0 l x) := by
 obtain ⟨hn, hs⟩ := hl
 simp only [q1l.f]
 refine goList l (P := fun i suf => Ev (fun k => q1l.l2 k l (l.length : Int) i x.vSort x.vText x.vScopes x.vFrom x.vKids) (getI i suf x)) ?_ ?_
 ·refine Ev.shift ?_
  simp (disch := omega) only [q1l.l2, if_neg]; exact Ev.now _
 ·intro i y r i0 i1 hx hm _ _ _ ih
  refine Ev.shift ?_
  simp (disch := omega) only [q1l.l2, if_pos, w64, hx, eTExpForm_eq, mTExpForm, getI]
  refine Ev.bind (same_impl y.vName x (hs y hm)) ?_
  cases sameB y.vName x with
  | true => simp only [if_true]; exact Ev.now _
  | false => simp only [Bool.false_eq_true, if_false]; exact ih
theorem getI_name : ∀ (l m : GL) (i : Int) (x : TExpForm), l.map (fun g => g.vName) = m.map (fun g => g.vName) → getI i l x = getI i m x
 | [], [], _, _, _ => rfl
 | [], _ :: _, _, _, h => by simp at h
 | _ :: _, [], _, _, h => by simp at h
 | a :: l, b :: m, i, x, h => by
  simp only [List.map_cons, List.cons.injEq] at h
  simp only [getI, h.1, getI_name l m (i + 1) x h.2]
theorem forms_impl : ∀ (x : TExpForm), wid x ≤ 1000000000 → Ev (fun k => q12.f k x.vKids) (cnts x.vKids) := by
 refine indForm fun x ih hw => ?_
 have hp := wid_parts x
 refine Ev.shift ?_
 simp only [q12.f]
 refine Ev.eq (goList x.vKids (P := fun i suf => ∀ c : Int, 0 ≤ c → c + wids suf ≤ 1000000000 → Ev (fun k => q12.l3 k c x.vKids (x.vKids.length : Int) i) (c + cnts suf)) ?_ ?_ 0 (by omega) (by omega)) (by omega)
 ·intro c _ _
  refine Ev.shift ?_
  simp (disch := omega) only [q12.l3, if_neg, cnts, Int.add_zero]; exact Ev.now _
 ·intro i y r i0 i1 hx hm _ _ _ ihr c c0 hc
  have hy := wids_mem hm
  have hyp := wid_parts y
  have hcy := cnts_le y.vKids
  have hwr := (wids_len r).1
  simp only [wids] at hc
  refine Ev.shift ?_
  simp (disch := omega) only [q12.l3, if_pos, hx]
  refine Ev.bind (ih y hm (by omega)) ?_
  simp (disch := omega) only [w64]
  refine (ihr (c + (1 + cnts y.vKids)) (by omega) (by omega)).eq ?_
  simp only [cnts, cnt_mk]; omega
theorem count_impl' (x : TExpForm) (c : Int) (hw : wid x ≤ 1000000000) (h0 : 0 ≤ c) (hc : c ≤ 1000000000) : Ev (fun k => q22.f k x c false) (x, c + cnt x, decide (6000 < c + cnt x)) := by
 have hp := wid_parts x
 have hcx := cnt_pos x
 have hk := cnts_le x.vKids
 have hm := cnt_mk x
 simp only [q22.f, q22.d1, mTExpForm]
 refine Ev.bind (r := cnt x) ?_ ?_
 ·refine Ev.shift ?_
  simp only [q12.f]
  refine Ev.shift ?_
  simp (disch := simp) only [q12.l3, if_pos, List.length_singleton]
  rw [show rdAt zTExpForm [x] 0 = x from rfl]
  refine Ev.bind (forms_impl x hw) ?_
  simp (disch := omega) only [w64]
  refine Ev.shift ?_
  simp (disch := simp) only [q12.l3, if_neg, List.length_singleton]
  refine Ev.eq (Ev.now _) (by omega)
 ·simp (disch := omega) only [Bool.false_eq_true, if_false, w64]
  exact Ev.now _
def addK : List Int → List Int → List Int
 | ks, [] => ks
 | ks, i :: l => addK (mKs (mIdxI ks i) ks i) l
theorem mIdxI_mem : ∀ (ks : List Int) (i : Int), (mIdxI ks i = none ∧ i ∉ ks) ∨ ((∃ n, mIdxI ks i = some n) ∧ i ∈ ks)
 | [], i => .inl ⟨rfl, by simp⟩
 | x :: l, i => by
  simp only [mIdxI]
  by_cases h : x = i
  ·rw [if_pos h]; exact .inr ⟨⟨0, rfl⟩, by simp [h]⟩
  ·rw [if_neg h]
   rcases mIdxI_mem l i with ⟨h1, h2⟩ | ⟨⟨n, h1⟩, h2⟩
   ·refine .inl ⟨by rw [h1]; rfl, ?_⟩
    rw [List.mem_cons]
    rintro (e | e)
    ·exact h e.symm
    ·exact h2 e
   ·exact .inr ⟨⟨n + 1, by rw [h1]; rfl⟩, List.mem_cons_of_mem _ h2⟩
theorem mKs_mem (ks : List Int) (i j : Int) : j ∈ mKs (mIdxI ks i) ks i ↔ j ∈ ks ∨ j = i := by
 rcases mIdxI_mem ks i with ⟨h1, h2⟩ | ⟨⟨n, h1⟩, h2⟩
 ·rw [h1]; simp [mKs]
 ·rw [h1]
  simp only [mKs]
  constructor
  ·exact fun h => .inl h
  ·rintro (h | h)
   ·exact h
   ·rw [h]; exact h2
theorem mKs_nodup (ks : List Int) (i : Int) (h : ks.Nodup) : (mKs (mIdxI ks i) ks i).Nodup := by
 rcases mIdxI_mem ks i with ⟨h1, h2⟩ | ⟨⟨n, h1⟩, h2⟩
 ·rw [h1]
  simp only [mKs]
  rw [List.nodup_append]
  refine ⟨h, by simp, ?_⟩
  intro a ha b hb
  rw [List.mem_singleton.1 hb]
  intro e
  exact h2 (e ▸ ha)
 ·rw [h1]; exact h
theorem addK_mem : ∀ (l ks : List Int) (j : Int), j ∈ addK ks l ↔ j ∈ ks ∨ j ∈ l
 | [], ks, j => by simp [addK]
 | i :: l, ks, j => by
  simp only [addK, addK_mem l, mKs_mem, List.mem_cons]
  constructor
  ·rintro ((h | h) | h)
   ·exact .inl h
   ·exact .inr (.inl h)
   ·exact .inr (.inr h)
  ·rintro (h | h | h)
   ·exact .inl (.inl h)
   ·exact .inl (.inr h)
   ·exact .inr h
theorem addK_nodup : ∀ (l ks : List Int), ks.Nodup → (addK ks l).Nodup
 | [], ks, h => h
 | i :: l, ks, h => addK_nodup l _ (mKs_nodup ks i h)
theorem addK_append : ∀ (l m ks : List Int), addK ks (l ++ m) = addK (addK ks l) m
 | [], m, ks => rfl
 | i :: l, m, ks => by simp only [List.cons_append, addK, addK_append l m]
def mo (R mny : Int) : List TExpForm → Int
 | [] => mny
 | _ :: _ => R
theorem mo_append (R mny : Int) (a b : List TExpForm) : mo R mny (a ++ b) = mo R (mo R mny a) b := by
 cases a <;> cases b <;> rfl
theorem ids_impl (G : GL) (hG : SmlG G) (R c : Int) : ∀ (p : TExpForm) (e : Int), okf p e = true → wid p ≤ 1000000000 → (∀ x ∈ nms [] p, 0 ≤ getI 0 G x ∧ getI 0 G x < (G.length : Int) ∧ ¬ (rdAt zTExpGot G (getI 0 G x)).vDeep = 0 ∧ ((rdAt zTExpGot G (getI 0 G x)).vMany.length : Int) = R) →
  ∀ (mny : Int) (ks : List Int) (vs : List Bool), (0 ≤ mny → mny = R) → Evs (fun k => qk.f k p G mny ks vs c false) (fun r => r.1 = G ∧ r.2.1 = mo R mny (nms [] p) ∧ r.2.2.1 = addK ks ((nms [] p).map (getI 0 G)) ∧ r.2.2.2.2 = (c, false)) := by
 refine indForm fun p ih e hok hw hn mny ks vs hmn => ?_
 have hp := wid_parts p
 have hkid : ¬ p.vSort = 1 → ∀ x ∈ p.vKids, okf x (e + 1) = true := by
  intro h1 x hx
  rcases okf_shape hok with ⟨h, _⟩ | ⟨_, h⟩ | ⟨_, h⟩
  ·exact absurd h h1
  ·rw [h] at hx; cases hx
  ·exact okfs_mem' h x hx
 have loop : ∀ (mny : Int) (ks : List Int) (vs : List Bool), (0 ≤ mny → mny = R) → (∀ x ∈ nmss [] p.vKids, 0 ≤ getI 0 G x ∧ getI 0 G x < (G.length : Int) ∧ ¬ (rdAt zTExpGot G (getI 0 G x)).vDeep = 0 ∧ ((rdAt zTExpGot G (getI 0 G x)).vMany.length : Int) = R) →
   (∀ x ∈ p.vKids, okf x (e + 1) = true) → Evs (fun k => qk.j3 k G mny ks vs c false p.vKids) (fun r => r.1 = G ∧ r.2.1 = mo R mny (nmss [] p.vKids) ∧ r.2.2.1 = addK ks ((nmss [] p.vKids).map (getI 0 G)) ∧ r.2.2.2.2 = (c, false)) := by
  intro mny ks vs hmn hns hks
  simp only [qk.j3, qk.j3b]
  refine goList p.vKids (P := fun i suf => (∀ x ∈ nmss [] suf, 0 ≤ getI 0 G x ∧ getI 0 G x < (G.length : Int) ∧ ¬ (rdAt zTExpGot G (getI 0 G x)).vDeep = 0 ∧ ((rdAt zTExpGot G (getI 0 G x)).vMany.length : Int) = R) → ∀ (mny : Int) (ks : List Int) (vs : List Bool), (0 ≤ mny → mny = R) → Evs (fun k => qk.l4 k p.vKids (p.vKids.length : Int) i G mny ks vs c false) (fun r => r.1 = G ∧ r.2.1 = mo R mny (nmss [] suf) ∧ r.2.2.1 = addK ks ((nmss [] suf).map (getI 0 G)) ∧ r.2.2.2.2 = (c, false))) ?_ ?_ hns mny ks vs hmn
  ·intro _ mny ks vs _
   refine Evs.shift ?_
   simp (disch := omega) only [qk.l4, if_neg]
   exact Evs.now ⟨rfl, rfl, rfl, rfl⟩
  ·intro i x r i0 i1 hx hm _ _ _ ihr hns mny ks vs hmn
   simp only [nmss] at hns
   refine Evs.shift ?_
   simp (disch := omega) only [qk.l4, if_pos, hx, eTExpForm_eq, w64]
   refine Evs.bind (ih x hm (e + 1) (hks x hm) (by have := wids_mem hm; omega) (fun y hy => hns y (List.mem_append_left _ hy)) mny ks vs hmn) ?_
   rintro ⟨G', mn', ks', vs', c', b'⟩ ⟨e1, e2, e3, e4⟩
   simp only [Prod.mk.injEq] at e1 e2 e3 e4
   obtain ⟨e4, e5⟩ := e4
   subst e1 e4 e5
   refine (ihr (fun y hy => hns y (List.mem_append_right _ hy)) mn' ks' vs' (fun h => ?_)).mono ?_
   ·rw [e2] at h ⊢
    cases hnx : nms [] x with
    | nil => rw [hnx] at h; exact hmn h
    | cons a l => rfl
   ·rintro r ⟨h1, h2, h3, h4⟩
    refine ⟨h1, ?_, ?_, h4⟩
    ·rw [h2, e2]
     simp only [nmss, mo_append]
    ·rw [h3, e3]
     simp only [nmss, List.map_append, addK_append]
 refine Evs.shift ?_
 by_cases h1 : p.vSort = 1
 ·have hk : p.vKids = [] := by
   rcases okf_shape hok with ⟨_, k⟩ | ⟨_, k⟩ | ⟨h', _⟩
   ·exact k
   ·exact k
   ·omega
  have b1 : (p.vText.toList = (ByteArray.mk #[46, 46, 46]).toList) ↔ bytesOf p.vText = [46, 46, 46] := lit_eq _ _ (by decide)
  have b2 : (p.vText.toList = (ByteArray.mk #[95]).toList) ↔ bytesOf p.vText = [95] := lit_eq _ _ (by decide)
  have e1 : isDots p = decide (bytesOf p.vText = [46, 46, 46]) := by simp [isDots, h1]
  have e2 : isBlank p = decide (bytesOf p.vText = [95]) := by simp [isBlank, h1]
  have rest : ∀ (mny : Int) (ks : List Int) (vs : List Bool), Evs (fun k => qk.j3 k G mny ks vs c false p.vKids) (fun r => r = (G, mny, ks, vs, c, false)) := by
   intro mny ks vs
   rw [hk]
   simp only [qk.j3, qk.j3b]
   refine Evs.shift ?_
   simp (disch := simp) only [qk.l4, if_neg]
   exact Evs.now rfl
  have fin : ∀ (g : Nat → Option (GL × Int × List Int × List Bool × Int × Bool)) (mny' : Int) (ks' : List Int), Evs g (fun r => r.1 = G ∧ r.2.1 = mny' ∧ r.2.2.1 = ks' ∧ r.2.2.2.2 = (c, false)) → Evs (fun k => (g k).bind fun r1 => qk.j3 k r1.1 r1.2.1 r1.2.2.1 r1.2.2.2.1 r1.2.2.2.2.1 r1.2.2.2.2.2 p.vKids) (fun r => r.1 = G ∧ r.2.1 = mny' ∧ r.2.2.1 = ks' ∧ r.2.2.2.2 = (c, false)) := by
   intro g mny' ks' hg
   refine Evs.bind hg ?_
   rintro ⟨G', mn', ks2, vs', c', b'⟩ ⟨q1, q2, q3, q4⟩
   simp only [Prod.mk.injEq] at q1 q2 q3 q4
   obtain ⟨q4, q5⟩ := q4
   subst q1 q2 q3 q4 q5
   refine (rest mn' ks2 vs').mono ?_
   rintro r rfl
   exact ⟨rfl, rfl, rfl, rfl⟩
  have main : Evs (fun k => q1r.f k p G mny ks vs c false) (fun r => r.1 = G ∧ r.2.1 = mo R mny (nms [] p) ∧ r.2.2.1 = addK ks ((nms [] p).map (getI 0 G)) ∧ r.2.2.2.2 = (c, false)) := by
   have hb : inB [] p = false := rfl
   rw [nms_mk, if_pos h1, e1, e2, hb] at hn ⊢
   simp only [q1r.f]
   by_cases d1 : bytesOf p.vText = [46, 46, 46]
   ·simp only [if_pos (b1.2 d1), decide_eq_true d1, Bool.true_or, if_true]
    exact Evs.now ⟨rfl, rfl, rfl, rfl⟩
   have d1' : ¬ p.vText.toList = (ByteArray.mk #[46, 46, 46]).toList := fun h => d1 (b1.1 h)
   by_cases d2 : bytesOf p.vText = [95]
   ·simp only [if_neg d1', if_pos (b2.2 d2), decide_eq_true d2, Bool.true_or, Bool.or_true, if_true]
    exact Evs.now ⟨rfl, rfl, rfl, rfl⟩
   have d2' : ¬ p.vText.toList = (ByteArray.mk #[95]).toList := fun h => d2 (b2.1 h)
   simp only [decide_eq_false d1, decide_eq_false d2, Bool.or_false, Bool.false_eq_true, if_false] at hn ⊢
   obtain ⟨i0, i1, i2, i3⟩ := hn p (by simp)
   simp only [if_neg d1', if_neg d2', q1r.j2, mTExpForm]
   refine Evs.bind (Evs.of (get_impl G p hG) (P := fun r => r = getI 0 G p) rfl) fun r hr => ?_
   subst hr
   have n0 : ¬ getI 0 G p < 0 := by omega
   simp only [if_neg n0, if_pos i0, if_pos i1, if_neg i2, q1r.j4, i3, List.map_cons, List.map_nil, addK, mo]
   by_cases hm0 : 0 ≤ mny
   ·have := hmn hm0
    subst this
    simp only [if_pos hm0, not_true, if_false]
    exact Evs.now ⟨rfl, rfl, rfl, rfl⟩
   ·simp only [if_neg hm0]
    exact Evs.now ⟨rfl, rfl, rfl, rfl⟩
  simp only [qk.f, if_pos h1, eTExpForm_eq]
  exact fin _ _ _ main
 ·rw [nms_mk, if_neg h1] at hn ⊢
  simp only [qk.f, if_neg h1]
  exact loop mny ks vs hmn hn (hkid h1)
end Go.Proofs.YtmcbhnbemhfifaaGreatDoor.RX
end
section
namespace Go.Proofs.YtmcbhnbemhfifaaGreatDoor.RX
open Go K
set_option autoImplicit false
set_option linter.unusedVariables false
set_option linter.unusedSimpArgs false
theorem pickAll_ev {α : Type} {r : α} (rest : List Int) (hne : rest ≠ []) (F : Nat → Int → List Int → Option α) (h : ∀ c ∈ rest, Ev (fun k => F k c (rest.filter fun x => decide (x ≠ c))) r) : Ev (fun k => pickAll rest (F k)) r := by
 have all : ∀ l : List Int, (∀ c ∈ l, Ev (fun k => F k c (rest.filter fun x => decide (x ≠ c))) r) → ∃ K, ∀ k, K ≤ k → ∀ c ∈ l, F k c (rest.filter fun x => decide (x ≠ c)) = some r := by
  intro l
  induction l with
  | nil => exact fun _ => ⟨0, fun _ _ c hc => by cases hc⟩
  | cons a l ih =>
   intro hl
   obtain ⟨K1, h1⟩ := hl a (by simp)
   obtain ⟨K2, h2⟩ := ih fun c hc => hl c (by simp [hc])
   refine ⟨max K1 K2, fun k hk c hc => ?_⟩
   rcases List.mem_cons.1 hc with rfl | hc
   ·exact h1 k (by omega)
   ·exact h2 k (by omega) c hc
 obtain ⟨K, hK⟩ := all rest h
 refine ⟨K, fun k hk => ?_⟩
 have hh := hK k hk
 have ex : ∃ q, rest ≠ [] ∧ ∀ c, c ∈ rest → F k c (rest.filter fun x => decide (x ≠ c)) = some q := ⟨r, hne, hh⟩
 show pickAll rest (F k) = some r
 unfold pickAll
 rw [dif_pos ex]
 obtain ⟨c, hc⟩ := List.exists_mem_of_ne_nil rest hne
 have := (Classical.choose_spec ex).2 c hc
 rw [hh c hc] at this
 exact this.symm
def repG (K : Int) (g : TExpGot) : TExpGot := { rdAt zTExpGot g.vMany K with vName := g.vName }
def updG (ks : List Int) (K : Int) (G : GL) : GL := G.mapIdx fun j g => if (j : Int) ∈ ks then repG K g else g
theorem updG_len (ks : List Int) (K : Int) (G : GL) : (updG ks K G).length = G.length := by simp [updG]
theorem updG_name (ks : List Int) (K : Int) (G : GL) : (updG ks K G).map (fun g => g.vName) = G.map (fun g => g.vName) := by
 refine List.ext_getElem (by simp [updG]) ?_
 intro n h1 h2
 simp only [updG, List.getElem_map, List.getElem_mapIdx]
 split <;> rfl
theorem updG_at (ks : List Int) (K : Int) (G : GL) (i : Int) (h0 : 0 ≤ i) (h1 : i < (G.length : Int)) : rdAt zTExpGot (updG ks K G) i = if i ∈ ks then repG K (rdAt zTExpGot G i) else rdAt zTExpGot G i := by
 obtain ⟨n, rfl⟩ := Int.eq_ofNat_of_zero_le h0
 have hn : n < G.length := by omega
 have e1 := rdAt_at zTExpGot (updG ks K G) n (by rw [updG_len]; exact hn)
 have e2 := rdAt_at zTExpGot G n hn
 rw [show ((n : Nat) : Int) = (Int.ofNat n) from rfl] at *
 rw [e1, e2]
 simp only [updG, List.getElem_mapIdx]
 rfl
theorem updG_congr {ks ks' : List Int} (K : Int) (G : GL) (h : ∀ j, j ∈ ks ↔ j ∈ ks') : updG ks K G = updG ks' K G := by
 unfold updG
 congr 1
 funext j g
 simp only [h]
theorem updG_nil (K : Int) (G : GL) : updG [] K G = G := by
 refine List.ext_getElem (by simp [updG]) ?_
 intro n h1 h2
 simp [updG]
theorem updG_set (ks : List Int) (K : Int) (G : GL) (i : Int) (h0 : 0 ≤ i) (hi : i ∉ ks) : (updG ks K G).set i.toNat (repG K (rdAt zTExpGot G i)) = updG (i :: ks) K G := by
 refine List.ext_getElem (by simp [updG]) ?_
 intro n h1 h2
 have hn : n < G.length := by simpa [updG] using h2
 simp only [updG, List.getElem_set, List.getElem_mapIdx, List.mem_cons]
 by_cases e : i.toNat = n
 ·have e' : (n : Int) = i := by omega
  rw [if_pos e, if_pos (Or.inl e')]
  have e3 := rdAt_at zTExpGot G n hn
  rw [e'] at e3
  rw [e3]
 ·have e' : ¬ (n : Int) = i := by omega
  rw [if_neg e]
  simp only [e', false_or]
theorem range_impl (p : TExpForm) (x2 : Int) (G : GL) (mny c R K : Int) (a6 : List TExpForm) (ks : List Int) (vs : List Bool) (hk0 : 0 ≤ K) (hkR : K < R) (res : Int × Bool × List TExpForm)
  (hks : ∀ j ∈ ks, 0 ≤ j ∧ j < (G.length : Int) ∧ ((rdAt zTExpGot G j).vMany.length : Int) = R) (hnd : ks.Nodup)
  (hend : Ev (fun k => qb.l16 k x2 false K c false p.vSort p.vText p.vScopes p.vFrom p.vKids G mny a6 (updG ks K G) (ks.length : Int) [] ks vs) res) :
  ∀ (m : Nat) (rest ds : List Int), rest.length = m → rest.Nodup → (∀ q ∈ rest, 0 ≤ q ∧ q < (ks.length : Int) ∧ rdAt 0 ks q ∉ ds) → (∀ j ∈ ds, j ∈ ks) → (∀ j ∈ ks, j ∈ ds ∨ ∃ q ∈ rest, rdAt 0 ks q = j) →
  Ev (fun k => qb.l16 k x2 false K c false p.vSort p.vText p.vScopes p.vFrom p.vKids G mny a6 (updG ds K G) (ks.length : Int) rest ks vs) res := by
 intro m
 induction m with
 | zero =>
  intro rest ds hm _ _ hd hk
  have : rest = [] := List.eq_nil_of_length_eq_zero hm
  subst this
  rw [updG_congr (ks := ds) (ks' := ks) K G]
  ·exact hend
  ·intro j
   refine ⟨hd j, fun h => ?_⟩
   rcases hk j h with h | ⟨q, hq, _⟩
   ·exact h
   ·cases hq
 | succ m ih =>
  intro rest ds hm hrn hr hd hk
  have hne : ¬ rest = [] := by intro e; rw [e] at hm; cases hm
  refine Ev.shift ?_
  simp only [qb.l16, if_true, if_neg hne]
  refine pickAll_ev rest hne _ fun q hq => ?_
  obtain ⟨q0, q1, q2⟩ := hr q hq
  have hjm : rdAt 0 ks q ∈ ks := rdAt_mem _ _ _ q0 q1
  obtain ⟨j0, j1, j2⟩ := hks _ hjm
  have hinj : ∀ q' ∈ rest, rdAt 0 ks q' = rdAt 0 ks q → q' = q := by
   intro q' hq' e
   obtain ⟨a0, a1, _⟩ := hr q' hq'
   obtain ⟨x, rfl⟩ := Int.eq_ofNat_of_zero_le a0
   obtain ⟨y, rfl⟩ := Int.eq_ofNat_of_zero_le q0
   have hx : x < ks.length := by omega
   have hy : y < ks.length := by omega
   have e1 := rdAt_at 0 ks x hx
   have e2 := rdAt_at 0 ks y hy
   have e : ks[x] = ks[y] := by rw [← e1, ← e2]; exact e
   have hp := List.pairwise_iff_getElem.1 hnd
   rcases Nat.lt_trichotomy x y with h | h | h
   ·exact absurd e (hp x y hx hy h)
   ·rw [h]
   ·exact absurd e.symm (hp y x hy hx h)
  generalize hj : rdAt 0 ks q = j at *
  have hat : (updG ds K G).getD j.toNat zTExpGot = rdAt zTExpGot G j := by
   have := updG_at ds K G j j0 j1
   rw [if_neg q2] at this
   exact this
  have hlen := updG_len ds K G
  have l1 : j < ((updG ds K G).length : Int) := by omega
  have l2 : K < ((rdAt zTExpGot G j).vMany.length : Int) := by omega
  have l3 : ∀ z, j < (((updG ds K G).set j.toNat z).length : Int) := fun z => by rw [List.length_set]; exact l1
  have l4 : ∀ z, ((updG ds K G).set j.toNat z).getD j.toNat zTExpGot = z := fun z => by
   rw [List.getD_eq_getElem?_getD, List.getElem?_set_self (by omega)]; rfl
  simp only [if_pos j0, if_pos l1, hat, if_pos hk0, if_pos l2, if_pos (l3 _), l4, eTExpForm_eq, List.set_set]
  have hset := updG_set ds K G j j0 q2
  have hrep : (⟨(rdAt zTExpGot G j).vName, (rdAt zTExpGot (rdAt zTExpGot G j).vMany K).vDeep, (rdAt zTExpGot (rdAt zTExpGot G j).vMany K).vForm, (rdAt zTExpGot (rdAt zTExpGot G j).vMany K).vMany⟩ : TExpGot) = repG K (rdAt zTExpGot G j) := rfl
  rw [hrep, hset]
  refine ih (rest.filter fun x => decide (x ≠ q)) (j :: ds) ?_ (hrn.filter _) ?_ ?_ ?_
  ·have h1 : (rest.filter fun x => decide (x ≠ q)) = rest.erase q := by
    rw [hrn.erase_eq_filter]
    congr 1
    funext x
    by_cases h : x = q <;> simp [h, bne]
   rw [h1, List.length_erase_of_mem hq]; omega
  ·intro q' hq'
   simp only [List.mem_filter, decide_eq_true_eq] at hq'
   obtain ⟨b0, b1, b2⟩ := hr q' hq'.1
   refine ⟨b0, b1, ?_⟩
   rw [List.mem_cons]
   rintro (e | e)
   ·exact hq'.2 (hinj q' hq'.1 e)
   ·exact b2 e
  ·intro y hy
   rcases List.mem_cons.1 hy with rfl | hy
   ·exact hjm
   ·exact hd y hy
  ·intro y hy
   rcases hk y hy with h | ⟨q', hq', e⟩
   ·exact .inl (List.mem_cons_of_mem _ h)
   ·by_cases h : q' = q
    ·rw [h, hj] at e
     exact .inl (by rw [e]; simp)
    ·exact .inr ⟨q', by simp [hq', h], e⟩
end Go.Proofs.YtmcbhnbemhfifaaGreatDoor.RX
end
section
namespace Go.Proofs.YtmcbhnbemhfifaaGreatDoor.RX
open Go K
set_option autoImplicit false
set_option linter.unusedVariables false
set_option linter.unusedSimpArgs false
theorem getD_left {α : Type} {l m : List α} {i : Nat} {d : α} (h : i < l.length) : (l ++ m).getD i d = l.getD i d := by
 rw [List.getD_eq_getElem?_getD, List.getD_eq_getElem?_getD, List.getElem?_append_left h]
theorem getD_mid {α : Type} {l : List α} {y : α} {i : Nat} {d : α} (h : l.length = i) : (l ++ [y]).getD i d = y := by
 rw [List.getD_eq_getElem?_getD, List.getElem?_append_right (by omega), show i - l.length = 0 by omega]
 rfl
theorem addG_get : ∀ (a b : GL) (j : Nat), j < a.length → a.length ≤ b.length → (addG a b).getD j zTExpGot = { a.getD j zTExpGot with vMany := (a.getD j zTExpGot).vMany ++ [b.getD j zTExpGot] }
 | [], b, j, h, _ => by simp at h
 | x :: a, [], j, _, h => by simp at h
 | x :: a, y :: b, 0, _, _ => rfl
 | x :: a, y :: b, j + 1, h, h' => by
  simp only [addG, List.getD_cons_succ]
  exact addG_get a b j (by simpa using h) (by simpa using h')
theorem manyM_get (m : TExpForm → Option GL) (N : Nat) (hlen : ∀ f g, m f = some g → g.length = N) : ∀ (xs : List TExpForm) (ns r : GL) (L : Nat), ns.length = N → (∀ j, j < N → (ns.getD j zTExpGot).vMany.length = L) → manyM m ns xs = some r →
  (∀ j, j < N → (r.getD j zTExpGot).vName = (ns.getD j zTExpGot).vName ∧ (r.getD j zTExpGot).vDeep = (ns.getD j zTExpGot).vDeep ∧ (r.getD j zTExpGot).vForm = (ns.getD j zTExpGot).vForm ∧ (r.getD j zTExpGot).vMany.length = L + xs.length ∧ ∀ i, i < L → (r.getD j zTExpGot).vMany.getD i zTExpGot = (ns.getD j zTExpGot).vMany.getD i zTExpGot) ∧
  ∀ K, (hK : K < xs.length) → ∃ g, m xs[K] = some g ∧ ∀ j, j < N → (r.getD j zTExpGot).vMany.getD (L + K) zTExpGot = g.getD j zTExpGot
 | [], ns, r, L, h1, h2, h => by
  simp only [manyM, Option.some.injEq] at h
  subst h
  exact ⟨fun j hj => ⟨rfl, rfl, rfl, by rw [h2 j hj]; rfl, fun _ _ => rfl⟩, fun K hK => by simp at hK⟩
 | x :: xs, ns, r, L, h1, h2, h => by
  simp only [manyM, Option.bind_eq_some_iff] at h
  obtain ⟨g, hg, h⟩ := h
  have hgl := hlen x g hg
  have hget := fun j (hj : j < N) => addG_get ns g j (by omega) (by omega)
  obtain ⟨k1, k2⟩ := manyM_get m N hlen xs (addG ns g) r (L + 1) (by rw [addG_len]; exact h1) (fun j hj => by rw [hget j hj]; simp only [List.length_append, List.length_singleton, h2 j hj]) h
  refine ⟨fun j hj => ?_, fun K hK => ?_⟩
  ·obtain ⟨a1, a2, a3, a4, a5⟩ := k1 j hj
   rw [hget j hj] at a1 a2 a3 a5
   refine ⟨a1, a2, a3, by rw [a4, List.length_cons]; omega, fun i hi => ?_⟩
   rw [a5 i (by omega)]
   exact getD_left (by rw [h2 j hj]; exact hi)
  ·cases K with
   | zero =>
    refine ⟨g, hg, fun j hj => ?_⟩
    obtain ⟨a1, a2, a3, a4, a5⟩ := k1 j hj
    rw [Nat.add_zero, a5 L (by omega), hget j hj]
    exact getD_mid (h2 j hj)
   | succ K =>
    obtain ⟨g', b1, b2⟩ := k2 K (by simpa using hK)
    refine ⟨g', b1, fun j hj => ?_⟩
    rw [show L + (K + 1) = L + 1 + K by omega]
    exact b2 j hj
theorem mtn_name (lits : List TExpForm) (binds : List TExpBind) : ∀ (n : Nat) (p : TExpForm) (e : Int) (f : TExpForm) (g : GL), okf p e = true → stOk p = true → isDots p = false → mtn lits binds n p f = some g → g.map (fun y => y.vName) = nms lits p := by
 intro n
 induction n with
 | zero => intro p e f g _ _ _ h; cases h
 | succ n ih =>
  intro p e f g hok hst hd h
  simp only [mtn] at h
  by_cases h1 : p.vSort = 1
  ·rw [if_pos h1] at h
   rw [nms_mk, if_pos h1, hd]
   unfold leafM at h
   cases hl : inB lits p with
   | true =>
    rw [hl] at h
    simp only [if_true] at h
    split at h
    ·split at h
     ·injection h with h; subst h; simp
     ·cases h
    ·cases h
   | false =>
    rw [hl] at h
    simp only [Bool.false_eq_true, if_false] at h
    cases hb : isBlank p with
    | true => rw [hb] at h; simp only [if_true, Option.some.injEq] at h; subst h; simp
    | false => rw [hb] at h; simp only [Bool.false_eq_true, if_false, Option.some.injEq] at h; subst h; simp
  rw [if_neg h1] at h
  by_cases h2 : p.vSort = 2
  ·rw [if_pos h2] at h
   have hk : p.vKids = [] := by
    rcases okf_shape hok with ⟨h', k⟩ | ⟨_, k⟩ | ⟨h', _⟩
    ·exact k
    ·exact k
    ·omega
   rw [nms_mk, if_neg h1, hk]
   split at h
   ·split at h
    ·injection h with h; subst h; rfl
    ·cases h
   ·cases h
  rw [if_neg h2] at h
  have P := patL lits hok hst h1 h2
  unfold listM at h
  split at h
  ·cases h
  simp only [Option.bind_eq_some_iff] at h
  obtain ⟨q, hq, h⟩ := h
  have seq : ∀ (suf own : List TExpForm) (q : GL × List TExpForm), (∀ x ∈ suf, x ∈ p.vKids) → seqM (mtn lits binds n) (fun x => nonD lits x 1) suf own = some q → q.1.map (fun y => y.vName) = nmss lits suf := by
   intro suf
   induction suf with
   | nil => intro own q _ h; simp only [seqM, Option.some.injEq] at h; rw [← h]; rfl
   | cons x ps ihs =>
    intro own q hsub h
    have ihs := fun own q => ihs own q (fun y hy => hsub y (List.mem_cons_of_mem _ hy))
    have hx := hsub x (by simp)
    simp only [seqM] at h
    simp only [nmss]
    cases hd : isDots x with
    | true =>
     rw [hd] at h
     simp only [if_true] at h
     rw [nms_dots lits hd]
     simpa using ihs own q h
    | false =>
     rw [hd] at h
     simp only [Bool.false_eq_true, if_false] at h
     have hp := fun f' g' => ih x (e + 1) f' g' (P.kids x hx).1 (P.kids x hx).2 hd
     split at h
     ·simp only [Option.bind_eq_some_iff, Option.map_eq_some_iff] at h
      obtain ⟨g, g1, q', g2, g3⟩ := h
      rw [← g3]
      simp only [pre, List.map_append]
      rw [ihs _ _ g2]
      congr 1
      have hl := manyM_len _ _ _ _ g1
      obtain ⟨k1, _⟩ := manyM_get (mtn lits binds n x) (nms lits x).length (fun f' g' hg' => mtn_len lits binds n x (e + 1) f' g' (P.kids x hx).1 (P.kids x hx).2 hd hg') _ (nonD lits x 1) g 0 (nonD_len lits x 1) (fun j hj => by
       have hj' : j < (nonD lits x 1).length := by rw [nonD_len]; exact hj
       rw [List.getD_eq_getElem?_getD, List.getElem?_eq_getElem hj', Option.getD_some, nonD_many lits x 1 _ (List.getElem_mem _)]
       rfl) g1
      rw [← nonD_name lits x 1]
      refine List.ext_getElem (by simp [hl]) ?_
      intro i i1 i2
      have j1 : i < g.length := by simpa using i1
      have j2 : i < (nonD lits x 1).length := by simpa using i2
      have := (k1 i (by rw [nonD_len] at j2; exact j2)).1
      rw [List.getD_eq_getElem?_getD, List.getElem?_eq_getElem j1, List.getD_eq_getElem?_getD, List.getElem?_eq_getElem j2] at this
      simpa using this
     ·cases own with
      | nil => cases h
      | cons z own =>
       simp only [Option.bind_eq_some_iff, Option.map_eq_some_iff] at h
       obtain ⟨g, g1, q', g2, g3⟩ := h
       rw [← g3]
       simp only [pre, List.map_append]
       rw [ihs _ _ g2, hp z g g1]
  have hl := seq _ _ _ P.sub hq
  rw [P.nm]
  split at h
  ·rename_i h4
   rw [if_pos h4]
   obtain ⟨f1, f2, _⟩ := P.fin h4
   simp only [Option.map_eq_some_iff] at h
   obtain ⟨g', hg', rfl⟩ := h
   rw [List.map_append, hl, ih _ _ _ _ (P.kids _ f2).1 (P.kids _ f2).2 f1 hg']
  ·rename_i h4
   rw [if_neg h4]
   injection h with h
   rw [← h, hl, List.append_nil]
def Prov (G gs : GL) : Prop := ∀ g ∈ gs, 0 ≤ getI 0 G g.vName ∧ getI 0 G g.vName < (G.length : Int) ∧ (rdAt zTExpGot G (getI 0 G g.vName)).vDeep = g.vDeep ∧ (rdAt zTExpGot G (getI 0 G g.vName)).vForm = g.vForm ∧ (rdAt zTExpGot G (getI 0 G g.vName)).vMany = g.vMany
theorem SmlG.upd {G : GL} (h : SmlG G) (ks : List Int) (K : Int) : SmlG (updG ks K G) := by
 refine ⟨by rw [updG_len]; exact h.1, fun g hg => ?_⟩
 have : g.vName ∈ (updG ks K G).map (fun g => g.vName) := List.mem_map_of_mem hg
 rw [updG_name] at this
 obtain ⟨g', hg', e⟩ := List.mem_map.1 this
 rw [← e]
 exact h.2 g' hg'
def Made (x : TExpForm) (c : Int) (r : TExpForm × Int × Bool) : Prop := r.1 = x ∧ r.2.2 = false ∧ c ≤ r.2.1 ∧ r.2.1 ≤ c + cnt x
theorem part0_impl (p x : TExpForm) (G : GL) (c : Int) (h : Evs (fun k => q9.f k p G false c false) (Made x c)) : Evs (fun k => qb.f k p 0 G false c false) (fun r => c ≤ r.1 ∧ r.1 ≤ c + cnt x ∧ r.2.1 = false ∧ r.2.2 = [x]) := by
 refine Evs.shift ?_
 simp only [qb.f, Bool.false_eq_true, if_false, if_true, eTExpForm_eq]
 refine Evs.bind h ?_
 rintro ⟨x', c', b⟩ ⟨e1, e2, e3, e4⟩
 exact Evs.now ⟨e3, e4, e2, by show [x'] = [x]; rw [show x' = x from e1]⟩
end Go.Proofs.YtmcbhnbemhfifaaGreatDoor.RX
end
section
namespace Go.Proofs.YtmcbhnbemhfifaaGreatDoor.RX
open Go K
set_option autoImplicit false
set_option linter.unusedVariables false
set_option linter.unusedSimpArgs false
theorem upTo_mem (n : Nat) (q : Int) : q ∈ upTo n ↔ 0 ≤ q ∧ q < (n : Int) := by
 simp only [upTo, List.mem_map, List.mem_range]
 constructor
 ·rintro ⟨a, h, rfl⟩; exact ⟨by simp, by simp; omega⟩
 ·rintro ⟨h0, h1⟩; exact ⟨q.toNat, by omega, by simp; omega⟩
theorem upTo_nodup (n : Nat) : (upTo n).Nodup := by
 unfold upTo
 rw [List.nodup_iff_pairwise_ne, List.pairwise_map]
 have := List.nodup_range (n := n)
 rw [List.nodup_iff_pairwise_ne] at this
 exact this.imp fun h e => h (Int.ofNat.inj e)
theorem round_prov (binds : List TExpBind) (n : Nat) (p : TExpForm) (e : Int) (hok : okf p e = true) (hst : stOk p = true) (hdt : isDots p = false) (xs : List TExpForm) (all G : GL) (hall : manyM (mtn [] binds n p) (nonD [] p 1) xs = some all) (hP : Prov G all) (ks : List Int) (hks : ks = addK [] ((nms [] p).map (getI 0 G))) (K : Nat) (hK : K < xs.length) :
  ∃ g, mtn [] binds n p xs[K] = some g ∧ Prov (updG ks (K : Int) G) g := by
 have hml := fun f' g' => mtn_len [] binds n p e f' g' hok hst hdt
 have hL := nonD_len [] p 1
 obtain ⟨k1, k2⟩ := manyM_get (mtn [] binds n p) (nms [] p).length hml xs (nonD [] p 1) all 0 hL (fun j hj => by
  have hj' : j < (nonD [] p 1).length := by rw [hL]; exact hj
  rw [List.getD_eq_getElem?_getD, List.getElem?_eq_getElem hj', Option.getD_some, nonD_many [] p 1 _ (List.getElem_mem _)]
  rfl) hall
 obtain ⟨g, hg, hj⟩ := k2 K hK
 refine ⟨g, hg, fun y hy => ?_⟩
 have hgl := hml _ _ hg
 have hal := manyM_len _ _ _ _ hall
 rw [hL] at hal
 obtain ⟨j, hjl, rfl⟩ := List.getElem_of_mem hy
 have hjN : j < (nms [] p).length := by omega
 have hja : j < all.length := by omega
 have hname := mtn_name [] binds n p e _ g hok hst hdt hg
 have hn1 : (g[j]).vName = (nms [] p)[j] := by
  have := congrArg (fun l => l[j]?) hname
  simp only [List.getElem?_map, List.getElem?_eq_getElem hjl, List.getElem?_eq_getElem hjN, Option.map_some, Option.some.injEq] at this
  exact this
 have hnd : (nonD [] p 1).map (fun y => y.vName) = nms [] p := nonD_name [] p 1
 have hn2 : (all[j]).vName = (nms [] p)[j] := by
  have a1 := (k1 j hjN).1
  have hjd : j < (nonD [] p 1).length := by omega
  rw [List.getD_eq_getElem?_getD, List.getElem?_eq_getElem hja, List.getD_eq_getElem?_getD, List.getElem?_eq_getElem hjd] at a1
  have := congrArg (fun l => l[j]?) hnd
  simp only [List.getElem?_map, List.getElem?_eq_getElem hjd, List.getElem?_eq_getElem hjN, Option.map_some, Option.some.injEq] at this
  exact a1.trans this
 obtain ⟨i0, i1, i2, i3, i4⟩ := hP (all[j]) (List.getElem_mem _)
 rw [hn2] at i0 i1 i2 i3 i4
 rw [hn1, getI_name _ G 0 _ (updG_name ks K G)]
 have hin : getI 0 G (nms [] p)[j] ∈ ks := by
  rw [hks, addK_mem]
  exact .inr (List.mem_map_of_mem (List.getElem_mem _))
 rw [updG_len, updG_at ks K G _ i0 i1, if_pos hin]
 have hval : rdAt zTExpGot (rdAt zTExpGot G (getI 0 G (nms [] p)[j])).vMany (K : Int) = g[j] := by
  rw [i4]
  have := hj j hjN
  rw [List.getD_eq_getElem?_getD (l := all), List.getElem?_eq_getElem hja, List.getD_eq_getElem?_getD (l := g), List.getElem?_eq_getElem hjl, Nat.zero_add] at this
  exact this
 simp only [repG, hval]
 exact ⟨i0, i1, trivial, trivial, trivial⟩
theorem part1_impl (binds : List TExpBind) (n : Nat) (p : TExpForm) (e : Int) (hok : okf p e = true) (hst : stOk p = true) (hdt : isDots p = false) (hw : wid p ≤ 100000000) (hne : nms [] p ≠ []) (xs : List TExpForm) (hxl : (xs.length : Int) ≤ 500000000) (all G : GL) (hall : manyM (mtn [] binds n p) (nonD [] p 1) xs = some all) (hP : Prov G all) (hG : SmlG G) (c : Int)
  (hfill : ∀ (G' g : GL) (x : TExpForm) (c' : Int), SmlG G' → x ∈ xs → mtn [] binds n p x = some g → Prov G' g → c ≤ c' → c' + cnt x ≤ c + cnts xs → Evs (fun k => q9.f k p G' false c' false) (Made x c')) :
  Evs (fun k => qb.f k p 1 G false c false) (fun r => c ≤ r.1 ∧ r.1 ≤ c + cnts xs ∧ r.2.1 = false ∧ r.2.2 = xs) := by
 have hal := manyM_len _ _ _ _ hall
 have hL := nonD_len [] p 1
 have hml := fun f' g' => mtn_len [] binds n p e f' g' hok hst hdt
 obtain ⟨k1, _⟩ := manyM_get (mtn [] binds n p) (nms [] p).length hml xs (nonD [] p 1) all 0 hL (fun j hj => by
  have hj' : j < (nonD [] p 1).length := by rw [hL]; exact hj
  rw [List.getD_eq_getElem?_getD, List.getElem?_eq_getElem hj', Option.getD_some, nonD_many [] p 1 _ (List.getElem_mem _)]
  rfl) hall
 have hvalid : ∀ x ∈ nms [] p, 0 ≤ getI 0 G x ∧ getI 0 G x < (G.length : Int) ∧ ¬ (rdAt zTExpGot G (getI 0 G x)).vDeep = 0 ∧ ((rdAt zTExpGot G (getI 0 G x)).vMany.length : Int) = (xs.length : Int) := by
  intro x hx
  obtain ⟨j, hjN, rfl⟩ := List.getElem_of_mem hx
  have hja : j < all.length := by omega
  have hjd : j < (nonD [] p 1).length := by omega
  obtain ⟨a1, a2, a3, a4, _⟩ := k1 j hjN
  rw [List.getD_eq_getElem?_getD, List.getElem?_eq_getElem hja, Option.getD_some] at a1 a2 a4
  rw [List.getD_eq_getElem?_getD, List.getElem?_eq_getElem hjd, Option.getD_some] at a1 a2
  have hnd : (nonD [] p 1).map (fun y => y.vName) = nms [] p := nonD_name [] p 1
  have hn := congrArg (fun l => l[j]?) hnd
  simp only [List.getElem?_map, List.getElem?_eq_getElem hjd, List.getElem?_eq_getElem hjN, Option.map_some, Option.some.injEq] at hn
  obtain ⟨i0, i1, i2, i3, i4⟩ := hP (all[j]) (List.getElem_mem _)
  rw [a1, hn] at i0 i1 i2 i4
  have hdp := nonD_deep [] p 1 _ (List.getElem_mem hjd)
  refine ⟨i0, i1, by rw [i2, a2]; omega, by rw [i4, a4]; omega⟩
 refine Evs.shift ?_
 have h10 : ¬ (1 : Int) = 0 := by decide
 simp only [qb.f, Bool.false_eq_true, if_false, if_neg h10, eTExpForm_eq]
 refine Evs.bind (ids_impl G hG (xs.length : Int) c p e hok (by omega) hvalid (-1) [] [] (fun h => by omega)) ?_
 rintro ⟨G', mny, ks, vs, c', b⟩ ⟨e1, e2, e3, e4⟩
 simp only [Prod.mk.injEq] at e1 e2 e3 e4
 obtain ⟨e4, e5⟩ := e4
 subst e1 e4 e5
 have hmny : mny = (xs.length : Int) := by
  rw [e2]
  cases hh : nms [] p with
  | nil => exact absurd hh hne
  | cons a l => rfl
 have hkne : ¬ ((ks.length : Nat) : Int) = 0 := by
  intro h
  have : ks = [] := List.eq_nil_of_length_eq_zero (by omega)
  obtain ⟨x, hx⟩ := List.exists_mem_of_ne_nil _ hne
  have hm : getI 0 G' x ∈ ks := by rw [e3, addK_mem]; exact .inr (List.mem_map_of_mem hx)
  rw [this] at hm; cases hm
 have hksv : ∀ j ∈ ks, 0 ≤ j ∧ j < (G'.length : Int) ∧ ((rdAt zTExpGot G' j).vMany.length : Int) = (xs.length : Int) := by
  intro j hj
  rw [e3, addK_mem] at hj
  rcases hj with hj | hj
  ·cases hj
  ·obtain ⟨x, hx, rfl⟩ := List.mem_map.1 hj
   obtain ⟨a0, a1, _, a3⟩ := hvalid x hx
   exact ⟨a0, a1, a3⟩
 have hksn : ks.Nodup := by rw [e3]; exact addK_nodup _ _ (by simp)
 simp only [if_neg hkne, qb.j10b]
 rw [hmny]
 have loop := goList xs (P := fun i suf => ∀ d : Int, c' ≤ d → d + cnts suf ≤ c' + cnts xs → Evs (fun k => qb.l12 k 1 false i d false p.vSort p.vText p.vScopes p.vFrom p.vKids G' (xs.length : Int) (xs.take i.toNat) ks vs) (fun r => c' ≤ r.1 ∧ r.1 ≤ c' + cnts xs ∧ r.2.1 = false ∧ r.2.2 = xs)) ?_ ?_ c' (by omega) (by omega)
 ·simpa using loop
 ·intro d hd1 hd2
  refine Evs.shift ?_
  simp (disch := omega) only [qb.l12, if_neg]
  simp only [cnts] at hd2
  exact Evs.now ⟨hd1, by show d ≤ _; omega, rfl, by show xs.take _ = xs; simp⟩
 ·intro i x r i0 i1 hx hxm hl hdr htk ih d hd1 hd2
  simp only [cnts] at hd2
  have hcr := (cnts_le r).1
  have hgl : ([] : GL).length + G'.length ≤ 733007751850 := by have := hG.1; simp; omega
  refine Evs.shift ?_
  simp only [qb.l12, if_pos i1, Bool.false_eq_true, not_false_eq_true, if_true, qb.j14b, if_pos hgl, List.nil_append]
  obtain ⟨g, hg, hPg⟩ := round_prov binds n p e hok hst hdt xs all G' hall hP ks e3 i.toNat (by omega)
  have hxi : xs[i.toNat]'(by omega) = x := by
   have := hx zTExpForm
   rw [show i = ((i.toNat : Nat) : Int) by omega, rdAt_at _ _ _ (by omega)] at this
   exact this
  rw [hxi] at hg
  rw [show ((i.toNat : Nat) : Int) = i by omega] at hPg
  have hf := hfill (updG ks i G') g x d (hG.upd ks i) hxm hg hPg hd1 (by omega)
  have stop : Evs (fun k => qb.l16 k 1 false i d false p.vSort p.vText p.vScopes p.vFrom p.vKids G' (xs.length : Int) (xs.take i.toNat) (updG ks i G') (ks.length : Int) [] ks vs) (fun r => c' ≤ r.1 ∧ r.1 ≤ c' + cnts xs ∧ r.2.1 = false ∧ r.2.2 = xs) := by
   refine Evs.shift ?_
   have w0 : IntKind.i64.wrap ((1 : Int) - 1) = 0 := by rw [w64 (by omega) (by omega)]; rfl
   have w1 : IntKind.i64.wrap (i + 1) = i + 1 := w64 (by omega) (by omega)
   simp only [qb.l16, if_true, mTExpForm, w0, w1]
   refine Evs.bind (part0_impl p x (updG ks i G') d hf) ?_
   rintro ⟨d', b, l⟩ ⟨q1, q2, q3, q4⟩
   simp only at q1 q2 q3 q4
   subst q3 q4
   have hc : (xs.take i.toNat).length + [x].length ≤ 1759218604441 := by simp only [List.length_take, List.length_singleton]; omega
   simp only [if_pos hc]
   have := ih d' (by omega) (by omega)
   rw [show (i + 1).toNat = i.toNat + 1 by omega, htk] at this
   exact this
  obtain ⟨res, hres, hev⟩ := stop
  refine ⟨res, hres, ?_⟩
  have := range_impl p 1 G' (xs.length : Int) d (xs.length : Int) i (xs.take i.toNat) ks vs i0 i1 res hksv hksn hev (upTo ks.length).length (upTo ks.length) [] rfl (upTo_nodup _) (fun q hq => by
   have := (upTo_mem _ q).1 hq
   exact ⟨this.1, this.2, by simp⟩) (fun j hj => by cases hj) (fun j hj => by
   obtain ⟨m, hm, rfl⟩ := List.getElem_of_mem hj
   exact .inr ⟨(m : Int), (upTo_mem _ _).2 ⟨by omega, by omega⟩, rdAt_at _ _ _ hm⟩)
  rw [updG_nil] at this
  exact this
end Go.Proofs.YtmcbhnbemhfifaaGreatDoor.RX
end
section
namespace Go.Proofs.YtmcbhnbemhfifaaGreatDoor.RX
open Go K
set_option autoImplicit false
set_option linter.unusedVariables false
set_option linter.unusedSimpArgs false
mutual
def fillOk : TExpForm → Bool
 | ⟨s, t, sc, fr, ks⟩ => !isBlank ⟨s, t, sc, fr, ks⟩ && fillOks ks
def fillOks : List TExpForm → Bool
 | [] => true
 | x :: l => (fillOk x && (!headDots l || !(nms [] x).isEmpty)) && fillOks l
end
theorem fillOk_mk (x : TExpForm) : fillOk x = (!isBlank x && fillOks x.vKids) := by cases x; simp only [fillOk]
theorem fillOks_left : ∀ (a b : List TExpForm), fillOks (a ++ b) = true → fillOks a = true
 | [], b, _ => rfl
 | x :: a, b, h => by
  simp only [List.cons_append, fillOks, Bool.and_eq_true] at h ⊢
  refine ⟨⟨h.1.1, ?_⟩, fillOks_left a b h.2⟩
  cases a with
  | nil => rfl
  | cons y a => exact h.1.2
theorem fillOks_mem {l : List TExpForm} (h : fillOks l = true) : ∀ x ∈ l, fillOk x = true := by
 intro x hx
 induction l with
 | nil => cases hx
 | cons y l ihl =>
  simp only [fillOks, Bool.and_eq_true] at h
  rcases List.mem_cons.1 hx with rfl | hx
  ·exact h.1.1
  ·exact ihl h.2 hx
theorem fillOks_drop {l : List TExpForm} (h : fillOks l = true) : ∀ n, fillOks (l.drop n) = true := by
 intro n
 induction n generalizing l with
 | zero => exact h
 | succ n ih =>
  cases l with
  | nil => rfl
  | cons y l =>
   simp only [fillOks, Bool.and_eq_true] at h
   exact ih h.2
theorem bytes_ext {a b : ByteArray} (h : a.toList = b.toList) : a = b := by
 rw [toList_data, toList_data] at h
 cases a
 cases b
 simp only [ByteArray.mk.injEq]
 exact Array.ext' h
theorem okf_list {f : TExpForm} {d : Int} (h : okf f d = true) (h1 : ¬ f.vSort = 1) (h2 : ¬ f.vSort = 2) : f = ⟨f.vSort, ByteArray.empty, [], 0, f.vKids⟩ := by
 rw [okf_mk, if_neg h1, if_neg h2] at h
 simp only [Bool.and_eq_true, decide_eq_true_eq] at h
 obtain ⟨_, _, ht, hfr, hsc, _⟩ := h
 have ht' : f.vText = ByteArray.empty := by
  refine bytes_ext ?_
  have := (lit_eq (s := f.vText) #[] [] (by decide)).2 ht
  exact this
 have hs' : f.vScopes = [] := List.eq_nil_of_length_eq_zero (by omega)
 cases f
 simp only at ht' hs' hfr
 rw [ht', hs', hfr]
theorem okf_atom {f p : TExpForm} {d e : Int} (h : okf f d = true) (h' : okf p e = true) (f2 : f.vSort = 2) (p2 : p.vSort = 2) (ht : f.vText.toList = p.vText.toList) : p = f := by
 rw [okf_mk, if_neg (by omega), if_pos f2] at h
 rw [okf_mk, if_neg (by omega), if_pos p2] at h'
 simp only [Bool.and_eq_true, decide_eq_true_eq] at h h'
 obtain ⟨_, _, _, a1, a2, a3⟩ := h
 obtain ⟨_, _, _, b1, b2, b3⟩ := h'
 have e1 : f.vScopes = [] := List.eq_nil_of_length_eq_zero (by omega)
 have e2 : p.vScopes = [] := List.eq_nil_of_length_eq_zero (by omega)
 have e3 : f.vKids = [] := List.eq_nil_of_length_eq_zero (by omega)
 have e4 : p.vKids = [] := List.eq_nil_of_length_eq_zero (by omega)
 have e5 := bytes_ext ht
 cases f
 cases p
 simp only at *
 rw [e5, e1, e2, e3, e4, f2, p2, a1, b1]
theorem cnts_append (a b : List TExpForm) : cnts (a ++ b) = cnts a + cnts b := by
 induction a with
 | nil => simp [cnts]
 | cons x a ih => simp only [List.cons_append, cnts, ih]; omega
theorem cnt_c (a : Int) (t : ByteArray) (sc : List Int) (d : Int) (ks : List TExpForm) : cnt ⟨a, t, sc, d, ks⟩ = 1 + cnts ks := by simp only [cnt]
theorem join_left {f : TExpForm} {d : Int} (hok : okf f d = true) (mid rest : List TExpForm) (h : mid ++ rest = ownOf f) : joinT mid (leftT rest (lastO f)) = f ∧ cnts mid + cnt (leftT rest (lastO f)) ≤ cnt f := by
 rcases okf_shape hok with ⟨s, _⟩ | ⟨s, _⟩ | ⟨s, _⟩
 ·have n : ¬ (f.vSort = 3 ∨ f.vSort = 4) := by omega
  have n3 : ¬ f.vSort = 3 := by omega
  have n4 : ¬ f.vSort = 4 := by omega
  simp only [ownOf, if_neg n, List.append_eq_nil_iff] at h
  rw [h.1, h.2]
  simp [lastO, if_neg n3, if_neg n4, leftT, joinT, cnts]
 ·have n : ¬ (f.vSort = 3 ∨ f.vSort = 4) := by omega
  have n3 : ¬ f.vSort = 3 := by omega
  have n4 : ¬ f.vSort = 4 := by omega
  simp only [ownOf, if_neg n, List.append_eq_nil_iff] at h
  rw [h.1, h.2]
  simp [lastO, if_neg n3, if_neg n4, leftT, joinT, cnts]
 ·have y : f.vSort = 3 ∨ f.vSort = 4 := by omega
  have ho : ownOf f = partsOf f := by unfold ownOf; rw [if_pos y]
  have hf := okf_list hok (by omega) (by omega)
  have hm := cnt_mk f
  rw [ho] at h
  rcases s with h3 | ⟨h4, h5⟩
  ·have n4 : ¬ f.vSort = 4 := by omega
   simp only [partsOf, if_neg n4] at h
   simp only [lastO, if_pos h3, leftT]
   rw [cnt_c]
   have hc := cnts_append mid rest
   rw [h] at hc
   refine ⟨?_, by omega⟩
   unfold joinT
   split
   ·rename_i hz
    have : mid = [] := List.eq_nil_of_length_eq_zero hz
    rw [this, List.nil_append] at h
    rw [h, ← h3]; exact hf.symm
   ·rw [if_pos (Or.inl rfl)]
    rw [h, ← h3]; exact hf.symm
  ·have n3 : ¬ f.vSort = 3 := by omega
   have hks := ends_of h5 h4
   have hls := last_sort hok h4
   have nl : ¬ ((lastOf f).vSort = 3 ∨ (lastOf f).vSort = 4) := by omega
   have hcl := (cnt_pos (lastOf f)).1
   have hck : cnts f.vKids = cnts mid + cnts rest + cnt (lastOf f) := by
    rw [← hks, ← h, cnts_append, cnts_append]; simp [cnts]
   have hpl : 1 ≤ (partsOf f).length := by simp only [partsOf, if_pos h4, List.length_take]; omega
   simp only [lastO, if_neg n3, if_pos h4, leftT]
   by_cases hr : rest.length = 0
   ·have : rest = [] := List.eq_nil_of_length_eq_zero hr
    subst this
    rw [List.append_nil] at h
    have hm0 : ¬ mid.length = 0 := by rw [h]; omega
    have e : joinT [] (lastOf f) = lastOf f := by simp [joinT]
    rw [e]
    refine ⟨?_, by simp only [cnts] at hck; omega⟩
    unfold joinT
    rw [if_neg hm0, if_neg nl, h, hks, ← h4]
    exact hf.symm
   ·have e : joinT rest (lastOf f) = ⟨4, ByteArray.empty, [], 0, rest ++ [lastOf f]⟩ := by
     unfold joinT; rw [if_neg hr, if_neg nl]
    rw [e, cnt_c, cnts_append]
    refine ⟨?_, by simp [cnts]; omega⟩
    unfold joinT
    split
    ·rename_i hz
     have : mid = [] := List.eq_nil_of_length_eq_zero hz
     rw [this, List.nil_append] at h
     rw [h, hks, ← h4]; exact hf.symm
    ·rw [if_pos (Or.inr rfl), ← List.append_assoc, h, hks, ← h4]
     exact hf.symm
theorem seqM_rest (m : TExpForm → TExpForm → Option GL) (nd : TExpForm → GL) : ∀ (suf own : List TExpForm) (q : GL × List TExpForm), dotsN suf = 0 → seqM m nd suf own = some q → own.length = suf.length + q.2.length
 | [], own, q, _, h => by simp only [seqM, Option.some.injEq] at h; rw [← h]; simp
 | p :: ps, own, q, hd, h => by
  have hn := noDots hd
  have hp := hn p (by simp)
  have hps : dotsN ps = 0 := by simp only [dotsN, hp, Bool.false_eq_true, if_false] at hd; omega
  have hh : headDots ps = false := headDots_of fun y hy => hn y (by simp [hy])
  simp only [seqM, hp, hh, Bool.false_eq_true, if_false] at h
  cases own with
  | nil => cases h
  | cons x own =>
   simp only [Option.bind_eq_some_iff, Option.map_eq_some_iff] at h
   obtain ⟨g, _, q', h2, h3⟩ := h
   have := seqM_rest m nd ps own q' hps h2
   rw [← h3]
   simp only [pre, List.length_cons]
   omega
theorem seqM_all (m : TExpForm → TExpForm → Option GL) (nd : TExpForm → GL) : ∀ (suf own : List TExpForm) (q : GL × List TExpForm), dotsN suf = 1 → headDots suf = false → nP suf ≤ own.length + 1 → seqM m nd suf own = some q → q.2 = []
 | [], own, q, hd, _, _, h => by simp [dotsN] at hd
 | p :: ps, own, q, hd, h0, hl, h => by
  have hp : isDots p = false := h0
  simp only [dotsN, nP, hp, Bool.false_eq_true, if_false] at hd hl
  simp only [seqM, hp, Bool.false_eq_true, if_false] at h
  cases hh : headDots ps with
  | true =>
   rw [hh] at h
   simp only [if_true, Option.bind_eq_some_iff, Option.map_eq_some_iff] at h
   obtain ⟨g, _, q', h2, h3⟩ := h
   cases ps with
   | nil => simp [headDots] at hh
   | cons dd r =>
    have hdd : isDots dd = true := hh
    simp only [dotsN, nP, hdd, if_true] at hd hl h2
    simp only [seqM, hdd, if_true] at h2
    have hr := nP_dots r
    have := seqM_rest m nd r _ q' (by omega) h2
    rw [List.length_drop] at this
    rw [← h3]
    simp only [pre]
    exact List.eq_nil_of_length_eq_zero (by omega)
  | false =>
   rw [hh] at h
   simp only [Bool.false_eq_true, if_false] at h
   cases own with
   | nil => cases h
   | cons x own =>
    simp only [Option.bind_eq_some_iff, Option.map_eq_some_iff] at h
    obtain ⟨g, _, q', h2, h3⟩ := h
    have := seqM_all m nd ps own q' (by omega) hh (by simp only [List.length_cons] at hl; omega) h2
    rw [← h3]
    exact this
end Go.Proofs.YtmcbhnbemhfifaaGreatDoor.RX
end
section
namespace Go.Proofs.YtmcbhnbemhfifaaGreatDoor.RX
open Go K
set_option autoImplicit false
set_option linter.unusedVariables false
set_option linter.unusedSimpArgs false
theorem Prov.left {G a b : GL} (h : Prov G (a ++ b)) : Prov G a := fun g hg => h g (List.mem_append_left _ hg)
theorem Prov.right {G a b : GL} (h : Prov G (a ++ b)) : Prov G b := fun g hg => h g (List.mem_append_right _ hg)
theorem seq_fill (binds : List TExpBind) (n : Nat) (parts own : List TExpForm) (eo : Option TExpForm) (e : Int) (G : GL) (hG : SmlG G) (hpl : (parts.length : Int) ≤ 500000000) (hown : (own.length : Int) ≤ 500000000)
  (hk : ∀ x ∈ parts, okf x e = true ∧ stOk x = true ∧ wid x ≤ 100000000) (hd1 : dotsN parts ≤ 1) (hd0 : headDots parts = false) (hok : fillOks parts = true)
  (hfill : ∀ x ∈ parts, isDots x = false → ∀ (G' g : GL) (y : TExpForm) (c' : Int), SmlG G' → y ∈ own → mtn [] binds n x y = some g → Prov G' g → 0 ≤ c' → c' + cnt y ≤ 6000 → Evs (fun k => q9.f k x G' false c' false) (Made y c'))
  (S : TExpForm × Int × Bool → Prop) (q : GL × List TExpForm) (hq : seqM (mtn [] binds n) (nd1 []) parts own = some q) (hP : Prov G q.1) (c : Int) (hc : 0 ≤ c) (hcc : c + cnts own ≤ 6000)
  (hend : ∀ (mid : List TExpForm) (d : Int), own = mid ++ q.2 → c ≤ d → d ≤ c + cnts mid → Evs (fun k => q9.l18 k G false parts eo (parts.length : Int) d false mid) S) :
  Evs (fun k => q9.l18 k G false parts eo 0 c false []) S := by
 let Q : Int → List TExpForm → Prop := fun i suf => ∀ (own' : List TExpForm) (q : GL × List TExpForm) (a2 : List TExpForm) (d : Int), (∀ y ∈ own', y ∈ own) → (own'.length : Int) ≤ 500000000 → seqM (mtn [] binds n) (nd1 []) suf own' = some q → Prov G q.1 → 0 ≤ d → d + cnts own' ≤ 6000 → (a2.length : Int) + (own'.length : Int) ≤ 500000000 →
  (∀ (mid : List TExpForm) (d' : Int), own' = mid ++ q.2 → d ≤ d' → d' ≤ d + cnts mid → Evs (fun k => q9.l18 k G false parts eo (parts.length : Int) d' false (a2 ++ mid)) S) →
  Evs (fun k => q9.l18 k G false parts eo i d false a2) S
 have key : Q 0 parts := by
  have := goList parts (P := fun i suf => dotsN suf ≤ 1 → if headDots suf = true then Q (i + 1) suf.tail else Q i suf) ?_ ?_ hd1
  ·rw [hd0] at this; simpa using this
  ·intro _
   simp only [headDots, Bool.false_eq_true, if_false]
   intro own' q a2 d _ _ hq _ _ _ _ hend
   simp only [seqM, Option.some.injEq] at hq
   subst hq
   have := hend [] d rfl (Int.le_refl _) (by simp [cnts])
   simpa using this
  ·intro i x t i0 i1 hx hxm hl hdr _ ih hds
   have hdp := (dotsN_pos t).1
   have hkx := hk x hxm
   have hfo : fillOks (x :: t) = true := by rw [← hdr]; exact fillOks_drop hok _
   cases hdx : isDots x with
   | true =>
    simp only [headDots, hdx, if_true, List.tail_cons]
    simp only [dotsN, hdx, if_true] at hds
    have hz : headDots t = false := headDots_of (noDots (by omega))
    have := ih (by omega)
    rw [hz] at this
    simpa using this
   | false =>
    simp only [headDots, hdx, Bool.false_eq_true, if_false]
    simp only [dotsN, hdx, Bool.false_eq_true, if_false] at hds
    have ih := ih (by omega)
    intro own' q a2 d hsub hol hq hP hd0' hdc hal hend
    have w1 : IntKind.i64.wrap (i + 1) = i + 1 := w64 (by omega) (by omega)
    have w2 : IntKind.i64.wrap (i + 1 + 0) = i + 1 := by rw [Int.add_zero]; exact w1
    have rd1 : ∀ y r, t = y :: r → rdAt zTExpForm parts (i + 1) = y ∧ i + 1 < (parts.length : Int) := by
     intro y r e
     have hlt : i.toNat + 1 < parts.length := by rw [e] at hl; simp only [List.length_cons] at hl; omega
     have e2 : parts.drop (i.toNat + 1) = y :: r := by
      have := congrArg (List.drop 1) hdr
      rw [List.drop_drop] at this
      simpa [e] using this
     rw [List.drop_eq_getElem_cons hlt] at e2
     have := rdAt_at zTExpForm parts (i.toNat + 1) hlt
     rw [show ((i.toNat + 1 : Nat) : Int) = i + 1 by omega] at this
     exact ⟨this.trans (List.cons.inj e2).1, by omega⟩
    refine Evs.shift ?_
    simp only [q9.l18, if_pos i1, Bool.false_eq_true, not_false_eq_true, if_true, q9.j20b, if_pos i0, hx, eTExpForm_eq]
    refine Evs.bind (Evs.of (is_dots x) (P := fun r => r = isDots x) rfl) fun r hr => ?_
    subst hr
    simp only [hdx, Bool.false_eq_true, if_false, q9.j22b]
    refine Evs.shift ?_
    cases hdt : headDots t with
    | true =>
     obtain ⟨dd, r, ht⟩ : ∃ dd r, t = dd :: r := by
      cases t with
      | nil => simp [headDots] at hdt
      | cons dd r => exact ⟨dd, r, rfl⟩
     subst ht
     have hdd : isDots dd = true := hdt
     rw [if_pos hdt] at ih
     simp only [List.tail_cons] at ih
     simp only [dotsN, hdd, if_true] at hds
     have hrp := (dotsN_pos r).1
     have z : dotsN r = 0 := by omega
     have hne : nms [] x ≠ [] := by
      simp only [fillOks, hdt, Bool.and_eq_true, Bool.not_true, Bool.false_or, Bool.not_eq_true', List.isEmpty_eq_false_iff] at hfo
      exact hfo.1.2
     obtain ⟨rdd, ltd⟩ := rd1 dd r rfl
     have p1 : 0 ≤ i + 1 := by omega
     simp only [q9.l23, Bool.false_eq_true, not_false_eq_true, if_true, w1, w2, if_pos ltd, if_pos p1, rdd, eTExpForm_eq]
     refine Evs.bind (Evs.of (is_dots dd) (P := fun r => r = isDots dd) rfl) fun r' hr => ?_
     subst hr
     have w3 : IntKind.i64.wrap ((0 : Int) + 1) = 1 := by rw [w64 (by omega) (by omega)]; rfl
     simp only [hdd, if_true, w3]
     simp only [seqM, hdx, hdt, hdd, Bool.false_eq_true, if_false, if_true, Option.bind_eq_some_iff, Option.map_eq_some_iff] at hq
     obtain ⟨g1, hg1, q', hq', hqq⟩ := hq
     subst hqq
     simp only [pre] at hP hend
     generalize hnq : own'.length - nP (dd :: r) = m at hg1 hq'
     have htd := List.take_append_drop m own'
     have hcn := cnts_append (own'.take m) (own'.drop m)
     rw [htd] at hcn
     have hcd := (cnts_le (own'.drop m)).1
     have hct := (cnts_le (own'.take m)).1
     have hlt2 : (own'.take m).length + (own'.drop m).length = own'.length := by rw [← List.length_append, htd]
     have part := part1_impl binds n x e hkx.1 hkx.2.1 hdx hkx.2.2 hne (own'.take m) (by omega) g1 G hg1 hP.left hG d (fun G' g y c' s1 s2 s3 s4 s5 s6 => hfill x hxm hdx G' g y c' s1 (hsub y (List.mem_of_mem_take s2)) s3 s4 (by omega) (by omega))
     have cont : Evs (fun k => (qb.f k x 1 G false d false).bind fun r2 => (if a2.length + r2.2.2.length ≤ 1759218604441 then q9.l18 k G false parts eo (i + 1 + 1) r2.1 r2.2.1 (a2 ++ r2.2.2) else none)) S := by
      refine Evs.bind part ?_
      rintro ⟨d', b, l⟩ ⟨r1, r2, r3, r4⟩
      simp only at r1 r2 r3 r4
      subst r3 r4
      have hcap : a2.length + (own'.take m).length ≤ 1759218604441 := by omega
      simp only [if_pos hcap]
      refine ih (own'.drop m) q' (a2 ++ own'.take m) d' (fun y hy => hsub y (List.mem_of_mem_drop hy)) (by omega) hq' hP.right (by omega) (by omega) (by rw [List.length_append]; omega) ?_
      intro mid d'' h1 h2 h3
      have := hend (own'.take m ++ mid) d'' (by rw [List.append_assoc, ← h1, htd]) (by omega) (by rw [cnts_append]; omega)
      simpa [List.append_assoc] using this
     refine Evs.shift ?_
     have w4 : IntKind.i64.wrap (i + 1 + 1) = i + 1 + 1 := w64 (by omega) (by omega)
     have w5 : IntKind.i64.wrap (i + 1) = i + 1 := w1
     simp only [q9.l23, Bool.false_eq_true, not_false_eq_true, if_true, w1, w4, if_pos i0, if_pos i1, hx, eTExpForm_eq]
     by_cases lt2 : i + 1 + 1 < (parts.length : Int)
     ·obtain ⟨y, r', hr⟩ : ∃ y r', r = y :: r' := by
       cases r with
       | nil => simp at hl; omega
       | cons y r' => exact ⟨y, r', rfl⟩
      have hy : rdAt zTExpForm parts (i + 1 + 1) = y := by
       have hlt : i.toNat + 2 < parts.length := by omega
       have e2 : parts.drop (i.toNat + 2) = y :: r' := by
        have := congrArg (List.drop 2) hdr
        rw [List.drop_drop] at this
        simpa [hr] using this
       rw [List.drop_eq_getElem_cons hlt] at e2
       have := rdAt_at zTExpForm parts (i.toNat + 2) hlt
       rw [show ((i.toNat + 2 : Nat) : Int) = i + 1 + 1 by omega] at this
       exact this.trans (List.cons.inj e2).1
      have hyd : isDots y = false := noDots z y (by rw [hr]; simp)
      have p2 : 0 ≤ i + 1 + 1 := by omega
      simp only [if_pos lt2, if_pos p2, hy]
      refine Evs.bind (Evs.of (is_dots y) (P := fun r => r = isDots y) rfl) fun r2 hr2 => ?_
      subst hr2
      simp only [hyd, Bool.false_eq_true, if_false]
      exact cont
     ·simp only [if_neg lt2]
      exact cont
    | false =>
     rw [if_neg (by rw [hdt]; decide)] at ih
     cases own' with
     | nil => simp [seqM, hdx, hdt] at hq
     | cons y own' =>
      simp only [seqM, hdx, hdt, Bool.false_eq_true, if_false, Option.bind_eq_some_iff, Option.map_eq_some_iff] at hq
      obtain ⟨g1, hg1, q', hq', hqq⟩ := hq
      subst hqq
      simp only [pre] at hP hend
      simp only [cnts] at hdc
      simp only [List.length_cons] at hol hal
      have hcy := (cnt_pos y).1
      have hco := (cnts_le own').1
      have part := part0_impl x y G d (hfill x hxm hdx G g1 y d hG (hsub y (by simp)) hg1 hP.left (by omega) (by omega))
      have w6 : IntKind.i64.wrap (i + 0) = i := by rw [Int.add_zero]; exact w64 (by omega) (by omega)
      have cont : Evs (fun k => (qb.f k x 0 G false d false).bind fun r2 => (if a2.length + r2.2.2.length ≤ 1759218604441 then q9.l18 k G false parts eo (i + 1) r2.1 r2.2.1 (a2 ++ r2.2.2) else none)) S := by
       refine Evs.bind part ?_
       rintro ⟨d', b, l⟩ ⟨r1, r2, r3, r4⟩
       simp only at r1 r2 r3 r4
       subst r3 r4
       have hcap : a2.length + [y].length ≤ 1759218604441 := by simp only [List.length_singleton]; omega
       simp only [if_pos hcap]
       refine ih own' q' (a2 ++ [y]) d' (fun z hz => hsub z (by simp [hz])) (by omega) hq' hP.right (by omega) (by omega) (by rw [List.length_append, List.length_singleton]; omega) ?_
       intro mid d'' h1 h2 h3
       have := hend (y :: mid) d'' (by rw [h1]; rfl) (by omega) (by simp only [cnts]; omega)
       simpa [List.append_assoc] using this
      by_cases lt1 : i + 1 < (parts.length : Int)
      ·obtain ⟨y', r', hr⟩ : ∃ y' r', t = y' :: r' := by
        cases t with
        | nil => simp at hl; omega
        | cons y' r' => exact ⟨y', r', rfl⟩
       obtain ⟨rdd, _⟩ := rd1 y' r' hr
       have hyd : isDots y' = false := by rw [hr] at hdt; exact hdt
       have p1 : 0 ≤ i + 1 := by omega
       simp only [q9.l23, Bool.false_eq_true, not_false_eq_true, if_true, w1, w2, w6, if_pos lt1, if_pos p1, if_pos i0, if_pos i1, hx, rdd, eTExpForm_eq]
       refine Evs.bind (Evs.of (is_dots y') (P := fun r => r = isDots y') rfl) fun r2 hr2 => ?_
       subst hr2
       simp only [hyd, Bool.false_eq_true, if_false]
       exact cont
      ·simp only [q9.l23, Bool.false_eq_true, not_false_eq_true, if_true, w1, w2, w6, if_neg lt1, if_pos i0, if_pos i1, hx, eTExpForm_eq]
       exact cont
 exact key own q [] c (fun y hy => hy) hown hq hP hc hcc (by simpa using hown) (fun mid d h1 h2 h3 => by simpa using hend mid d h1 h2 h3)
end Go.Proofs.YtmcbhnbemhfifaaGreatDoor.RX
end
section
namespace Go.Proofs.YtmcbhnbemhfifaaGreatDoor.RX
open Go K
set_option autoImplicit false
set_option linter.unusedVariables false
set_option linter.unusedSimpArgs false
theorem count_made (x : TExpForm) (c : Int) (hw : wid x ≤ 1000000000) (h0 : 0 ≤ c) (hc : c + cnt x ≤ 6000) : Evs (fun k => (q22.f k x c false).bind fun r => some (r.1, r.2.1, r.2.2)) (Made x c) := by
 have := (cnt_pos x).1
 refine Evs.bind (Evs.of (count_impl' x c hw h0 (by omega)) (P := fun r => r = (x, c + cnt x, decide (6000 < c + cnt x))) rfl) fun r hr => ?_
 subst hr
 exact Evs.now ⟨rfl, by simp; omega, by show c ≤ c + cnt x; omega, by show c + cnt x ≤ _; omega⟩
theorem left_wid0 {f : TExpForm} {d : Int} (hok : okf f d = true) (at' : Int) (h0 : 0 ≤ at') (h1 : at' ≤ ((ownOf f).length : Int)) : wid (leftT ((ownOf f).drop at'.toNat) (lastO f)) ≤ wids ((ownOf f).drop at'.toNat) + (wid f - wids (ownOf f)) ∧ 0 ≤ wid f - wids (ownOf f) := by
 have hp := wid_parts f
 have hq := wid_mk f
 rcases okf_shape hok with ⟨h, _⟩ | ⟨h, _⟩ | ⟨h, _⟩
 ·have n : ¬ (f.vSort = 3 ∨ f.vSort = 4) := by omega
  have n3 : ¬ f.vSort = 3 := by omega
  have n4 : ¬ f.vSort = 4 := by omega
  simp [ownOf, if_neg n, lastO, if_neg n3, if_neg n4, leftT, joinT, wids]
  omega
 ·have n : ¬ (f.vSort = 3 ∨ f.vSort = 4) := by omega
  have n3 : ¬ f.vSort = 3 := by omega
  have n4 : ¬ f.vSort = 4 := by omega
  simp [ownOf, if_neg n, lastO, if_neg n3, if_neg n4, leftT, joinT, wids]
  omega
 ·have y : f.vSort = 3 ∨ f.vSort = 4 := by omega
  have ho : ownOf f = partsOf f := by unfold ownOf; rw [if_pos y]
  rw [ho]
  rcases h with h3 | ⟨h4, h5⟩
  ·have n4 : ¬ f.vSort = 4 := by omega
   simp only [partsOf, if_neg n4, lastO, if_pos h3, leftT]
   rw [wid_c]
   simp
   omega
  ·have n3 : ¬ f.vSort = 3 := by omega
   have hks := ends_of h5 h4
   have hw : wids f.vKids = wids (partsOf f) + wid (lastOf f) := by rw [← hks, wids_append, wids_one]
   have := join_wid ((partsOf f).drop at'.toNat) (lastOf f)
   have := wid_pos (lastOf f)
   simp only [lastO, if_neg n3, if_pos h4, leftT]
   omega
theorem left_wid' {f : TExpForm} {d : Int} (hok : okf f d = true) (a : Int) (h0 : 0 ≤ a) (h1 : a ≤ ((ownOf f).length : Int)) : wid (leftT ((ownOf f).drop a.toNat) (lastO f)) ≤ wid f := by
 have h := left_wid0 hok a h0 h1
 have h2 := wids_append ((ownOf f).take a.toNat) ((ownOf f).drop a.toNat)
 rw [List.take_append_drop] at h2
 have h3 := (wids_len ((ownOf f).take a.toNat)).1
 omega
theorem left_ok {f : TExpForm} {d : Int} (hok : okf f d = true) (rest : List TExpForm) (hr : ∃ n, rest = (ownOf f).drop n) {p : TExpForm} (hp : p.vSort = 1 ∨ p.vSort = 2) : (∃ d, okf (leftT rest (lastO f)) d = true) ∨ ((p.vSort = 1 ∨ p.vSort = 2) ∧ ((leftT rest (lastO f)).vSort = 3 ∨ (leftT rest (lastO f)).vSort = 4)) := by
 obtain ⟨n, hr⟩ := hr
 rcases okf_shape hok with ⟨s, _⟩ | ⟨s, _⟩ | ⟨s, hks⟩
 ·have nn : ¬ (f.vSort = 3 ∨ f.vSort = 4) := by omega
  have n3 : ¬ f.vSort = 3 := by omega
  have n4 : ¬ f.vSort = 4 := by omega
  simp only [ownOf, if_neg nn, List.drop_nil] at hr
  left
  refine ⟨d, ?_⟩
  simp only [hr, lastO, if_neg n3, if_neg n4, leftT, joinT, List.length_nil, if_true]
  exact hok
 ·have nn : ¬ (f.vSort = 3 ∨ f.vSort = 4) := by omega
  have n3 : ¬ f.vSort = 3 := by omega
  have n4 : ¬ f.vSort = 4 := by omega
  simp only [ownOf, if_neg nn, List.drop_nil] at hr
  left
  refine ⟨d, ?_⟩
  simp only [hr, lastO, if_neg n3, if_neg n4, leftT, joinT, List.length_nil, if_true]
  exact hok
 ·rcases s with h3 | ⟨h4, h5⟩
  ·right
   refine ⟨hp, .inl ?_⟩
   simp only [lastO, if_pos h3, leftT]
  ·have n3 : ¬ f.vSort = 3 := by omega
   have hls := last_sort hok h4
   have nl : ¬ ((lastOf f).vSort = 3 ∨ (lastOf f).vSort = 4) := by omega
   simp only [lastO, if_neg n3, if_pos h4, leftT, joinT]
   by_cases hz : rest.length = 0
   ·left
    refine ⟨d + 1, ?_⟩
    rw [if_pos hz]
    exact okfs_mem' hks _ (rdAt_mem _ _ _ (by omega) (by omega))
   ·right
    refine ⟨hp, .inr ?_⟩
    rw [if_neg hz, if_neg nl]
theorem fill_impl (binds : List TExpBind) : ∀ (n : Nat) (p : TExpForm) (e : Int) (f : TExpForm) (gs G : GL) (c : Int), cnt p ≤ (n : Int) → okf p e = true → stOk p = true → isDots p = false → fillOk p = true → wid p ≤ 100000000 → wid f ≤ 1000000000 → (p.vSort = 3 ∨ p.vSort = 4 → wid f ≤ 300000000) → (∃ d, okf f d = true) ∨ ((p.vSort = 1 ∨ p.vSort = 2) ∧ (f.vSort = 3 ∨ f.vSort = 4)) → mtn [] binds n p f = some gs → Prov G gs → SmlG G → 0 ≤ c → c + cnt f ≤ 6000 →
  Evs (fun k => q9.f k p G false c false) (Made f c) := by
 intro n
 induction n with
 | zero => intro p e f gs G c hc; have := (cnt_pos p).1; omega
 | succ n ih =>
  intro p e f gs G c hc hok hst hdt hfo hwp hwf hwf3 hokf hm hP hG c0 cc
  have hpp := wid_parts p
  rw [fillOk_mk] at hfo
  simp only [Bool.and_eq_true, Bool.not_eq_true'] at hfo
  obtain ⟨hnb, hfk⟩ := hfo
  simp only [mtn] at hm
  refine Evs.shift ?_
  simp only [q9.f, Bool.false_eq_true, if_false, eTExpForm_eq]
  by_cases h1 : p.vSort = 1
  ·rw [if_pos h1] at hm
   have hl : inB [] p = false := rfl
   simp only [leafM, hl, hnb, Bool.false_eq_true, if_false, Option.some.injEq] at hm
   subst hm
   obtain ⟨i0, i1, i2, i3, _⟩ := hP ⟨p, 0, f, []⟩ (by simp)
   simp only at i0 i1 i2 i3
   simp only [if_pos h1]
   refine Evs.bind (Evs.of (get_impl G p hG) (P := fun r => r = getI 0 G p) rfl) fun r hr => ?_
   subst hr
   have n0 : ¬ getI 0 G p < 0 := by omega
   have nd : ¬ (0 : Int) < 0 := by omega
   simp only [if_neg n0, if_pos i0, if_pos i1, i2, i3, if_neg nd]
   refine Evs.bind (Evs.of (icopy f hwf) (P := fun r => r = f) rfl) fun r hr => ?_
   subst hr
   exact count_made _ c hwf c0 cc
  rw [if_neg h1] at hm
  simp only [if_neg h1]
  by_cases h2 : p.vSort = 2
  ·rw [if_pos h2] at hm
   simp only [if_pos h2]
   split at hm
   ·rename_i f2
    split at hm
    ·rename_i ht
     have hpf : p = f := by
      rcases hokf with ⟨d, hd⟩ | ⟨_, hh⟩
      ·exact okf_atom hd hok f2 h2 ht
      ·omega
     subst hpf
     refine Evs.bind (Evs.of (icopy p hwf) (P := fun r => r = p) rfl) fun r hr => ?_
     subst hr
     exact count_made _ c hwf c0 cc
    ·cases hm
   ·cases hm
  rw [if_neg h2] at hm
  simp only [if_neg h2]
  have P := patL [] hok hst h1 h2
  obtain ⟨d, hokf⟩ : ∃ d, okf f d = true := by
   rcases hokf with h | ⟨h, _⟩
   ·exact h
   ·omega
  have hwf3 := hwf3 (by have := P.sh; omega)
  have hpf := wid_parts f
  unfold listM at hm
  cases hbad : badL p f with
  | true => rw [hbad] at hm; simp at hm
  | false =>
   rw [hbad] at hm
   simp only [Bool.false_eq_true, if_false, Option.bind_eq_some_iff] at hm
   obtain ⟨q, hq, hm⟩ := hm
   have hoks : ∀ y ∈ ownOf f, okf y (d + 1) = true ∧ wid y ≤ 300000000 := by
    intro y hy
    unfold ownOf at hy
    split at hy
    ·have hmem : y ∈ f.vKids := by
      unfold partsOf at hy
      split at hy
      ·exact List.mem_of_mem_take hy
      ·exact hy
     have hwy := wids_mem hmem
     rcases okf_shape hokf with ⟨h', _⟩ | ⟨h', _⟩ | ⟨_, h'⟩
     ·omega
     ·omega
     ·exact ⟨okfs_mem' h' y hmem, by omega⟩
    ·cases hy
   have hown : ((ownOf f).length : Int) ≤ 500000000 := by
    unfold ownOf
    split
    ·unfold partsOf
     split
     ·rw [List.length_take]; omega
     ·omega
    ·simp
   have hcown : cnts (ownOf f) + 1 ≤ cnt f ∨ ownOf f = [] := by
    unfold ownOf
    split
    ·have hcm := cnt_mk f
     left
     unfold partsOf
     split
     ·have h9 := cnts_append (f.vKids.take (f.vKids.length - 1)) (f.vKids.drop (f.vKids.length - 1))
      rw [List.take_append_drop] at h9
      have := (cnts_le (f.vKids.drop (f.vKids.length - 1))).1
      omega
     ·omega
    ·exact .inr rfl
   have hcown2 : cnts (ownOf f) ≤ cnt f := by
    rcases hcown with h | h
    ·omega
    ·rw [h]; have := (cnt_pos f).1; simp [cnts]; omega
   have hsub : ∀ x ∈ p.vKids, cnt x ≤ (n : Int) ∧ wid x ≤ 100000000 := fun x hx => ⟨by have := cnt_mem hx; have := cnt_mk p; omega, by have := wids_mem hx; omega⟩
   have hfp : fillOks (partsOf p) = true := by
    rcases P.sh with s3 | ⟨s4, _⟩
    ·have n4 : ¬ p.vSort = 4 := by omega
     simp only [partsOf, if_neg n4]; exact hfk
    ·have := (P.fin s4).2.2.2
     rw [← this] at hfk
     exact fillOks_left _ _ hfk
   have hPq : Prov G q.1 := by
    split at hm
    ·simp only [Option.map_eq_some_iff] at hm
     obtain ⟨g', _, rfl⟩ := hm
     exact hP.left
    ·injection hm with hm
     rw [hm]; exact hP
   have loop : Evs (fun k => q9.l18 k G false (partsOf p) (if p.vSort = 4 then some (lastOf p) else none) 0 c false []) (Made f c) := by
    refine seq_fill binds n (partsOf p) (ownOf f) _ (e + 1) G hG (by have := P.plen; omega) hown (fun x hx => ⟨(P.kids x (P.sub x hx)).1, (P.kids x (P.sub x hx)).2, (hsub x (P.sub x hx)).2⟩) P.one P.head hfp ?_ (Made f c) q hq hPq c c0 (by omega) ?_
    ·intro x hx hxd G' g y c' s1 s2 s3 s4 s5 s6
     have hx' := P.sub x hx
     exact ih x (e + 1) y g G' c' (hsub x hx').1 (P.kids x hx').1 (P.kids x hx').2 hxd (fillOks_mem hfk x hx') (hsub x hx').2 (by have := (hoks y s2).2; omega) (fun _ => (hoks y s2).2) (.inl ⟨d + 1, (hoks y s2).1⟩) s3 s4 s1 s5 s6
    ·intro mid d' hmid hd1 hd2
     have nl : ¬ ((partsOf p).length : Int) < ((partsOf p).length : Int) := Int.lt_irrefl _
     refine Evs.shift ?_
     simp only [q9.l18, if_neg nl, Bool.false_eq_true, if_false]
     by_cases s4 : p.vSort = 4
     ·obtain ⟨l1, l2, l3, _⟩ := P.fin s4
      simp only [if_pos s4] at hm
      simp only [Option.map_eq_some_iff] at hm
      obtain ⟨g', hg', hgs⟩ := hm
      obtain ⟨jl, jc⟩ := join_left hokf mid q.2 hmid.symm
      have nsome : ¬ (Option.isSome (some (lastOf p)) = false) := by simp
      simp only [if_pos s4, if_neg nsome, Option.bind_some, eTExpForm_eq]
      have hat : ∃ a : Int, 0 ≤ a ∧ a ≤ ((ownOf f).length : Int) ∧ q.2 = (ownOf f).drop a.toNat := by
       refine ⟨(mid.length : Int), by omega, ?_, ?_⟩
       ·rw [hmid, List.length_append]; omega
       ·rw [hmid, Int.toNat_natCast, List.drop_left]
      obtain ⟨a, a0, a1, a2⟩ := hat
      have hlw := left_wid' hokf a a0 a1
      rw [← a2] at hlw
      have hcm := (cnts_le mid).1
      have hPg : Prov G g' := by rw [← hgs] at hP; exact hP.right
      have hml : (mid.length : Int) ≤ 500000000 := by
       have := congrArg List.length hmid
       rw [List.length_append] at this
       omega
      have hl := ih (lastOf p) (e + 1) (leftT q.2 (lastO f)) g' G d' (hsub _ l2).1 (P.kids _ l2).1 (P.kids _ l2).2 l1 (fillOks_mem hfk _ l2) (hsub _ l2).2 (by omega) (fun h => by omega) ?_ hg' hPg hG (by omega) (by omega)
      ·refine Evs.bind hl ?_
       rintro ⟨x', d2, b⟩ ⟨r1, r2, r3, r4⟩
       simp only at r1 r2 r3 r4
       subst r1 r2
       refine Evs.bind (Evs.of (join_impl mid (leftT q.2 (lastO f)) (by omega) (by omega)) (P := fun r => r = joinT mid (leftT q.2 (lastO f))) rfl) fun r hr => ?_
       subst hr
       exact Evs.now ⟨jl, rfl, by show c ≤ d2; omega, by show d2 ≤ _; omega⟩
      ·exact left_ok hokf q.2 (by rw [a2]; exact ⟨_, rfl⟩) l3
     ·have s3 : p.vSort = 3 := by have := P.sh; omega
      have nnone : Option.isSome (none : Option TExpForm) = false := rfl
      simp only [if_neg s4, if_pos nnone]
      have f3 : f.vSort = 3 := by
       unfold badL at hbad
       rw [decide_eq_true s3] at hbad
       simp at hbad
       exact hbad.1
      have hof : ownOf f = f.vKids := by
       have n4 : ¬ f.vSort = 4 := by omega
       simp only [ownOf, if_pos (Or.inl f3 : f.vSort = 3 ∨ f.vSort = 4), partsOf, if_neg n4]
      have hrest : q.2 = [] := by
       have hb := hbad
       unfold badL at hb
       rw [decide_eq_true s3] at hb
       simp only [Bool.or_eq_false_iff, Bool.true_and, Bool.and_eq_false_iff, decide_eq_false_iff_not] at hb
       obtain ⟨_, b1, b2⟩ := hb
       have hnp := nP_dots (partsOf p)
       have hdp := (dotsN_pos (partsOf p)).1
       unfold least at b1 b2
       by_cases z : dotsN (partsOf p) = 0
       ·have := seqM_rest _ _ _ _ _ z hq
        refine List.eq_nil_of_length_eq_zero ?_
        rcases b2 with b2 | b2
        ·exact absurd z b2
        ·omega
       ·exact seqM_all _ _ _ _ _ (by have := P.one; omega) P.head (by have := P.one; omega) hq
      rw [hrest, List.append_nil, hof] at hmid
      subst hmid
      have hfl := okf_list hokf (by omega) (by omega)
      have hcm := cnt_mk f
      have hck := cnts_le f.vKids
      have w1 : IntKind.i64.wrap (d' + 1) = d' + 1 := w64 (by omega) (by omega)
      rw [f3] at hfl
      simp only [w1]
      exact Evs.now ⟨hfl.symm, rfl, by show c ≤ d' + 1; omega, by show d' + 1 ≤ _; omega⟩
   have pr := parts_impl p (by omega) P.sh
   have fin : Evs (fun k => q9.j14 k G false false c false p.vSort p.vText p.vScopes p.vFrom p.vKids) (Made f c) := by
    simp only [q9.j14, q9.j14b, Bool.false_eq_true, if_false, mTExpForm]
    refine Evs.bind (Evs.of pr (P := fun r => r = (partsOf p, if p.vSort = 4 then some (lastOf p) else none)) rfl) fun r hr => ?_
    subst hr
    exact loop
   simp only [not_false_eq_true, if_true]
   by_cases s3 : p.vSort = 3
   ·simp only [if_pos s3]
    by_cases k2 : (p.vKids.length : Int) = 2
    ·have k0 : (0 : Int) < (p.vKids.length : Int) := by omega
     simp only [if_pos k2, if_pos k0]
     refine Evs.bind (Evs.of (is_dots (rdAt zTExpForm p.vKids 0)) (P := fun r => r = isDots (rdAt zTExpForm p.vKids 0)) rfl) fun r hr => ?_
     subst hr
     have hz : isDots (rdAt zTExpForm p.vKids 0) = false := by
      have hh := P.head
      have n4 : ¬ p.vSort = 4 := by omega
      simp only [partsOf, if_neg n4] at hh
      cases hk : p.vKids with
      | nil => rw [hk] at k0; simp at k0
      | cons a l => rw [hk] at hh; exact hh
     rw [hz]
     exact fin
    ·simp only [if_neg k2]
     exact fin
   ·simp only [if_neg s3]
    exact fin
end Go.Proofs.YtmcbhnbemhfifaaGreatDoor.RX
end
section
namespace Go.Proofs.YtmcbhnbemhfifaaGreatDoor.RX
open Go K
set_option autoImplicit false
set_option linter.unusedVariables false
set_option linter.unusedSimpArgs false
theorem okf_mono : ∀ (x : TExpForm) (d d' : Int), okf x d = true → d' ≤ d → okf x d' = true := by
 refine indForm fun x ih d d' h hd => ?_
 have hk : okfs x.vKids (d + 1) = true → okfs x.vKids (d' + 1) = true := by
  generalize x.vKids = l at ih
  intro h
  induction l with
  | nil => rfl
  | cons y l ihl =>
   simp only [okfs, Bool.and_eq_true] at h ⊢
   exact ⟨ih y (by simp) _ _ h.1 (by omega), ihl (fun z hz => ih z (by simp [hz])) h.2⟩
 rw [okf_mk, Bool.and_eq_true, decide_eq_true_eq] at h
 rw [okf_mk, Bool.and_eq_true, decide_eq_true_eq]
 refine ⟨by omega, ?_⟩
 obtain ⟨_, h⟩ := h
 by_cases h1 : x.vSort = 1
 ·rw [if_pos h1] at h ⊢; exact h
 by_cases h2 : x.vSort = 2
 ·rw [if_neg h1, if_pos h2] at h ⊢; exact h
 rw [if_neg h1, if_neg h2] at h ⊢
 simp only [Bool.and_eq_true] at h ⊢
 exact ⟨h.1, h.2.1, h.2.2.1, h.2.2.2.1, hk h.2.2.2.2.1, h.2.2.2.2.2⟩
theorem okf_le {x : TExpForm} {d : Int} (h : okf x d = true) : d ≤ 60 := by
 rw [okf_mk, Bool.and_eq_true, decide_eq_true_eq] at h
 exact h.1
theorem okfs_of {l : List TExpForm} {d : Int} (h : ∀ x ∈ l, okf x d = true) : okfs l d = true := by
 induction l with
 | nil => rfl
 | cons y l ih =>
  simp only [okfs, Bool.and_eq_true]
  exact ⟨h y (by simp), ih fun z hz => h z (by simp [hz])⟩
theorem left_okf {f : TExpForm} {d : Int} (hok : okf f d = true) (n : Nat) : okf (leftT ((ownOf f).drop n) (lastO f)) d = true := by
 have hle := okf_le hok
 rcases okf_shape hok with ⟨s, _⟩ | ⟨s, _⟩ | ⟨s, hks⟩
 ·have nn : ¬ (f.vSort = 3 ∨ f.vSort = 4) := by omega
  have n3 : ¬ f.vSort = 3 := by omega
  have n4 : ¬ f.vSort = 4 := by omega
  simp only [ownOf, if_neg nn, List.drop_nil, lastO, if_neg n3, if_neg n4, leftT, joinT, List.length_nil, if_true]
  exact hok
 ·have nn : ¬ (f.vSort = 3 ∨ f.vSort = 4) := by omega
  have n3 : ¬ f.vSort = 3 := by omega
  have n4 : ¬ f.vSort = 4 := by omega
  simp only [ownOf, if_neg nn, List.drop_nil, lastO, if_neg n3, if_neg n4, leftT, joinT, List.length_nil, if_true]
  exact hok
 ·have y : f.vSort = 3 ∨ f.vSort = 4 := by omega
  have ho : ownOf f = partsOf f := by unfold ownOf; rw [if_pos y]
  have hm := okfs_mem' hks
  have hdm : ∀ x ∈ (partsOf f).drop n, okf x (d + 1) = true := by
   intro x hx
   have hx := List.mem_of_mem_drop hx
   refine hm x ?_
   unfold partsOf at hx
   split at hx
   ·exact List.mem_of_mem_take hx
   ·exact hx
  rw [ho]
  rcases s with h3 | ⟨h4, h5⟩
  ·simp only [lastO, if_pos h3, leftT]
   rw [okf_mk]
   simp only [Bool.and_eq_true, decide_eq_true_eq]
   refine ⟨hle, ?_⟩
   simp [okfs_of hdm, show bytesOf ByteArray.empty = [] from rfl]
  ·have n3 : ¬ f.vSort = 3 := by omega
   have hls := last_sort hok h4
   have nl : ¬ ((lastOf f).vSort = 3 ∨ (lastOf f).vSort = 4) := by omega
   have hlm : lastOf f ∈ f.vKids := rdAt_mem _ _ _ (by omega) (by omega)
   simp only [lastO, if_neg n3, if_pos h4, leftT, joinT]
   split
   ·exact okf_mono _ _ _ (hm _ hlm) (by omega)
   ·rename_i hz
    rw [okf_mk]
    simp only [Bool.and_eq_true, decide_eq_true_eq]
    refine ⟨hle, ?_⟩
    have hall : okfs ((partsOf f).drop n ++ [lastOf f]) (d + 1) = true := okfs_of fun x hx => by
     rcases List.mem_append.1 hx with hx | hx
     ·exact hdm x hx
     ·rw [List.mem_singleton.1 hx]; exact hm _ hlm
    have hlast : lastOk ((partsOf f).drop n ++ [lastOf f]) = true := by
     unfold lastOk
     have e : rdAt zTExpForm ((partsOf f).drop n ++ [lastOf f]) ((((partsOf f).drop n ++ [lastOf f]).length : Int) - 1) = lastOf f := by
      rw [List.length_append, List.length_singleton]
      exact mid_rd (r := []) (by omega)
     rw [e]
     simp only [Bool.and_eq_true, Bool.or_eq_true, decide_eq_true_eq]
     exact ⟨by rw [List.length_append, List.length_singleton]; omega, hls⟩
    simp [hall, hlast, show bytesOf ByteArray.empty = [] from rfl]
theorem nms_ok : ∀ (p : TExpForm) (e : Int), okf p e = true → 0 ≤ e → ∀ y ∈ nms [] p, okf y 0 = true ∧ cnt y = 1 := by
 refine indForm fun p ih e hok he y hy => ?_
 rw [nms_mk] at hy
 split at hy
 ·rename_i h1
  split at hy
  ·cases hy
  ·rw [List.mem_singleton.1 hy]
   have hk : p.vKids = [] := by
    rcases okf_shape hok with ⟨_, k⟩ | ⟨_, k⟩ | ⟨h', _⟩
    ·exact k
    ·exact k
    ·omega
   exact ⟨okf_mono p e 0 hok he, by rw [cnt_mk, hk]; rfl⟩
 ·rename_i h1
  have hks : ∀ x ∈ p.vKids, okf x (e + 1) = true := by
   rcases okf_shape hok with ⟨h, _⟩ | ⟨_, h⟩ | ⟨_, h⟩
   ·exact absurd h h1
   ·rw [h]; intro x hx; cases hx
   ·exact okfs_mem' h
  generalize p.vKids = l at hy ih hks
  induction l with
  | nil => simp [nmss] at hy
  | cons z l ihl =>
   simp only [nmss] at hy
   rcases List.mem_append.1 hy with h | h
   ·exact ih z (by simp) (e + 1) (hks z (by simp)) (by omega) y h
   ·exact ihl h (fun w hw => ih w (by simp [hw])) (fun w hw => hks w (by simp [hw]))
theorem nonD_depth (lits : List TExpForm) : ∀ (p : TExpForm) (e : Int), okf p e = true → ∀ a, ∀ g ∈ nonD lits p a, g.vDeep ≤ a + (60 - e) := by
 refine indForm fun p ih e hok a g hg => ?_
 have hle := okf_le hok
 rw [nonD_mk] at hg
 split at hg
 ·split at hg
  ·cases hg
  ·rw [List.mem_singleton.1 hg]; show a ≤ _; omega
 ·rename_i h1
  have hks : ∀ x ∈ p.vKids, okf x (e + 1) = true := by
   rcases okf_shape hok with ⟨h, _⟩ | ⟨_, h⟩ | ⟨_, h⟩
   ·exact absurd h h1
   ·rw [h]; intro x hx; cases hx
   ·exact okfs_mem' h
  generalize p.vKids = l at hg ih hks
  induction l with
  | nil => simp [nonDs] at hg
  | cons z l ihl =>
   simp only [nonDs] at hg
   rcases List.mem_append.1 hg with h | h
   ·have := ih z (by simp) (e + 1) (hks z (by simp)) _ g h
    split at this <;> omega
   ·exact ihl h (fun w hw => ih w (by simp [hw])) (fun w hw => hks w (by simp [hw]))
theorem nonD_dots (lits : List TExpForm) {x : TExpForm} (h : isDots x = true) (d : Int) : nonD lits x d = [] := by
 have := nonD_len lits x d
 rw [nms_dots lits h] at this
 exact List.eq_nil_of_length_eq_zero this
theorem mtn_deep (lits : List TExpForm) (binds : List TExpBind) : ∀ (n : Nat) (p : TExpForm) (e : Int) (f : TExpForm) (g : GL), okf p e = true → stOk p = true → isDots p = false → mtn lits binds n p f = some g → g.map (fun y => y.vDeep) = (nonD lits p 0).map (fun y => y.vDeep) := by
 intro n
 induction n with
 | zero => intro p e f g _ _ _ h; cases h
 | succ n ih =>
  intro p e f g hok hst hd h
  simp only [mtn] at h
  by_cases h1 : p.vSort = 1
  ·rw [if_pos h1] at h
   rw [nonD_mk, if_pos h1, hd]
   unfold leafM at h
   cases hl : inB lits p with
   | true =>
    rw [hl] at h
    simp only [if_true] at h
    split at h
    ·split at h
     ·injection h with h; subst h; simp
     ·cases h
    ·cases h
   | false =>
    rw [hl] at h
    simp only [Bool.false_eq_true, if_false] at h
    cases hb : isBlank p with
    | true => rw [hb] at h; simp only [if_true, Option.some.injEq] at h; subst h; simp
    | false => rw [hb] at h; simp only [Bool.false_eq_true, if_false, Option.some.injEq] at h; subst h; simp
  rw [if_neg h1] at h
  by_cases h2 : p.vSort = 2
  ·rw [if_pos h2] at h
   have hk : p.vKids = [] := by
    rcases okf_shape hok with ⟨h', k⟩ | ⟨_, k⟩ | ⟨h', _⟩
    ·exact k
    ·exact k
    ·omega
   rw [nonD_mk, if_neg h1, hk]
   split at h
   ·split at h
    ·injection h with h; subst h; rfl
    ·cases h
   ·cases h
  rw [if_neg h2] at h
  have P := patL lits hok hst h1 h2
  unfold listM at h
  split at h
  ·cases h
  simp only [Option.bind_eq_some_iff] at h
  obtain ⟨q, hq, h⟩ := h
  have seq : ∀ (suf own : List TExpForm) (q : GL × List TExpForm), (∀ x ∈ suf, x ∈ p.vKids) → seqM (mtn lits binds n) (fun x => nonD lits x 1) suf own = some q → q.1.map (fun y => y.vDeep) = (nonDs lits suf 0).map (fun y => y.vDeep) := by
   intro suf
   induction suf with
   | nil => intro own q _ h; simp only [seqM, Option.some.injEq] at h; rw [← h]; rfl
   | cons x ps ihs =>
    intro own q hsub h
    have ihs := fun own q => ihs own q (fun y hy => hsub y (List.mem_cons_of_mem _ hy))
    have hx := hsub x (by simp)
    simp only [seqM] at h
    simp only [nonDs]
    cases hd : isDots x with
    | true =>
     rw [hd] at h
     simp only [if_true] at h
     rw [nonD_dots lits hd]
     simpa using ihs own q h
    | false =>
     rw [hd] at h
     simp only [Bool.false_eq_true, if_false] at h
     have hp := fun f' g' => ih x (e + 1) f' g' (P.kids x hx).1 (P.kids x hx).2 hd
     cases hh : headDots ps with
     | true =>
      rw [hh] at h
      simp only [if_true, Option.bind_eq_some_iff, Option.map_eq_some_iff] at h
      obtain ⟨g, g1, q', g2, g3⟩ := h
      rw [← g3]
      simp only [pre, List.map_append, if_true]
      rw [ihs _ _ g2]
      congr 1
      have hl := manyM_len _ _ _ _ g1
      obtain ⟨k1, _⟩ := manyM_get (mtn lits binds n x) (nms lits x).length (fun f' g' hg' => mtn_len lits binds n x (e + 1) f' g' (P.kids x hx).1 (P.kids x hx).2 hd hg') _ (nonD lits x 1) g 0 (nonD_len lits x 1) (fun j hj => by
       have hj' : j < (nonD lits x 1).length := by rw [nonD_len]; exact hj
       rw [List.getD_eq_getElem?_getD, List.getElem?_eq_getElem hj', Option.getD_some, nonD_many lits x 1 _ (List.getElem_mem _)]
       rfl) g1
      refine List.ext_getElem (by simp [hl]) ?_
      intro i i1 i2
      have j1 : i < g.length := by simpa using i1
      have j2 : i < (nonD lits x 1).length := by simpa [hl] using j1
      have := (k1 i (by rw [nonD_len] at j2; exact j2)).2.1
      rw [List.getD_eq_getElem?_getD, List.getElem?_eq_getElem j1, List.getD_eq_getElem?_getD, List.getElem?_eq_getElem j2] at this
      simpa using this
     | false =>
      rw [hh] at h
      simp only [Bool.false_eq_true, if_false] at h
      cases own with
      | nil => cases h
      | cons z own =>
       simp only [Option.bind_eq_some_iff, Option.map_eq_some_iff] at h
       obtain ⟨g, g1, q', g2, g3⟩ := h
       rw [← g3]
       simp only [pre, List.map_append, Bool.false_eq_true, if_false]
       rw [ihs _ _ g2, hp z g g1]
  have hl := seq _ _ _ P.sub hq
  have whole : nonD lits p 0 = nonDs lits (partsOf p) 0 ++ (if p.vSort = 4 then nonD lits (lastOf p) 0 else []) := by
   rw [nonD_mk, if_neg h1]
   rcases P.sh with s3 | ⟨s4, _⟩
   ·have n4 : ¬ p.vSort = 4 := by omega
    simp only [partsOf, if_neg n4, List.append_nil]
   ·rw [if_pos s4]
    obtain ⟨l1, _, _, l4⟩ := P.fin s4
    rw [← l4, nonDs_append _ _ _ l1]
  rw [whole]
  split at h
  ·rename_i h4
   rw [if_pos h4]
   obtain ⟨f1, f2, _⟩ := P.fin h4
   simp only [Option.map_eq_some_iff] at h
   obtain ⟨g', hg', rfl⟩ := h
   rw [List.map_append, List.map_append, hl, ih _ _ _ _ (P.kids _ f2).1 (P.kids _ f2).2 f1 hg']
  ·rename_i h4
   rw [if_neg h4]
   injection h with h
   rw [← h, hl, List.append_nil]
abbrev Gok (g : TExpGot) : Prop := Ev (fun k => qo.f k g) true
theorem gok_leaf (g : TExpGot) (hn1 : g.vName.vSort = 1) (hn : okb g.vName = true) (hnw : wid g.vName ≤ 1000000000) (hd : g.vDeep = 0) (hm : g.vMany = []) (hf : okb g.vForm = true) (hfw : wid g.vForm ≤ 1000000000) : Gok g := by
 refine Ev.shift ?_
 have n1 : ¬ g.vDeep < 0 := by omega
 have n2 : ¬ 60 < g.vDeep := by omega
 simp only [qo.f, if_neg (decide_not_ne hn1), eTExpForm_eq]
 refine Ev.bind (formOk_impl g.vName hnw) ?_
 rw [hn]
 simp only [not_true, if_false, if_neg n1, if_neg n2, qo.j3b, if_pos hd, hm, List.length_nil, mTExpForm]
 have z : ((0 : Nat) : Int) = 0 := rfl
 simp only [if_pos z]
 refine Ev.bind (formOk_impl g.vForm hfw) ?_
 rw [hf]
 exact Ev.now _
theorem gok_many (g : TExpGot) (hn1 : g.vName.vSort = 1) (hn : okb g.vName = true) (hnw : wid g.vName ≤ 1000000000) (hd : 1 ≤ g.vDeep) (hd2 : g.vDeep ≤ 60) (hl : (g.vMany.length : Int) ≤ 1000000000) (hm : ∀ y ∈ g.vMany, y.vDeep = g.vDeep - 1 ∧ Gok y) : Gok g := by
 refine Ev.shift ?_
 have n1 : ¬ g.vDeep < 0 := by omega
 have n2 : ¬ 60 < g.vDeep := by omega
 have n3 : ¬ g.vDeep = 0 := by omega
 simp only [qo.f, if_neg (decide_not_ne hn1), eTExpForm_eq]
 refine Ev.bind (formOk_impl g.vName hnw) ?_
 rw [hn]
 simp only [not_true, if_false, if_neg n1, if_neg n2, qo.j3b, if_neg n3]
 refine goList g.vMany (P := fun i suf => Ev (fun k => qo.l6 k g.vMany (g.vMany.length : Int) i g.vDeep) true) ?_ ?_
 ·refine Ev.shift ?_
  simp (disch := omega) only [qo.l6, if_neg]; exact Ev.now _
 ·intro i x r i0 i1 hx hxm _ _ _ ih
  obtain ⟨h1, h2⟩ := hm x hxm
  refine Ev.shift ?_
  have w1 : IntKind.i64.wrap (g.vDeep - 1) = g.vDeep - 1 := w64 (by omega) (by omega)
  have w2 : IntKind.i64.wrap (i + 1) = i + 1 := w64 (by omega) (by omega)
  have e1 : ¬ ¬ x.vDeep = g.vDeep - 1 := decide_not_ne h1
  simp only [qo.l6, if_pos i1, if_pos i0, hx, w1, w2, if_neg e1, eTExpForm_eq, mTExpGot]
  refine Ev.bind h2 ?_
  simp only [not_true, if_false]
  exact ih
theorem nonD_form0 (lits : List TExpForm) : ∀ x : TExpForm, ∀ d, ∀ g ∈ nonD lits x d, g.vForm = zTExpForm := by
 refine indForm fun x ih d g hg => ?_
 rw [nonD_mk] at hg
 split at hg
 ·split at hg
  ·cases hg
  ·rw [List.mem_singleton.1 hg]
 ·generalize hl : x.vKids = l at hg
  rw [hl] at ih
  clear hl
  induction l with
  | nil => simp [nonDs] at hg
  | cons y l ihl =>
   simp only [nonDs] at hg
   rcases List.mem_append.1 hg with h | h
   ·exact ih y (by simp) _ g h
   ·exact ihl (fun z hz => ih z (by simp [hz])) h
theorem gots_all (lits : List TExpForm) (binds : List TExpBind) (Pr : TExpGot → Prop)
  (leaf : ∀ g : TExpGot, g.vName.vSort = 1 → okb g.vName = true → wid g.vName ≤ 1000000000 → g.vDeep = 0 → g.vMany = [] → okb g.vForm = true → wid g.vForm ≤ 1000000000 → Pr g)
  (many : ∀ g : TExpGot, g.vName.vSort = 1 → okb g.vName = true → wid g.vName ≤ 1000000000 → 1 ≤ g.vDeep → g.vDeep ≤ 60 → g.vForm = zTExpForm → (g.vMany.length : Int) ≤ 1000000000 → (∀ y ∈ g.vMany, y.vDeep = g.vDeep - 1 ∧ Pr y) → Pr g) : ∀ (n : Nat) (p : TExpForm) (e : Int) (f : TExpForm) (d : Int) (gs : GL), cnt p ≤ (n : Int) → okf p e = true → 0 ≤ e → stOk p = true → isDots p = false → wid p ≤ 100000000 → wid f ≤ 100000000 → okf f d = true → 0 ≤ d → cnt f ≤ 1500 → mtn lits binds n p f = some gs → ∀ g ∈ gs, Pr g := by
 intro n
 induction n with
 | zero => intro p e f d gs hc; have := (cnt_pos p).1; omega
 | succ n ih =>
  intro p e f d gs hc hok he hst hdt hwp hwf hokf hd0 hcf hm g hg
  have hpp := wid_parts p
  have hm0 := hm
  simp only [mtn] at hm
  by_cases h1 : p.vSort = 1
  ·rw [if_pos h1] at hm
   unfold leafM at hm
   split at hm
   ·split at hm
    ·split at hm
     ·injection hm with hm
      rw [← hm] at hg; cases hg
     ·cases hm
    ·cases hm
   split at hm
   ·injection hm with hm
    rw [← hm] at hg; cases hg
   ·injection hm with hm
    rw [← hm] at hg
    rw [List.mem_singleton.1 hg]
    have hk : p.vKids = [] := by
     rcases okf_shape hok with ⟨_, k⟩ | ⟨_, k⟩ | ⟨h', _⟩
     ·exact k
     ·exact k
     ·omega
    have hcp : cnt p = 1 := by rw [cnt_mk, hk]; rfl
    refine leaf _ h1 ?_ (by show wid p ≤ _; omega) rfl rfl ?_ (by show wid f ≤ _; omega)
    ·show okb p = true
     unfold okb leB
     rw [okf_mono p e 0 hok he, hcp]; rfl
    ·show okb f = true
     unfold okb leB
     rw [okf_mono f d 0 hokf hd0]
     simp; omega
  rw [if_neg h1] at hm
  by_cases h2 : p.vSort = 2
  ·rw [if_pos h2] at hm
   split at hm
   ·split at hm
    ·injection hm with hm; rw [← hm] at hg; cases hg
    ·cases hm
   ·cases hm
  rw [if_neg h2] at hm
  have P := patL lits hok hst h1 h2
  unfold listM at hm
  split at hm
  ·cases hm
  simp only [Option.bind_eq_some_iff] at hm
  obtain ⟨q, hq, hm⟩ := hm
  have hpf := wid_parts f
  have hcfm := cnt_mk f
  have hoks : ∀ y ∈ ownOf f, okf y (d + 1) = true ∧ wid y ≤ 100000000 ∧ cnt y ≤ 1500 := by
   intro y hy
   unfold ownOf at hy
   split at hy
   ·have hmem : y ∈ f.vKids := by
     unfold partsOf at hy
     split at hy
     ·exact List.mem_of_mem_take hy
     ·exact hy
    have hwy := wids_mem hmem
    have hcy := cnt_mem hmem
    rcases okf_shape hokf with ⟨h', _⟩ | ⟨h', _⟩ | ⟨_, h'⟩
    ·omega
    ·omega
    ·exact ⟨okfs_mem' h' y hmem, by omega, by omega⟩
   ·cases hy
  have hown : ((ownOf f).length : Int) ≤ 500000000 := by
   unfold ownOf
   split
   ·unfold partsOf
    split
    ·rw [List.length_take]; omega
    ·omega
   ·simp
  have hsub : ∀ x ∈ p.vKids, cnt x ≤ (n : Int) ∧ wid x ≤ 100000000 := fun x hx => ⟨by have := cnt_mem hx; have := cnt_mk p; omega, by have := wids_mem hx; omega⟩
  have one : ∀ x ∈ p.vKids, isDots x = false → ∀ y ∈ ownOf f, ∀ g', mtn lits binds n x y = some g' → ∀ z ∈ g', Pr z := fun x hx hxd y hy g' hg' => ih x (e + 1) y (d + 1) g' (hsub x hx).1 (P.kids x hx).1 (by omega) (P.kids x hx).2 hxd (hsub x hx).2 (hoks y hy).2.1 (hoks y hy).1 (by omega) (hoks y hy).2.2 hg'
  have seq : ∀ (suf own : List TExpForm) (q : GL × List TExpForm), (∀ x ∈ suf, x ∈ p.vKids) → (∀ y ∈ own, y ∈ ownOf f) → (own.length : Int) ≤ 500000000 → seqM (mtn lits binds n) (fun x => nonD lits x 1) suf own = some q → (∀ z ∈ q.1, Pr z) ∧ ∃ m, q.2 = own.drop m := by
   intro suf
   induction suf with
   | nil => intro own q _ _ _ h; simp only [seqM, Option.some.injEq] at h; rw [← h]; exact ⟨fun z hz => (by cases hz), 0, rfl⟩
   | cons x ps ihs =>
    intro own q hsub' hown' hol h
    have ihs := fun own q h1 h2 h3 => ihs own q (fun y hy => hsub' y (List.mem_cons_of_mem _ hy)) h1 h2 h3
    have hx := hsub' x (by simp)
    simp only [seqM] at h
    cases hd : isDots x with
    | true =>
     rw [hd] at h
     simp only [if_true] at h
     exact ihs own q hown' hol h
    | false =>
     rw [hd] at h
     simp only [Bool.false_eq_true, if_false] at h
     split at h
     ·simp only [Option.bind_eq_some_iff, Option.map_eq_some_iff] at h
      obtain ⟨g1, e1, q', e2, e3⟩ := h
      obtain ⟨a1, m', a2⟩ := ihs _ _ (fun y hy => hown' y (List.mem_of_mem_drop hy)) (by rw [List.length_drop]; omega) e2
      rw [← e3]
      simp only [pre]
      refine ⟨fun z hz => ?_, _, by rw [a2, List.drop_drop]⟩
      rcases List.mem_append.1 hz with hz | hz
      ·have hl := manyM_len _ _ _ _ e1
       have hml := fun f' g' hg' => mtn_len lits binds n x (e + 1) f' g' (P.kids x hx).1 (P.kids x hx).2 hd hg'
       obtain ⟨k1, k2⟩ := manyM_get (mtn lits binds n x) (nms lits x).length hml _ (nonD lits x 1) g1 0 (nonD_len lits x 1) (fun j hj => by
        have hj' : j < (nonD lits x 1).length := by rw [nonD_len]; exact hj
        rw [List.getD_eq_getElem?_getD, List.getElem?_eq_getElem hj', Option.getD_some, nonD_many lits x 1 _ (List.getElem_mem _)]
        rfl) e1
       obtain ⟨j, hj, rfl⟩ := List.getElem_of_mem hz
       have hjd : j < (nonD lits x 1).length := by omega
       have hjN : j < (nms lits x).length := by rw [← nonD_len lits x 1]; exact hjd
       obtain ⟨b1, b2, b3, b4, _⟩ := k1 j hjN
       rw [List.getD_eq_getElem?_getD, List.getElem?_eq_getElem hj, Option.getD_some] at b1 b2 b3 b4
       rw [List.getD_eq_getElem?_getD, List.getElem?_eq_getElem hjd, Option.getD_some] at b1 b2 b3
       have hmem : (nonD lits x 1)[j] ∈ nonD lits x 1 := List.getElem_mem _
       have hnm := nonD_mem hmem
       obtain ⟨c1, c2⟩ := nms_ok x (e + 1) (P.kids x hx).1 (by omega) _ (nms_sub lits x _ hnm).1
       have c3 := (nms_facts lits x).2 _ hnm
       have c4 := nonD_deep lits x 1 _ hmem
       have c5 := nonD_depth lits x (e + 1) (P.kids x hx).1 1 _ hmem
       refine many _ (by rw [b1]; exact c3.1) ?_ (by rw [b1]; have := (hsub x hx).2; omega) (by rw [b2]; omega) (by rw [b2]; omega) (by rw [b3]; exact nonD_form0 lits x 1 _ hmem) ?_ ?_
       ·rw [b1]
        unfold okb leB
        rw [c1, c2]; rfl
       ·rw [b4, List.length_take]; omega
       ·intro y hy
        obtain ⟨K, hK, rfl⟩ := List.getElem_of_mem hy
        have hKx : K < (own.take (own.length - nP ps)).length := by rw [b4] at hK; omega
        obtain ⟨gK, d1, d2⟩ := k2 K hKx
        have d3 := d2 j hjN
        have hgl := hml _ _ d1
        have hjg : j < gK.length := by omega
        rw [List.getD_eq_getElem?_getD (l := g1), List.getElem?_eq_getElem hj, Option.getD_some, Nat.zero_add, List.getD_eq_getElem?_getD, List.getElem?_eq_getElem hK, Option.getD_some, List.getD_eq_getElem?_getD, List.getElem?_eq_getElem hjg, Option.getD_some] at d3
        rw [d3]
        have hyo : (own.take (own.length - nP ps))[K] ∈ ownOf f := hown' _ (List.mem_of_mem_take (List.getElem_mem _))
        refine ⟨?_, one x hx hd _ hyo gK d1 _ (List.getElem_mem _)⟩
        have hdp := mtn_deep lits binds n x (e + 1) _ gK (P.kids x hx).1 (P.kids x hx).2 hd d1
        have hs1 : nonD lits x 1 = (nonD lits x 0).map (sink 1) := nonD_sink lits x 0 1
        have hj0 : j < (nonD lits x 0).length := by rw [nonD_len]; exact hjN
        have t1 := congrArg (fun l => l[j]?) hdp
        simp only [List.getElem?_map, List.getElem?_eq_getElem hjg, List.getElem?_eq_getElem hj0, Option.map_some, Option.some.injEq] at t1
        have t2 : (nonD lits x 1)[j].vDeep = (nonD lits x 0)[j].vDeep + 1 := by
         have t3 := congrArg (fun l => l[j]?) hs1
         simp only [List.getElem?_map, List.getElem?_eq_getElem hjd, List.getElem?_eq_getElem hj0, Option.map_some, Option.some.injEq] at t3
         rw [t3]; rfl
        rw [b2, t1, t2]; omega
      ·exact a1 z hz
     ·cases own with
      | nil => cases h
      | cons z0 own =>
       simp only [Option.bind_eq_some_iff, Option.map_eq_some_iff] at h
       obtain ⟨g1, e1, q', e2, e3⟩ := h
       simp only [List.length_cons] at hol
       obtain ⟨a1, m', a2⟩ := ihs _ _ (fun y hy => hown' y (by simp [hy])) (by omega) e2
       rw [← e3]
       simp only [pre]
       refine ⟨fun z hz => ?_, m' + 1, a2⟩
       rcases List.mem_append.1 hz with hz | hz
       ·exact one x hx hd z0 (hown' z0 (by simp)) g1 e1 z hz
       ·exact a1 z hz
  obtain ⟨s1, m, s2⟩ := seq (partsOf p) (ownOf f) q P.sub (fun y hy => hy) hown hq
  split at hm
  ·rename_i h4
   obtain ⟨f1, f2, _⟩ := P.fin h4
   simp only [Option.map_eq_some_iff] at hm
   obtain ⟨g', hg', rfl⟩ := hm
   rcases List.mem_append.1 hg with hg | hg
   ·exact s1 g hg
   ·rw [s2] at hg'
    have hlo := left_okf hokf m
    have hmid := join_left hokf ((ownOf f).take m) ((ownOf f).drop m) (List.take_append_drop _ _)
    have hcm := (cnts_le ((ownOf f).take m)).1
    have hlw : wid (leftT ((ownOf f).drop m) (lastO f)) ≤ wid f := by
     by_cases hml : m ≤ (ownOf f).length
     ·have := left_wid' hokf (m : Int) (by omega) (by omega)
      rwa [Int.toNat_natCast] at this
     ·have := left_wid' hokf ((ownOf f).length : Int) (by omega) (by omega)
      rw [Int.toNat_natCast, List.drop_length] at this
      rw [List.drop_eq_nil_of_le (by omega)]
      exact this
    exact ih (lastOf p) (e + 1) _ d g' (hsub _ f2).1 (P.kids _ f2).1 (by omega) (P.kids _ f2).2 f1 (hsub _ f2).2 (by omega) hlo hd0 (by omega) hg' g hg
  ·injection hm with hm
   rw [← hm] at hg
   exact s1 g hg
end Go.Proofs.YtmcbhnbemhfifaaGreatDoor.RX
end
section
namespace Go.Proofs.YtmcbhnbemhfifaaGreatDoor.RX
open Go K
set_option autoImplicit false
set_option linter.unusedVariables false
set_option linter.unusedSimpArgs false
theorem getI_self : ∀ (l : GL) (s : List TExpForm) (i : Int), noDup s (l.map fun g => g.vName) = true → ∀ (j : Nat) (h : j < l.length), getI i l (l[j]).vName = i + (j : Int)
 | [], s, i, _, j, h => by simp at h
 | g :: l, s, i, hd, 0, h => by
  simp only [getI, List.getElem_cons_zero, sameB_refl, if_true]; omega
 | g :: l, s, i, hd, j + 1, h => by
  simp only [List.map_cons, noDup, Bool.and_eq_true] at hd
  have hj : j < l.length := by simpa using h
  have hm : (l[j]).vName ∈ l.map fun g => g.vName := List.mem_map_of_mem (List.getElem_mem hj)
  have := noDup_apart hd.2 (x := g.vName) (List.mem_append_right _ (by simp)) hm
  simp only [getI, List.getElem_cons_succ, this, Bool.false_eq_true, if_false]
  rw [getI_self l _ (i + 1) hd.2 j hj]
  omega
theorem prov_self (l : GL) (hd : noDup [] (l.map fun g => g.vName) = true) : Prov l l := by
 intro g hg
 obtain ⟨j, hj, rfl⟩ := List.getElem_of_mem hg
 have := getI_self l [] 0 hd j hj
 rw [this, Int.zero_add, rdAt_at _ _ _ hj]
 exact ⟨by omega, by omega, rfl, rfl, rfl⟩
theorem gots_gok (binds : List TExpBind) (n : Nat) (p : TExpForm) (e : Int) (f : TExpForm) (d : Int) (gs : GL) (hc : cnt p ≤ (n : Int)) (hok : okf p e = true) (he : 0 ≤ e) (hst : stOk p = true) (hdt : isDots p = false) (hwp : wid p ≤ 100000000) (hwf : wid f ≤ 100000000) (hokf : okf f d = true) (hd : 0 ≤ d) (hcf : cnt f ≤ 1500) (hm : mtn [] binds n p f = some gs) : ∀ g ∈ gs, Gok g :=
 gots_all [] binds Gok (fun g a1 a2 a3 a4 a5 a6 a7 => gok_leaf g a1 a2 a3 a4 a5 a6 a7) (fun g a1 a2 a3 a4 a5 _ a6 a7 => gok_many g a1 a2 a3 a4 a5 a6 a7) n p e f d gs hc hok he hst hdt hwp hwf hokf hd hcf hm
theorem ExpFill_impl (binds : List TExpBind) (n : Nat) (p f : TExpForm) (gs : GL) (hc : cnt p ≤ (n : Int)) (hp : okb p = true) (hst : stOk p = true) (hdt : isDots p = false) (hnd : noDup [] (nms [] p) = true) (hfo : fillOk p = true) (hwp : wid p ≤ 100000000) (hwf : wid f ≤ 100000000) (hf : okb f = true) (hm : mtn [] binds n p f = some gs) : Ev (fun k => q24.f k p gs) (f, true) := by
 have hp2 : okf p 0 = true ∧ cnt p ≤ 1500 := by unfold okb leB at hp; simpa using hp
 have hf2 : okf f 0 = true ∧ cnt f ≤ 1500 := by unfold okb leB at hf; simpa using hf
 have hname := mtn_name [] binds n p 0 f gs hp2.1 hst hdt hm
 have hlen := mtn_len [] binds n p 0 f gs hp2.1 hst hdt hm
 have hnf := nms_facts [] p
 have hG : SmlG gs := by
  refine ⟨by omega, fun g hg => ?_⟩
  have : g.vName ∈ gs.map fun y => y.vName := List.mem_map_of_mem hg
  rw [hname] at this
  have := (hnf.2 _ this).2
  omega
 have hP : Prov gs gs := prov_self gs (by rw [hname]; exact hnd)
 have hgok := gots_gok binds n p 0 f 0 gs hc hp2.1 (by omega) hst hdt hwp hwf hf2.1 (by omega) hf2.2 hm
 simp only [q24.f, eTExpForm_eq]
 refine Ev.bind (formOk_impl p (by omega)) ?_
 rw [hp]
 simp only [not_true, if_false]
 have hl := hG.1
 refine goList gs (P := fun i suf => Ev (fun k => q24.l4 k gs gs (gs.length : Int) i p.vSort p.vText p.vScopes p.vFrom p.vKids) (f, true)) ?_ ?_
 ·refine Ev.shift ?_
  have nl : ¬ (gs.length : Int) < (gs.length : Int) := Int.lt_irrefl _
  simp only [q24.l4, if_neg nl, mTExpForm]
  obtain ⟨r, ⟨r1, r2, r3, r4⟩, hev⟩ := fill_impl binds n p 0 f gs gs 0 hc hp2.1 hst hdt hfo hwp (by omega) (fun _ => by omega) (.inl ⟨0, hf2.1⟩) hm hP hG (by omega) (by omega)
  refine Ev.bind hev ?_
  rw [r2, r1]
  simp only [Bool.false_eq_true, if_false, eTExpForm_eq]
  refine Ev.bind (formOk_impl f (by omega)) ?_
  rw [hf]
  simp only [not_true, if_false]
  exact Ev.now _
 ·intro i g r i0 i1 hx hgm _ _ _ ih
  refine Ev.shift ?_
  simp (disch := omega) only [q24.l4, if_pos, hx, w64, eTExpForm_eq, mTExpGot]
  refine Ev.bind (hgok g hgm) ?_
  simp only [not_true, if_false]
  exact ih
theorem wxInts_same (l : List Int) (hl : (l.length : Int) ≤ 1000000000) : Ev (fun k => q1z.f k l l) true := by
 simp only [q1z.f, not_true, if_false]
 refine goList l (P := fun i suf => Ev (fun k => q1z.l4 k l l i) true) ?_ ?_
 ·refine Ev.shift ?_
  simp (disch := omega) only [q1z.l4, if_neg]; exact Ev.now _
 ·intro i x r i0 i1 hx _ _ _ _ ih
  refine Ev.shift ?_
  simp (disch := omega) only [q1z.l4, if_pos, hx, w64, not_true, if_false]
  exact ih
theorem wxForm_same : ∀ x : TExpForm, wid x ≤ 1000000000 → Ev (fun k => q1j.f k x x) true := by
 refine indForm fun x ih hw => ?_
 have hp := wid_parts x
 refine Ev.shift ?_
 simp only [q1j.f, if_true]
 refine Ev.bind (wxInts_same x.vScopes (by omega)) ?_
 simp only [if_true]
 refine Ev.bind (r := true) ?_ (Ev.now _)
 refine Ev.shift ?_
 simp only [q26.f, not_true, if_false]
 refine goList x.vKids (P := fun i suf => Ev (fun k => q26.l4 k x.vKids x.vKids i) true) ?_ ?_
 ·refine Ev.shift ?_
  simp (disch := omega) only [q26.l4, if_neg]; exact Ev.now _
 ·intro i y r i0 i1 hx hm _ _ _ ihr
  refine Ev.shift ?_
  simp (disch := omega) only [q26.l4, if_pos, hx, w64, eTExpForm_eq]
  refine Ev.bind (ih y hm (by have := wids_mem hm; omega)) ?_
  simp only [not_true, if_false]
  exact ihr
def Gsm (g : TExpGot) : Prop := wid g.vName ≤ 1000000000 ∧ wid g.vForm ≤ 1000000000 ∧ Ev (fun k => q11.f k g.vMany g.vMany) true
theorem wxGots_same (l : GL) (hl : (l.length : Int) ≤ 1000000000) (h : ∀ g ∈ l, Gsm g) : Ev (fun k => q11.f k l l) true := by
 refine Ev.shift ?_
 simp only [q11.f, not_true, if_false]
 refine goList l (P := fun i suf => Ev (fun k => q11.l4 k l l i) true) ?_ ?_
 ·refine Ev.shift ?_
  simp (disch := omega) only [q11.l4, if_neg]; exact Ev.now _
 ·intro i g r i0 i1 hx hm _ _ _ ih
  obtain ⟨h1, h2, h3⟩ := h g hm
  refine Ev.shift ?_
  simp (disch := omega) only [q11.l4, if_pos, hx, w64, eTExpForm_eq]
  refine Ev.bind (wxForm_same _ h1) ?_
  simp only [not_true, if_false]
  refine Ev.bind (wxForm_same _ h2) ?_
  simp only [not_true, if_false]
  refine Ev.bind h3 ?_
  simp only [not_true, if_false]
  exact ih
theorem gots_same (lits : List TExpForm) (binds : List TExpBind) (n : Nat) (p : TExpForm) (f : TExpForm) (gs : GL) (hc : cnt p ≤ (n : Int)) (hp : okb p = true) (hst : stOk p = true) (hdt : isDots p = false) (hwp : wid p ≤ 100000000) (hwf : wid f ≤ 100000000) (hf : okb f = true) (hm : mtn lits binds n p f = some gs) : Ev (fun k => q11.f k gs gs) true := by
 have hp2 : okf p 0 = true ∧ cnt p ≤ 1500 := by unfold okb leB at hp; simpa using hp
 have hf2 : okf f 0 = true ∧ cnt f ≤ 1500 := by unfold okb leB at hf; simpa using hf
 have hlen := mtn_len lits binds n p 0 f gs hp2.1 hst hdt hm
 have hnf := nms_facts lits p
 refine wxGots_same gs (by omega) ?_
 refine gots_all lits binds Gsm (fun g a1 a2 a3 a4 a5 a6 a7 => ⟨a3, a7, ?_⟩) (fun g a1 a2 a3 a4 a5 a6 a7 a8 => ⟨a3, by rw [a6]; decide, wxGots_same _ a7 fun y hy => (a8 y hy).2⟩) n p 0 f 0 gs hc hp2.1 (by omega) hst hdt hwp hwf hf2.1 (by omega) hf2.2 hm
 rw [a5]
 exact wxGots_same [] (by simp) (fun g hg => by cases hg)
end Go.Proofs.YtmcbhnbemhfifaaGreatDoor.RX
end
section
namespace Go.Proofs.YtmcbhnbemhfifaaGreatDoor.RX
open Go K
set_option autoImplicit false
set_option linter.unusedVariables false
set_option linter.unusedSimpArgs false
mutual
def blankB : TExpForm → Bool
 | ⟨s, t, sc, fr, ks⟩ => isBlank ⟨s, t, sc, fr, ks⟩ || blankBs ks
def blankBs : List TExpForm → Bool
 | [] => false
 | x :: l => blankB x || blankBs l
end
mutual
def namedB : TExpForm → Bool
 | ⟨s, t, sc, fr, ks⟩ => if s = 1 then !isDots ⟨s, t, sc, fr, ks⟩ else namedBs ks
def namedBs : List TExpForm → Bool
 | [] => false
 | x :: l => namedB x || namedBs l
end
def txtD (x : TExpForm) : Bool := decide (bytesOf x.vText = [46, 46, 46])
def noName : Option TExpForm → Bool
 | some y => !namedB y
 | none => false
mutual
def bareB : TExpForm → Bool
 | ⟨s, t, sc, fr, ks⟩ => bareBs ks none
def bareBs : List TExpForm → Option TExpForm → Bool
 | [], _ => false
 | x :: l, pr => bareB x || ((txtD x && noName pr) || bareBs l (some x))
end
theorem blankB_mk (x : TExpForm) : blankB x = (isBlank x || blankBs x.vKids) := by cases x; simp only [blankB]
theorem namedB_mk (x : TExpForm) : namedB x = if x.vSort = 1 then !isDots x else namedBs x.vKids := by cases x; simp only [namedB]
theorem bareB_mk (x : TExpForm) : bareB x = bareBs x.vKids none := by cases x; simp only [bareB]
theorem wxBlank_ev : ∀ x : TExpForm, wid x ≤ 1000000000 → Ev (fun k => qm.f k x) (blankB x) := by
 refine indForm fun x ih hw => ?_
 have hp := wid_parts x
 have loop : Ev (fun k => qm.j3 k x.vKids) (blankBs x.vKids) := by
  simp only [qm.j3, qm.j3b]
  refine goList x.vKids (P := fun i suf => Ev (fun k => qm.l4 k i x.vKids) (blankBs suf)) ?_ ?_
  ·refine Ev.shift ?_
   simp (disch := omega) only [qm.l4, if_neg, blankBs]; exact Ev.now _
  ·intro i y r i0 i1 hx hm _ _ _ ihr
   refine Ev.shift ?_
   simp (disch := omega) only [qm.l4, if_pos, hx, w64, eTExpForm_eq, blankBs]
   refine Ev.bind (ih y hm (by have := wids_mem hm; omega)) ?_
   cases blankB y with
   | true => simp only [if_true, Bool.true_or]; exact Ev.now _
   | false => simp only [Bool.false_eq_true, if_false, Bool.false_or]; exact ihr
 refine Ev.shift ?_
 rw [blankB_mk]
 have b2 : (x.vText.toList = (ByteArray.mk #[95]).toList) ↔ bytesOf x.vText = [95] := lit_eq _ _ (by decide)
 by_cases h1 : x.vSort = 1
 ·by_cases d2 : bytesOf x.vText = [95]
  ·have e : isBlank x = true := by simp [isBlank, h1, d2]
   rw [e, Bool.true_or]
   simp only [qm.f, if_pos h1, if_pos (b2.2 d2)]
   exact Ev.now _
  ·have d2' : ¬ x.vText.toList = (ByteArray.mk #[95]).toList := fun h => d2 (b2.1 h)
   have e : isBlank x = false := by simp [isBlank, d2]
   rw [e, Bool.false_or]
   simp only [qm.f, if_pos h1, if_neg d2']
   exact loop
 ·have e : isBlank x = false := by simp [isBlank, h1]
  rw [e, Bool.false_or]
  simp only [qm.f, if_neg h1]
  exact loop
theorem wxNamed_ev : ∀ x : TExpForm, wid x ≤ 1000000000 → Ev (fun k => q19.f k x) (namedB x) := by
 refine indForm fun x ih hw => ?_
 have hp := wid_parts x
 refine Ev.shift ?_
 rw [namedB_mk]
 have b1 : (x.vText.toList = (ByteArray.mk #[46, 46, 46]).toList) ↔ bytesOf x.vText = [46, 46, 46] := lit_eq _ _ (by decide)
 by_cases h1 : x.vSort = 1
 ·simp only [q19.f, if_pos h1]
  refine Ev.eq (Ev.now _) ?_
  by_cases d1 : bytesOf x.vText = [46, 46, 46]
  ·rw [decide_eq_false (decide_not_ne (b1.2 d1))]
   simp [isDots, h1, d1]
  ·have d1' : ¬ x.vText.toList = (ByteArray.mk #[46, 46, 46]).toList := fun h => d1 (b1.1 h)
   rw [decide_eq_true d1']
   simp [isDots, h1, d1]
 ·simp only [q19.f, if_neg h1]
  refine goList x.vKids (P := fun i suf => Ev (fun k => q19.l4 k i x.vKids) (namedBs suf)) ?_ ?_
  ·refine Ev.shift ?_
   simp (disch := omega) only [q19.l4, if_neg, namedBs]; exact Ev.now _
  ·intro i y r i0 i1 hx hm _ _ _ ihr
   refine Ev.shift ?_
   simp (disch := omega) only [q19.l4, if_pos, hx, w64, eTExpForm_eq, namedBs]
   refine Ev.bind (ih y hm (by have := wids_mem hm; omega)) ?_
   cases namedB y with
   | true => simp only [if_true, Bool.true_or]; exact Ev.now _
   | false => simp only [Bool.false_eq_true, if_false, Bool.false_or]; exact ihr
theorem wxBare_ev : ∀ x : TExpForm, wid x ≤ 1000000000 → Ev (fun k => q16.f k x) (bareB x) := by
 refine indForm fun x ih hw => ?_
 have hp := wid_parts x
 refine Ev.shift ?_
 rw [bareB_mk]
 simp only [q16.f]
 refine goList x.vKids (P := fun i suf => ∀ pr : Option TExpForm, (0 < i → pr = some (rdAt zTExpForm x.vKids (i - 1))) → (¬ 0 < i → pr = none) → Ev (fun k => q16.l2 k i x.vKids) (bareBs suf pr)) ?_ ?_ none (fun h => by omega) (fun _ => rfl)
 ·intro pr _ _
  refine Ev.shift ?_
  simp (disch := omega) only [q16.l2, if_neg, bareBs]; exact Ev.now _
 ·intro i y r i0 i1 hx hm _ _ _ ihr pr hp1 hp0
  have hwy := wids_mem hm
  have b1 : (y.vText.toList = (ByteArray.mk #[46, 46, 46]).toList) ↔ bytesOf y.vText = [46, 46, 46] := lit_eq _ _ (by decide)
  have next := ihr (some y) (fun _ => by rw [show i + 1 - 1 = i by omega, hx]) (fun h => by omega)
  refine Ev.shift ?_
  have w1 : IntKind.i64.wrap (i + 1) = i + 1 := w64 (by omega) (by omega)
  have w2 : IntKind.i64.wrap (i - 1) = i - 1 := w64 (by omega) (by omega)
  simp only [q16.l2, if_pos i1, if_pos i0, hx, w1, w2, eTExpForm_eq, bareBs]
  refine Ev.bind (ih y hm (by omega)) ?_
  cases bareB y with
  | true => simp only [if_true, Bool.true_or]; exact Ev.now _
  | false =>
   simp only [Bool.false_eq_true, if_false, Bool.false_or]
   by_cases d1 : bytesOf y.vText = [46, 46, 46]
   ·have e : txtD y = true := by simp [txtD, d1]
    simp only [if_pos (b1.2 d1), e, Bool.true_and]
    by_cases hi : 0 < i
    ·have hpr := hp1 hi
     subst hpr
     have c1 : 0 ≤ i - 1 := by omega
     have c2 : i - 1 < (x.vKids.length : Int) := by omega
     have hmem : rdAt zTExpForm x.vKids (i - 1) ∈ x.vKids := rdAt_mem _ _ _ c1 c2
     have hwm := wids_mem hmem
     simp only [if_pos hi, if_pos c1, if_pos c2, noName]
     refine Ev.bind (wxNamed_ev _ (by omega)) ?_
     cases namedB (rdAt zTExpForm x.vKids (i - 1)) with
     | true => simp only [not_true, if_false, Bool.not_true, Bool.false_or]; exact next
     | false => simp only [Bool.false_eq_true, not_false_eq_true, if_true, Bool.not_false, Bool.true_or]; exact Ev.now _
    ·have hpr := hp0 hi
     subst hpr
     simp only [if_neg hi, noName, Bool.false_or]
     exact next
   ·have d1' : ¬ y.vText.toList = (ByteArray.mk #[46, 46, 46]).toList := fun h => d1 (b1.1 h)
    have e : txtD y = false := by simp [txtD, d1]
    simp only [if_neg d1', e, Bool.false_and, Bool.false_or]
    exact next
theorem named_nms : ∀ x : TExpForm, namedB x = true → blankB x = false → nms [] x ≠ [] := by
 refine indForm fun x ih hn hb => ?_
 rw [namedB_mk] at hn
 rw [blankB_mk, Bool.or_eq_false_iff] at hb
 rw [nms_mk]
 split at hn
 ·rename_i h1
  simp only [Bool.not_eq_true'] at hn
  have e : inB [] x = false := rfl
  rw [if_pos h1, hn, hb.1, e]
  simp
 ·rename_i h1
  rw [if_neg h1]
  have hb := hb.2
  generalize x.vKids = l at hn hb ih
  induction l with
  | nil => simp [namedBs] at hn
  | cons y l ihl =>
   simp only [namedBs, Bool.or_eq_true] at hn
   simp only [blankBs, Bool.or_eq_false_iff] at hb
   simp only [nmss]
   intro h
   have h := List.append_eq_nil_iff.1 h
   rcases hn with hn | hn
   ·exact ih y (by simp) hn hb.1 h.1
   ·exact ihl hn hb.2 (fun z hz => ih z (by simp [hz])) h.2
theorem fillOk_of : ∀ x : TExpForm, blankB x = false → bareB x = false → fillOk x = true := by
 refine indForm fun x ih hb hr => ?_
 rw [blankB_mk, Bool.or_eq_false_iff] at hb
 rw [bareB_mk] at hr
 rw [fillOk_mk, hb.1, Bool.not_false, Bool.true_and]
 have hb := hb.2
 generalize x.vKids = l at hb hr ih
 generalize (none : Option TExpForm) = pr at hr
 induction l generalizing pr with
 | nil => rfl
 | cons y l ihl =>
  simp only [blankBs, Bool.or_eq_false_iff] at hb
  simp only [bareBs, Bool.or_eq_false_iff] at hr
  obtain ⟨r1, r2, r3⟩ := hr
  simp only [fillOks, Bool.and_eq_true]
  refine ⟨⟨ih y (by simp) hb.1 r1, ?_⟩, ihl hb.2 (fun z hz => ih z (by simp [hz])) (some y) r3⟩
  cases hh : headDots l with
  | false => rfl
  | true =>
   cases l with
   | nil => simp [headDots] at hh
   | cons dd l =>
    have hd : isDots dd = true := hh
    have ht : txtD dd = true := by
     unfold isDots at hd
     simp only [Bool.and_eq_true] at hd
     exact hd.2
    simp only [bareBs, Bool.or_eq_false_iff, ht, Bool.true_and, noName, Bool.not_eq_false'] at r3
    have := named_nms y r3.2.1 hb.1
    cases hn : nms [] y with
    | nil => exact absurd hn this
    | cons a b => rfl
end Go.Proofs.YtmcbhnbemhfifaaGreatDoor.RX
end
section
namespace Go.Proofs.YtmcbhnbemhfifaaGreatDoor.RX
open Go K
set_option autoImplicit false
set_option linter.unusedVariables false
set_option linter.unusedSimpArgs false
def Rdr (b : List Int) : Prop := b.length ≤ 2000 ∧ ∀ x ∈ b, 0 ≤ x ∧ x ≤ 255
theorem Rdr.rd {b : List Int} (h : Rdr b) (i : Int) : 0 ≤ rdAt 0 b i ∧ rdAt 0 b i ≤ 255 := by
 unfold rdAt
 rw [List.getD_eq_getElem?_getD]
 cases hi : b[i.toNat]? with
 | none => simp
 | some x => exact h.2 x (List.mem_of_getElem? hi)
theorem pick_ok {b : List Int} {p : Int} (n : Int) (hb : Rdr b) (h0 : 0 ≤ p) (hp : p ≤ 1099511627776) :
  Evs (fun k => qi.f k n b p) (fun r => r.2 = (b, p + 1) ∧ 0 ≤ r.1 ∧ (1 ≤ n → r.1 < n) ∧ (n < 1 → r.1 = 0)) := by
 by_cases hn : n < 1
 ·simp (disch := omega) only [qi.f, if_pos, w64]
  exact Evs.now ⟨rfl, by omega, by omega, fun _ => rfl⟩
 by_cases hl : (b.length : Int) = 0
 ·simp (disch := omega) only [qi.f, if_pos, if_neg, w64]
  exact Evs.now ⟨rfl, by omega, by omega, by omega⟩
 have hL : (0 : Int) < (b.length : Int) := by omega
 by_cases hlt : p < (b.length : Int)
 ·have := hb.rd p
  simp (disch := omega) only [qi.f, qi.j4, if_pos, if_neg, w64, Int.add_sub_cancel]
  obtain ⟨h1, h2⟩ := tmod_range (x := rdAt 0 b p) (n := n) (by omega) (by omega)
  exact Evs.now ⟨rfl, h1, fun _ => h2, by omega⟩
 ·obtain ⟨a1, a2⟩ := tmod_range (x := p) (n := (b.length : Int)) h0 hL
  obtain ⟨b1, b2⟩ := tmod_range (x := p * 7 + 3) (n := (b.length : Int)) (by omega) hL
  obtain ⟨c1, c2⟩ := hb.rd (p.tmod (b.length : Int))
  obtain ⟨d1, d2⟩ := hb.rd ((p * 7 + 3).tmod (b.length : Int))
  obtain ⟨e1, e2⟩ := tdiv_range (x := p) (n := (b.length : Int)) h0 (by omega)
  simp (disch := omega) only [qi.f, qi.j4, if_pos, if_neg, w64, Int.add_sub_cancel]
  refine Evs.now ⟨rfl, Int.tmod_nonneg _ ?_, fun _ => Int.tmod_lt_of_pos _ (by omega), by omega⟩
  generalize rdAt 0 b (p.tmod (b.length : Int)) = A at c1 c2 ⊢
  generalize rdAt 0 b ((p * 7 + 3).tmod (b.length : Int)) = C at d1 d2 ⊢
  generalize p.tdiv (b.length : Int) = D at e1 e2 ⊢
  obtain ⟨f1, f2⟩ := tdiv_range (x := A * 131 + C * 1117 + p * 29 + D * 53) (n := 64) (by omega) (by omega)
  simp (disch := omega) only [w64]
  exact xor_range (by omega) (by omega) f1 (by omega)
theorem of_ok {b : List Int} {p : Int} (l : List ByteArray) (hb : Rdr b) (h0 : 0 ≤ p) (hp : p ≤ 1099511627776) (hl : 1 ≤ (l.length : Int)) :
  Evs (fun k => q27.f k l b p) (fun r => r.2 = (b, p + 1) ∧ r.1 ∈ l) := by
 simp only [q27.f]
 refine Evs.bind (pick_ok (l.length : Int) hb h0 hp) fun r ⟨h1, h2, h3, _⟩ => ?_
 have := h3 hl
 simp (disch := omega) only [if_pos]
 exact Evs.now ⟨h1, rdAt_mem _ _ _ h2 this⟩
theorem open_ok (l : List Int) (hw : ∀ x ∈ l, 0 ≤ x ∧ x ≤ 255) : Evs (fun k => q2c.f k l) (fun r => Rdr r.1 ∧ r.2 = 0) := by
 by_cases h : 2000 < (l.length : Int)
 ·simp (disch := omega) only [q2c.f, if_pos, List.drop_zero]
  exact Evs.now ⟨⟨by rw [List.length_take]; omega, fun x hx => hw x (List.mem_of_mem_take hx)⟩, rfl⟩
 ·simp (disch := omega) only [q2c.f, if_neg]
  exact Evs.now ⟨⟨by show l.length ≤ 2000; omega, hw⟩, rfl⟩
end Go.Proofs.YtmcbhnbemhfifaaGreatDoor.RX
end
section
namespace Go.Proofs.YtmcbhnbemhfifaaGreatDoor.RX
open Go K
set_option autoImplicit false
set_option linter.unusedVariables false
set_option linter.unusedSimpArgs false
def On (b : List Int) (p n : Int) (q : List Int × Int) : Prop := q.1 = b ∧ p ≤ q.2 ∧ q.2 ≤ p + n
theorem id_ok {b : List Int} {p : Int} (hb : Rdr b) (h0 : 0 ≤ p) (hp : p ≤ 1000000000000) : Evs (fun k => q18.f k b p) (fun r => On b p 5 r.2 ∧ wid r.1 ≤ 10) := by
 simp only [q18.f]
 refine Evs.bind (of_ok _ hb h0 (by omega) (by decide)) fun r ⟨h1, h2⟩ => ?_
 have hs : r.1.size ≤ 4 := by
  simp only [List.mem_cons, List.not_mem_nil, or_false] at h2
  rcases h2 with h | h | h | h <;> rw [h] <;> decide
 rw [h1]
 refine Evs.bind (pick_ok 9 hb (by show 0 ≤ p + 1; omega) (by show p + 1 ≤ _; omega)) fun q ⟨h3, h4, _⟩ => ?_
 rw [h3]
 refine goUp 3 (P := fun i => 0 ≤ i → i ≤ 3 → ∀ (p' : Int) (a : List Int), (a.length : Int) ≤ i → p' = p + 2 + i → Evs (fun k => q18.l3 k i b p' 1 r.1 q.1 [] a) (fun r => On b p 5 r.2 ∧ wid r.1 ≤ 10)) ?_ ?_ 0 (by omega) (by omega) _ [] (by simp) (by show p + 1 + 1 = _; omega)
 ·intro i hi _ hi3 p' a ha hp'
  refine Evs.shift ?_
  simp (disch := omega) only [q18.l3, if_neg]
  refine Evs.now ⟨⟨rfl, ?_, ?_⟩, ?_⟩
  ·show p ≤ p'; omega
  ·show p' ≤ p + 5; omega
  ·rw [wid_c]; simp only [wids]; omega
 ·intro i hi ih h0i _ p' a ha hp'
  refine Evs.shift ?_
  simp (disch := omega) only [q18.l3, if_pos]
  refine Evs.bind (pick_ok 3 hb (by omega) (by omega)) fun s ⟨h5, h6, _⟩ => ?_
  rw [h5]
  refine Evs.ite (fun _ => ?_) (fun _ => ?_)
  ·simp (disch := omega) only [if_pos, List.length_singleton, w64]
   exact ih (by omega) (by omega) _ _ (by simp; omega) (by show p' + 1 = _; omega)
  ·simp (disch := omega) only [w64]
   exact ih (by omega) (by omega) _ _ (by omega) (by show p' + 1 = _; omega)
def lim : Nat → Int
 | 0 => 10
 | d + 1 => 4 * lim d + 4
def steps : Nat → Int
 | 0 => 9
 | d + 1 => 3 * steps d + 9
theorem lim_ge (d : Nat) : 10 ≤ lim d ∧ 9 ≤ steps d := by
 induction d with
 | zero => decide
 | succ d ih => simp only [lim, steps]; omega
def FormAt (b : List Int) (d : Nat) : Prop := ∀ p : Int, 0 ≤ p → p + steps d ≤ 1000000000000 → Evs (fun k => qa.f k (d : Int) b p) (fun r => On b p (steps d) r.2 ∧ wid r.1 ≤ lim d)
theorem form_l12 {b : List Int} (hb : Rdr b) (d : Nat) (hd : d ≤ 1000) (ih : FormAt b d) (p0 : Int) (h00 : 0 ≤ p0) (hp0 : p0 + 3 * steps d + 9 ≤ 1000000000000) : ∀ (n : Int) (p : Int) (a : List TExpForm), p0 ≤ p → n ≤ 2 → 0 ≤ n →
  (a.length : Int) + n ≤ 2 → wids a ≤ (a.length : Int) * lim d → p ≤ p0 + 2 + (2 - n) * steps d → Evs (fun k => qa.l12 k ((d : Int) + 1) n b p 4 ByteArray.empty [] 0 a) (fun r => On b p0 (steps (d + 1)) r.2 ∧ wid r.1 ≤ lim (d + 1)) := by
 have hl := lim_ge d
 intro n
 refine goDown (P := fun n => ∀ (p : Int) (a : List TExpForm), p0 ≤ p → n ≤ 2 → 0 ≤ n → (a.length : Int) + n ≤ 2 → wids a ≤ (a.length : Int) * lim d → p ≤ p0 + 2 + (2 - n) * steps d → Evs (fun k => qa.l12 k ((d : Int) + 1) n b p 4 ByteArray.empty [] 0 a) (fun r => On b p0 (steps (d + 1)) r.2 ∧ wid r.1 ≤ lim (d + 1))) ?_ ?_ n
 ·intro i hi p a h1 h2 h3 h4 h5 h6
  obtain rfl : i = 0 := by omega
  refine Evs.shift ?_
  simp (disch := omega) only [qa.l12, if_neg, qa.d15]
  refine Evs.bind (id_ok hb (by omega) (by omega)) fun r ⟨⟨g1, g2, g3⟩, g4⟩ => ?_
  simp (disch := omega) only [if_pos, List.length_singleton, eTExpForm_eq]
  refine Evs.now ⟨⟨g1, by show _ ≤ r.2.2; omega, by show r.2.2 ≤ _; simp only [steps]; omega⟩, ?_⟩
  rw [wid_c, wids_append, wids_one]
  have h9 : (a.length : Int) * lim d ≤ 2 * lim d := Int.mul_le_mul_of_nonneg_right (by omega) (by omega)
  simp only [lim, List.length_nil, show ByteArray.empty.size = 0 from rfl]
  omega
 ·intro i hi ihi p a h1 h2 h3 h4 h5 h6
  refine Evs.shift ?_
  have e : (2 - (i - 1)) * steps d = (2 - i) * steps d + steps d := by rw [show 2 - (i - 1) = (2 - i) + 1 by omega, Int.add_mul, Int.one_mul]
  have h8 : (2 - i) * steps d ≤ 1 * steps d := Int.mul_le_mul_of_nonneg_right (by omega) (by omega)
  simp (disch := omega) only [qa.l12, if_pos, qa.d14b, w64, Int.add_sub_cancel]
  refine Evs.bind (ih p (by omega) (by omega)) fun r ⟨⟨g1, g2, g3⟩, g4⟩ => ?_
  simp (disch := omega) only [if_pos, List.length_singleton, eTExpForm_eq]
  rw [g1]
  refine ihi _ _ (by omega) (by omega) (by omega) (by simp; omega) ?_ (by omega)
  rw [wids_append, wids_one, List.length_append, List.length_singleton, Int.natCast_add, Int.add_mul]
  omega
theorem form_l19 {b : List Int} (hb : Rdr b) (d : Nat) (hd : d ≤ 1000) (ih : FormAt b d) (p0 : Int) (h00 : 0 ≤ p0) (hp0 : p0 + 3 * steps d + 9 ≤ 1000000000000) : ∀ (n : Int) (p : Int) (a : List TExpForm), p0 ≤ p → n ≤ 3 → 0 ≤ n →
  (a.length : Int) + n ≤ 3 → wids a ≤ (a.length : Int) * lim d → p ≤ p0 + 2 + (3 - n) * steps d → Evs (fun k => qa.l19 k ((d : Int) + 1) n b p 3 ByteArray.empty [] 0 a) (fun r => On b p0 (steps (d + 1)) r.2 ∧ wid r.1 ≤ lim (d + 1)) := by
 have hl := lim_ge d
 intro n
 refine goDown (P := fun n => ∀ (p : Int) (a : List TExpForm), p0 ≤ p → n ≤ 3 → 0 ≤ n → (a.length : Int) + n ≤ 3 → wids a ≤ (a.length : Int) * lim d → p ≤ p0 + 2 + (3 - n) * steps d → Evs (fun k => qa.l19 k ((d : Int) + 1) n b p 3 ByteArray.empty [] 0 a) (fun r => On b p0 (steps (d + 1)) r.2 ∧ wid r.1 ≤ lim (d + 1))) ?_ ?_ n
 ·intro i hi p a h1 h2 h3 h4 h5 h6
  obtain rfl : i = 0 := by omega
  refine Evs.shift ?_
  simp (disch := omega) only [qa.l19, if_neg]
  refine Evs.now ⟨⟨rfl, by show _ ≤ p; omega, by show p ≤ _; simp only [steps]; omega⟩, ?_⟩
  rw [wid_c]
  have h9 : (a.length : Int) * lim d ≤ 3 * lim d := Int.mul_le_mul_of_nonneg_right (by omega) (by omega)
  simp only [lim, List.length_nil, show ByteArray.empty.size = 0 from rfl]
  omega
 ·intro i hi ihi p a h1 h2 h3 h4 h5 h6
  refine Evs.shift ?_
  have e : (3 - (i - 1)) * steps d = (3 - i) * steps d + steps d := by rw [show 3 - (i - 1) = (3 - i) + 1 by omega, Int.add_mul, Int.one_mul]
  have h8 : (3 - i) * steps d ≤ 2 * steps d := Int.mul_le_mul_of_nonneg_right (by omega) (by omega)
  simp (disch := omega) only [qa.l19, if_pos, qa.d21b, w64, Int.add_sub_cancel]
  refine Evs.bind (ih p (by omega) (by omega)) fun r ⟨⟨g1, g2, g3⟩, g4⟩ => ?_
  simp (disch := omega) only [if_pos, List.length_singleton, eTExpForm_eq]
  rw [g1]
  refine ihi _ _ (by omega) (by omega) (by omega) (by simp; omega) ?_ (by omega)
  rw [wids_append, wids_one, List.length_append, List.length_singleton, Int.natCast_add, Int.add_mul]
  omega
theorem form_ok {b : List Int} (hb : Rdr b) : ∀ d : Nat, d ≤ 100 → FormAt b d := by
 intro d
 have leaf : ∀ (B : Nat → Option (TExpForm × List Int × Int)) (d : Nat) (p : Int) (x : Int), 0 ≤ p → p + steps d ≤ 1000000000000 → 0 ≤ x →
   (x = 4 ∨ 4 < x → Evs (fun k => qa.j4b k (qa.f k) (qa.l12 k) (qa.l19 k) (d : Int) x false b (p + 1)) (fun r => On b p (steps d) r.2 ∧ wid r.1 ≤ lim d)) →
   Evs (fun k => if x = 0 then qa.j4b k (qa.f k) (qa.l12 k) (qa.l19 k) (d : Int) x true b (p + 1) else qa.j4b k (qa.f k) (qa.l12 k) (qa.l19 k) (d : Int) x (decide (x = 1)) b (p + 1)) (fun r => On b p (steps d) r.2 ∧ wid r.1 ≤ lim d) := by
  intro _ d p x h0 hp hx h4
  have hl := lim_ge d
  have hid : Evs (fun k => (q18.f k b (p + 1)).bind fun r1 => some (eTExpForm r1.1, r1.2.1, r1.2.2)) (fun r => On b p (steps d) r.2 ∧ wid r.1 ≤ lim d) := by
   refine Evs.bind (id_ok hb (by omega) (by omega)) fun r ⟨⟨g1, g2, g3⟩, g4⟩ => ?_
   exact Evs.now ⟨⟨g1, by show _ ≤ r.2.2; omega, by show r.2.2 ≤ _; omega⟩, by show wid (eTExpForm r.1) ≤ _; rw [eTExpForm_eq]; omega⟩
  by_cases x0 : x = 0
  ·simp only [if_pos x0, qa.j4b, if_true]
   exact hid
  by_cases x1 : x = 1
  ·subst x1
   simp only [if_neg x0, qa.j4b, decide_true, if_true]
   exact hid
  simp only [if_neg x0, decide_eq_false x1]
  by_cases x2 : x = 2
  ·subst x2
   simp only [qa.j4b, if_true, Bool.false_eq_true, if_false]
   refine Evs.bind (of_ok _ hb (by omega) (by omega) (by decide)) fun r ⟨h1, h2⟩ => ?_
   rw [h1]
   have hs : r.1.size ≤ 4 := by
    simp only [List.mem_cons, List.not_mem_nil, or_false] at h2
    rcases h2 with h | h | h | h <;> rw [h] <;> decide
   refine Evs.now ⟨⟨rfl, by show _ ≤ p + 1 + 1; omega, by show p + 1 + 1 ≤ _; omega⟩, ?_⟩
   rw [wid_c]; simp only [wids, List.length_nil]; omega
  by_cases x3 : x = 3
  ·subst x3
   simp (disch := decide) only [qa.j4b, if_pos, if_neg, Bool.false_eq_true, if_false]
   refine Evs.now ⟨⟨rfl, by show _ ≤ p + 1; omega, by show p + 1 ≤ _; omega⟩, ?_⟩
   rw [wid_c]; simp only [wids, List.length_nil, show ByteArray.empty.size = 0 from rfl]; omega
  ·exact h4 (by omega)
 have start : ∀ (d : Nat) (p : Int), 0 ≤ p → p + steps d ≤ 1000000000000 → d ≤ 100 → (∀ x : Int, 0 ≤ x → x = 4 ∨ 4 < x → (1 ≤ (d : Int)) → Evs (fun k => qa.j4b k (qa.f k) (qa.l12 k) (qa.l19 k) (d : Int) x false b (p + 1)) (fun r => On b p (steps d) r.2 ∧ wid r.1 ≤ lim d)) →
   Evs (fun k => qa.f k (d : Int) b p) (fun r => On b p (steps d) r.2 ∧ wid r.1 ≤ lim d) := by
  intro d p h0 hp hd h4
  have hl := lim_ge d
  refine Evs.shift ?_
  simp only [qa.f, q2i.f]
  by_cases hd1 : (d : Int) < 1
  ·obtain rfl : d = 0 := by omega
   simp (disch := omega) only [if_pos, Option.bind_some, w64, Int.natCast_zero, Int.mul_zero, Int.add_zero]
   refine Evs.bind (pick_ok 4 hb h0 (by omega)) fun r ⟨g1, g2, g3, _⟩ => ?_
   have := g3 (by omega)
   rw [g1]
   exact leaf (fun _ => none) 0 p r.1 h0 hp g2 (by omega)
  ·simp (disch := omega) only [if_neg, Option.bind_some, w64, Int.mul_one]
   refine Evs.bind (pick_ok _ hb h0 (by omega)) fun r ⟨g1, g2, g3, _⟩ => ?_
   rw [g1]
   exact leaf (fun _ => none) d p r.1 h0 hp g2 (fun h => h4 r.1 g2 h (by omega))
 induction d with
 | zero => intro _ p h0 hp; exact start 0 p h0 hp (by omega) (fun x _ _ h => absurd h (by decide))
 | succ d ih =>
  intro hd p h0 hp
  have hl := lim_ge d
  have hst : steps (d + 1) = 3 * steps d + 9 := rfl
  refine start (d + 1) p h0 hp hd (fun x hx h4 _ => ?_)
  have n2 : ¬ x = 2 := by omega
  have n3 : ¬ x = 3 := by omega
  rw [Int.natCast_add, Int.natCast_one]
  by_cases e : x = 4
  ·simp only [qa.j4b, Bool.false_eq_true, if_false, if_neg n2, if_neg n3, if_pos e]
   refine Evs.bind (pick_ok 2 hb (by omega) (by omega)) fun r ⟨g1, g2, g3, _⟩ => ?_
   have := g3 (by omega)
   have h8 : 0 ≤ (2 - (1 + r.1)) * steps d := Int.mul_nonneg (by omega) (by omega)
   rw [g1, w64 (by omega) (by omega)]
   exact form_l12 hb d (by omega) (ih (by omega)) p h0 (by omega) _ _ [] (by show p ≤ p + 1 + 1; omega) (by omega) (by omega) (by simp; omega) (by simp [wids]) (by show p + 1 + 1 ≤ _; omega)
  ·simp only [qa.j4b, Bool.false_eq_true, if_false, if_neg n2, if_neg n3, if_neg e]
   refine Evs.bind (pick_ok 4 hb (by omega) (by omega)) fun r ⟨g1, g2, g3, _⟩ => ?_
   have := g3 (by omega)
   have h8 : 0 ≤ (3 - r.1) * steps d := Int.mul_nonneg (by omega) (by omega)
   rw [g1]
   exact form_l19 hb d (by omega) (ih (by omega)) p h0 (by omega) _ _ [] (by show p ≤ p + 1 + 1; omega) (by omega) (by omega) (by simp; omega) (by simp [wids]) (by show p + 1 + 1 ≤ _; omega)
theorem spoil_ok {b : List Int} {p : Int} (x : TExpForm) {n : Int} (hb : Rdr b) (h0 : 0 ≤ p) (hp : p ≤ 100000000000) (hx : wid x ≤ n) (hn : n ≤ 1000000) : Evs (fun k => q1b.f k x b p) (fun r => On b p 2 r.2 ∧ wid r.1 ≤ n + 100) := by
 have hw := wid_mk x
 have hk := wid_parts x
 simp only [q1b.f, eTExpForm_eq]
 refine Evs.bind (Evs.of (copy_all x (by omega)) (P := fun r => r = (x.vSort, x.vText, x.vFrom, x.vScopes, x.vKids)) rfl) fun r hr => ?_
 subst hr
 dsimp only
 refine Evs.bind (pick_ok 6 hb h0 (by omega)) fun r ⟨g1, g2, g3, _⟩ => ?_
 rw [g1]
 have fin : ∀ (y : TExpForm) (q : Int), p ≤ q → q ≤ p + 2 → wid y ≤ n + 100 → Evs (fun _ => some (y, b, q)) (fun r => On b p 2 r.2 ∧ wid r.1 ≤ n + 100) := fun y q h1 h2 h3 => Evs.now ⟨⟨rfl, h1, h2⟩, h3⟩
 refine Evs.ite (fun _ => ?_) (fun _ => Evs.ite (fun _ => ?_) (fun _ => Evs.ite (fun _ => ?_) (fun _ => Evs.ite (fun _ => ?_) (fun _ => Evs.ite (fun _ => ?_) (fun _ => ?_)))))
 ·refine Evs.bind (pick_ok 7 hb (by omega) (by omega)) fun s ⟨e1, _⟩ => ?_
  rw [e1]
  exact fin _ _ (by omega) (by omega) (by rw [wid_c]; omega)
 ·refine Evs.bind (of_ok _ hb (by omega) (by omega) (by decide)) fun s ⟨e1, e2⟩ => ?_
  rw [e1]
  have hs : s.1.size ≤ 4 := by
   simp only [List.mem_cons, List.not_mem_nil, or_false] at e2
   rcases e2 with h | h | h | h | h | h <;> rw [h] <;> decide
  exact fin _ _ (by omega) (by omega) (by rw [wid_c]; omega)
 ·simp only [q1b.d12]
  refine Evs.bind (pick_ok 3 hb (by omega) (by omega)) fun s ⟨e1, e2, e3, _⟩ => ?_
  have := e3 (by omega)
  rw [e1]
  simp (disch := first | omega | (simp; omega)) only [if_pos]
  exact fin _ _ (by omega) (by omega) (by rw [wid_c, List.length_append, List.length_singleton]; omega)
 ·refine Evs.bind (pick_ok 3 hb (by omega) (by omega)) fun s ⟨e1, e2, e3, _⟩ => ?_
  have := e3 (by omega)
  rw [e1]
  simp (disch := first | omega | (simp; omega)) only [if_pos]
  exact fin _ _ (by omega) (by omega) (by rw [wid_c]; omega)
 ·simp (disch := first | omega | (simp; omega)) only [if_pos]
  exact fin _ _ (by omega) (by omega) (by rw [wid_c, wids_append, wids_one, wid_c]; simp only [wids, List.length_nil, show ByteArray.empty.size = 0 from rfl]; omega)
 ·refine Evs.bind (pick_ok 3 hb (by omega) (by omega)) fun s ⟨e1, e2, e3, _⟩ => ?_
  have := e3 (by omega)
  rw [e1]
  simp (disch := omega) only [w64]
  refine goDown (P := fun m => ∀ a t (sc : List Int) d ks, 0 ≤ m → m ≤ 60 → 1 + (ByteArray.size t : Int) + (sc.length : Int) + wids ks + m ≤ n + 100 → Evs (fun k => q1b.l4 k m b (p + 1 + 1) a t d sc ks) (fun r => On b p 2 r.2 ∧ wid r.1 ≤ n + 100)) ?_ ?_ _ _ _ _ _ _ (by omega) (by omega) (by omega)
  ·intro i hi a t sc d ks h3 h1 h2
   refine Evs.shift ?_
   simp (disch := omega) only [q1b.l4, if_neg]
   exact fin _ _ (by omega) (by omega) (by rw [wid_c]; omega)
  ·intro i hi ih a t sc d ks h3 h1 h2
   refine Evs.shift ?_
   simp (disch := omega) only [q1b.l4, if_pos, w64]
   exact ih _ _ _ _ _ (by omega) (by omega) (by rw [wids_one, wid_c]; simp only [List.length_nil, show ByteArray.empty.size = 0 from rfl]; omega)
end Go.Proofs.YtmcbhnbemhfifaaGreatDoor.RX
end
section
namespace Go.Proofs.YtmcbhnbemhfifaaGreatDoor.RX
open Go K
set_option autoImplicit false
set_option linter.unusedVariables false
set_option linter.unusedSimpArgs false
mutual
def lk : TExpForm → Int
 | ⟨_, t, sc, _, ks⟩ => 50 + (t.size : Int) + (sc.length : Int) + 4 * lks ks
def lks : List TExpForm → Int
 | [] => 0
 | x :: l => lk x + lks l
end
theorem lk_c (a : Int) (t : ByteArray) (sc : List Int) (d : Int) (ks : List TExpForm) : lk ⟨a, t, sc, d, ks⟩ = 50 + (t.size : Int) + (sc.length : Int) + 4 * lks ks := by simp only [lk]
theorem lk_mk (x : TExpForm) : lk x = 50 + (x.vText.size : Int) + (x.vScopes.length : Int) + 4 * lks x.vKids := by cases x; simp only [lk]
theorem lks_append (a b : List TExpForm) : lks (a ++ b) = lks a + lks b := by
 induction a with
 | nil => simp [lks]
 | cons x a ih => simp only [List.cons_append, lks, ih]; omega
theorem lk_wid : ∀ x : TExpForm, wid x ≤ lk x ∧ 50 ≤ lk x := by
 refine indForm fun x ih => ?_
 rw [wid_mk, lk_mk]
 have : wids x.vKids ≤ lks x.vKids ∧ 0 ≤ lks x.vKids := by
  generalize x.vKids = l at ih
  induction l with
  | nil => simp [wids, lks]
  | cons y l ihl =>
   have h1 := ih y (by simp)
   have h2 := ihl (fun z hz => ih z (by simp [hz]))
   simp only [wids, lks]; omega
 omega
mutual
def shp : TExpForm → Bool
 | ⟨s, _, _, _, ks⟩ => (!decide (s = 4) || decide (1 ≤ ks.length)) && shps ks
def shps : List TExpForm → Bool
 | [] => true
 | x :: l => shp x && shps l
end
theorem shp_c (a : Int) (t : ByteArray) (sc : List Int) (d : Int) (ks : List TExpForm) : shp ⟨a, t, sc, d, ks⟩ = ((!decide (a = 4) || decide (1 ≤ ks.length)) && shps ks) := by simp only [shp]
theorem shp_mk (x : TExpForm) : shp x = ((!decide (x.vSort = 4) || decide (1 ≤ x.vKids.length)) && shps x.vKids) := by cases x; simp only [shp]
theorem shps_append (a b : List TExpForm) : shps (a ++ b) = (shps a && shps b) := by
 induction a with
 | nil => simp [shps]
 | cons x a ih => simp only [List.cons_append, shps, ih, Bool.and_assoc]
theorem shps_mem {l : List TExpForm} (h : shps l = true) : ∀ x ∈ l, shp x = true := by
 intro x hx
 induction l with
 | nil => cases hx
 | cons y l ihl =>
  simp only [shps, Bool.and_eq_true] at h
  rcases List.mem_cons.1 hx with rfl | hx
  ·exact h.1
  ·exact ihl h.2 hx
theorem join_shp (ks : List TExpForm) (e : TExpForm) (hk : shps ks = true) (he : shp e = true) : shp (joinT ks e) = true := by
 have he2 := he
 rw [shp_mk, Bool.and_eq_true] at he2
 unfold joinT
 split
 ·exact he
 ·rename_i h
  have h1 : 1 ≤ ks.length := by omega
  split
  ·rw [shp_c, shps_append, hk, he2.2]
   simp; omega
  ·rw [shp_c, shps_append, hk]
   simp [shps, he]
theorem dec_ok : ∀ (m : Nat) (n : Int), 0 ≤ n → n ≤ (m : Int) → n ≤ 1000000000 → Evs (fun k => qu.f k n) (fun t => (t.size : Int) ≤ n + 1) := by
 intro m
 induction m with
 | zero =>
  intro n h0 h1 h2
  refine Evs.shift ?_
  simp (disch := omega) only [qu.f, if_pos]
  refine Evs.now ?_
  have hs : ∀ x : Int, ((strOf [x]).size : Int) = 1 := fun x => rfl
  rw [hs]; omega
 | succ m ih =>
  intro n h0 h1 h2
  refine Evs.shift ?_
  by_cases h : n < 10
  ·simp only [qu.f, if_pos h]
   refine Evs.now ?_
   have hs : ∀ x : Int, ((strOf [x]).size : Int) = 1 := fun x => rfl
   rw [hs]; omega
  ·have e : n.tdiv 10 = n / 10 := by rw [Int.tdiv_eq_ediv_of_nonneg h0]
   simp only [qu.f, if_neg h, qu.d3b, e]
   rw [w64 (by omega) (by omega)]
   refine Evs.bind (ih (n / 10) (by omega) (by omega) (by omega)) fun t ht => ?_
   have hs : ∀ x : Int, (strOf [x]).size = 1 := fun x => rfl
   have hc : ∀ x : Int, t.size + (strOf [x]).size ≤ 9223372036854775807 := fun x => by rw [hs]; omega
   simp only [if_pos (hc _)]
   refine Evs.now ?_
   show ((t ++ strOf [_]).size : Int) ≤ n + 1
   rw [ByteArray.size_append, hs]; omega
theorem ending_ok (ks : List TExpForm) (e : TExpForm) (hk : (ks.length : Int) ≤ 1000000000) (he : wid e ≤ 1000000000) : Ev (fun k => q1e.f k ks e) (joinT ks e) := by
 have hp := wid_parts e
 have c1 : ([] : List TExpForm).length + ks.length ≤ 1759218604441 := by simp; omega
 have c2 : ([] ++ ks : List TExpForm).length + e.vKids.length ≤ 1759218604441 := by simp; omega
 have c3 : ([] ++ ks : List TExpForm).length + [e].length ≤ 1759218604441 := by simp; omega
 simp only [q1e.f, joinT, eTExpForm_eq]
 by_cases h : ks.length = 0
 ·have h' : (ks.length : Int) = 0 := by omega
  simp only [if_pos h, if_pos h']; exact Ev.now _
 ·have h' : ¬ (ks.length : Int) = 0 := by omega
  simp only [if_neg h, if_neg h', q1e.d6, q1e.d7, if_pos c1, if_pos c2, mTExpForm, if_pos c3]
  by_cases h3 : e.vSort = 3
  ·simp only [if_pos h3, if_pos (Or.inl h3 : e.vSort = 3 ∨ e.vSort = 4), List.nil_append]; exact Ev.now _
  ·by_cases h4 : e.vSort = 4
   ·simp only [if_neg h3, if_pos h4, if_pos (Or.inr h4 : e.vSort = 3 ∨ e.vSort = 4), List.nil_append]; exact Ev.now _
   ·have n : ¬ (e.vSort = 3 ∨ e.vSort = 4) := by omega
    simp only [if_neg h3, if_neg h4, if_neg n, List.nil_append]; exact Ev.now _
theorem join_lk (ks : List TExpForm) (e : TExpForm) : lk (joinT ks e) ≤ 50 + 4 * (lks ks + lk e) := by
 have he := lk_mk e
 have h5 := (lk_wid e).2
 have h0 : 0 ≤ lks ks := by
  induction ks with
  | nil => simp [lks]
  | cons y l ih => have := (lk_wid y).2; simp only [lks]; omega
 unfold joinT
 split
 ·omega
 ·split
  ·rw [lk_c, lks_append]; simp only [List.length_nil, show ByteArray.empty.size = 0 from rfl]; omega
  ·rw [lk_c, lks_append]; simp only [lks, List.length_nil, show ByteArray.empty.size = 0 from rfl]; omega
def pst : Nat → Int
 | 0 => 2
 | d + 1 => 3 * (pst d + 1) + 6
def pct : Nat → Int
 | 0 => 1
 | d + 1 => 3 * pct d + 2
def pll : Nat → Int
 | 0 => 160
 | d + 1 => 12 * (pll d + 53) + 700
theorem p_ge (d : Nat) : 2 ≤ pst d ∧ 1 ≤ pct d ∧ 160 ≤ pll d := by
 induction d with
 | zero => decide
 | succ d ih => simp only [pst, pct, pll]; omega
def PatR (b : List Int) (p c : Int) (d : Nat) (r : TExpForm × List Int × Int × List Int) : Prop :=
 r.2.1 = b ∧ p ≤ r.2.2.1 ∧ r.2.2.1 ≤ p + pst d ∧ (∃ c', r.2.2.2 = [c'] ∧ c ≤ c' ∧ c' ≤ c + pct d) ∧ lk r.1 ≤ pll d ∧ shp r.1 = true
theorem pat_leaf {b : List Int} (hb : Rdr b) (x1 p c : Int) (h0 : 0 ≤ p) (hp : p ≤ 1000000000) (c0 : 0 ≤ c) (hc : c ≤ 90) : Evs (fun k => qh.j3 k x1 true b p [c]) (fun r => r.2.1 = b ∧ r.2.2.1 = p + 1 ∧ r.2.2.2 = [c] ∧ lk r.1 ≤ 160 ∧ shp r.1 = true) := by
 simp only [qh.j3, qh.j3b, if_true]
 refine Evs.bind (pick_ok 8 hb h0 (by omega)) fun r ⟨g1, g2, g3, _⟩ => ?_
 rw [g1]
 refine Evs.ite (fun _ => Evs.now ⟨rfl, rfl, rfl, by rw [lk_c]; decide, by simp [shp_c, shps]⟩) fun _ => ?_
 refine Evs.ite (fun _ => Evs.now ⟨rfl, rfl, rfl, by rw [lk_c]; decide, by simp [shp_c, shps]⟩) fun _ => ?_
 refine Evs.ite (fun _ => Evs.now ⟨rfl, rfl, rfl, by rw [lk_c]; decide, by simp [shp_c, shps]⟩) fun _ => ?_
 have l1 : (0 : Int) < ([c].length : Int) := by simp
 simp only [if_pos l1]
 refine Evs.bind (dec_ok c.toNat c c0 (by omega) (by omega)) fun t ht => ?_
 have ht : (t.size : Int) ≤ c + 1 := ht
 have hs : (ByteArray.mk #[112]).size = 1 := rfl
 have hcap : (ByteArray.mk #[112]).size + t.size ≤ 9223372036854775807 := by rw [hs]; omega
 simp only [if_pos hcap]
 refine Evs.now ⟨rfl, rfl, rfl, ?_, by simp [shp_c, shps]⟩
 rw [lk_c, ByteArray.size_append, hs]
 simp [lks]; omega
theorem wids_lks (l : List TExpForm) : wids l ≤ lks l ∧ 0 ≤ lks l := by
 induction l with
 | nil => simp [wids, lks]
 | cons y l ihl =>
  have h1 := lk_wid y
  simp only [wids, lks]; omega
theorem pat_ok {b : List Int} (hb : Rdr b) : ∀ (d : Nat), d ≤ 3 → ∀ (p c : Int), 0 ≤ p → p + pst d ≤ 100000000 → 0 ≤ c → c + pct d ≤ 90 → Evs (fun k => qh.f k (d : Int) b p [c]) (PatR b p c d) := by
 intro d
 induction d with
 | zero =>
  intro _ p c h0 hp c0 hc
  simp only [pct, pst] at hc hp
  refine Evs.shift ?_
  have l1 : (0 : Int) < ([c].length : Int) := by simp
  have l2 : ((0 : Nat) : Int) ≤ 0 := by omega
  have w1 : IntKind.i64.wrap (c + 1) = c + 1 := w64 (by omega) (by omega)
  simp only [qh.f, if_pos l1, if_pos l2, List.getD_cons_zero, List.set_cons_zero, w1]
  refine (pat_leaf hb ((0 : Nat) : Int) p (c + 1) h0 (by omega) (by omega) (by omega)).mono ?_
  rintro r ⟨r1, r2, r3, r4, r8⟩
  exact ⟨r1, by omega, by rw [r2]; simp only [pst]; omega, ⟨c + 1, r3, by omega, by simp only [pct]; omega⟩, by simp only [pll]; omega, r8⟩
 | succ d ih =>
  intro hd3 p c h0 hp c0 hc
  have ih := ih (by omega)
  have hge := p_ge d
  have hb1 : pst d ≤ 1000 ∧ pll d ≤ 1000000 := by
   have : d = 0 ∨ d = 1 ∨ d = 2 := by omega
   rcases this with h | h | h <;> subst h <;> decide
  simp only [pct, pst] at hc hp
  refine Evs.shift ?_
  have l1 : (0 : Int) < ([c].length : Int) := by simp
  have l2 : ¬ ((d + 1 : Nat) : Int) ≤ 0 := by omega
  have w1 : IntKind.i64.wrap (c + 1) = c + 1 := w64 (by omega) (by omega)
  have e1 : ((d + 1 : Nat) : Int) = (d : Int) + 1 := by omega
  have w2 : IntKind.i64.wrap ((d : Int) + 1 - 1) = (d : Int) := by rw [w64 (by omega) (by omega)]; omega
  simp only [qh.f, if_pos l1, if_neg l2, List.getD_cons_zero, List.set_cons_zero, w1]
  refine Evs.bind (pick_ok 3 hb h0 (by omega)) fun r ⟨g1, g2, g3, _⟩ => ?_
  rw [g1]
  by_cases hz : r.1 = 0
  ·rw [decide_eq_true hz]
   refine (pat_leaf hb ((d + 1 : Nat) : Int) (p + 1) (c + 1) (by omega) (by omega) (by omega) (by omega)).mono ?_
   rintro r ⟨r1, r2, r3, r4, r8⟩
   exact ⟨r1, by omega, by rw [r2]; simp only [pst]; omega, ⟨c + 1, r3, by omega, by simp only [pct]; omega⟩, by simp only [pll]; omega, r8⟩
  rw [decide_eq_false hz]
  simp only [qh.j3b, Bool.false_eq_true, if_false]
  refine Evs.bind (pick_ok 5 hb (by omega) (by omega)) fun s ⟨g4, g5, g6, _⟩ => ?_
  rw [g4]
  simp only
  have key : ∀ i : Int, 0 ≤ i → i ≤ 3 → ∀ (q c' : Int) (a : List TExpForm), p + 2 ≤ q → q ≤ p + 2 + i * (pst d + 1) → c + 1 ≤ c' → c' ≤ c + 1 + i * pct d → lks a ≤ i * (pll d + 53) → (a.length : Int) ≤ 2 * i → shps a = true → Evs (fun k => qh.l14 k ((d + 1 : Nat) : Int) s.1 i b q [c'] 3 ByteArray.empty [] 0 a) (PatR b p c (d + 1)) := by
   intro i
   refine goUp (P := fun i => 0 ≤ i → i ≤ 3 → ∀ (q c' : Int) (a : List TExpForm), p + 2 ≤ q → q ≤ p + 2 + i * (pst d + 1) → c + 1 ≤ c' → c' ≤ c + 1 + i * pct d → lks a ≤ i * (pll d + 53) → (a.length : Int) ≤ 2 * i → shps a = true → Evs (fun k => qh.l14 k ((d + 1 : Nat) : Int) s.1 i b q [c'] 3 ByteArray.empty [] 0 a) (PatR b p c (d + 1))) 3 ?_ ?_ i
   ·intro i hi _ hi3 q c' a h1 h2 h3 h4 h5 h6 h7
    obtain rfl : i = 3 := by omega
    have n3 : ¬ (3 : Int) < 3 := by omega
    have hw := wids_lks a
    refine Evs.shift ?_
    simp only [qh.l14, if_neg n3]
    refine Evs.bind (pick_ok 5 hb (by omega) (by omega)) fun t ⟨g7, _, _, _⟩ => ?_
    rw [g7]
    simp only
    have plain : Evs (fun _ : Nat => some ((⟨3, ByteArray.empty, [], 0, a⟩ : TExpForm), b, q + 1, [c'])) (PatR b p c (d + 1)) := by
     refine Evs.now ⟨rfl, by show p ≤ q + 1; omega, by show q + 1 ≤ _; simp only [pst]; omega, ⟨c', rfl, by omega, by simp only [pct]; omega⟩, ?_, by show shp ⟨3, ByteArray.empty, [], 0, a⟩ = true; rw [shp_c, h7]; rfl⟩
     show lk ⟨3, ByteArray.empty, [], 0, a⟩ ≤ _
     rw [lk_c]
     simp only [pll, List.length_nil, show ByteArray.empty.size = 0 from rfl]; omega
    by_cases ht : t.1 = 0
    ·by_cases ha : (0 : Int) < (a.length : Int)
     ·simp only [if_pos ht, if_pos ha, qh.d21b, eTExpForm_eq]
      have hz0 := (show Evs (fun k => qh.f k ((0 : Nat) : Int) b (q + 1) [c']) (PatR b (q + 1) c' 0) from by
       have l1' : (0 : Int) < ([c'].length : Int) := by simp
       have l2' : ((0 : Nat) : Int) ≤ 0 := by omega
       have w1' : IntKind.i64.wrap (c' + 1) = c' + 1 := w64 (by omega) (by omega)
       refine Evs.shift ?_
       simp only [qh.f, if_pos l1', if_pos l2', List.getD_cons_zero, List.set_cons_zero, w1']
       refine (pat_leaf hb ((0 : Nat) : Int) (q + 1) (c' + 1) (by omega) (by omega) (by omega) (by omega)).mono ?_
       rintro r ⟨r1, r2, r3, r4, r8⟩
       exact ⟨r1, by omega, by rw [r2]; simp only [pst]; omega, ⟨c' + 1, r3, by omega, by simp only [pct]; omega⟩, by simp only [pll]; omega, r8⟩)
      refine Evs.bind hz0 ?_
      rintro ⟨y, b', q', cs⟩ ⟨r1, r2, r3, ⟨c2, r4, r5, r6⟩, r7, r8⟩
      simp only at r1 r2 r3 r4 r5 r6 r7 r8
      subst r1 r4
      simp only [pst, pct, pll] at r3 r6 r7
      have hwy := (lk_wid y).1
      refine Evs.bind (Evs.of (ending_ok a y (by omega) (by omega)) (P := fun z => z = joinT a y) rfl) fun z hz => ?_
      subst hz
      have hj := join_lk a y
      exact Evs.now ⟨rfl, by show p ≤ q'; omega, by show q' ≤ _; simp only [pst]; omega, ⟨c2, rfl, by omega, by simp only [pct]; omega⟩, by show lk (joinT a y) ≤ _; simp only [pll]; omega, join_shp a y h7 r8⟩
     ·simp only [if_pos ht, if_neg ha]
      exact plain
    ·simp only [if_neg ht]
     exact plain
   ·intro i hi ihi i0 i3 q c' a h1 h2 h3 h4 h5 h6 h7
    have m1 : (i + 1) * (pst d + 1) = i * (pst d + 1) + (pst d + 1) := by rw [Int.add_mul, Int.one_mul]
    have m2 : (i + 1) * pct d = i * pct d + pct d := by rw [Int.add_mul, Int.one_mul]
    have m3 : (i + 1) * (pll d + 53) = i * (pll d + 53) + (pll d + 53) := by rw [Int.add_mul, Int.one_mul]
    have u1 : i * (pst d + 1) ≤ 2 * (pst d + 1) := Int.mul_le_mul_of_nonneg_right (by omega) (by omega)
    have u2 : i * pct d ≤ 2 * pct d := Int.mul_le_mul_of_nonneg_right (by omega) (by omega)
    have w3 : IntKind.i64.wrap (i + 1) = i + 1 := w64 (by omega) (by omega)
    refine Evs.shift ?_
    simp only [qh.l14, if_pos hi]
    refine Evs.bind (pick_ok 4 hb (by omega) (by omega)) fun t ⟨g7, _, _, _⟩ => ?_
    rw [g7]
    simp only [w3]
    by_cases ht : t.1 = 0
    ·simp only [if_pos ht]
     exact ihi (by omega) (by omega) (q + 1) c' a (by omega) (by omega) (by omega) (by omega) (by omega) (by omega) h7
    ·simp only [if_neg ht, qh.d17b, e1, w2, w3, eTExpForm_eq]
     refine Evs.bind (ih (q + 1) c' (by omega) (by omega) (by omega) (by omega)) ?_
     rintro ⟨y, b', q', cs⟩ ⟨r1, r2, r3, ⟨c2, r4, r5, r6⟩, r7, r8⟩
     simp only at r1 r2 r3 r4 r5 r6 r7 r8
     subst r1 r4
     have g8 : a.length + [y].length ≤ 1759218604441 := by simp only [List.length_singleton]; omega
     have g9 : ∀ z : TExpForm, (a ++ [y]).length + [z].length ≤ 1759218604441 := fun z => by simp only [List.length_append, List.length_singleton]; omega
     have g10 : lk ⟨1, ByteArray.mk #[46, 46, 46], [], 0, []⟩ = 53 := by rw [lk_c]; rfl
     simp only [if_pos g8]
     have hnext := fun (a' : List TExpForm) (x1 : lks a' ≤ i * (pll d + 53) + (pll d + 53)) (x2 : (a'.length : Int) ≤ 2 * (i + 1)) (x3 : shps a' = true) => ihi (by omega) (by omega) q' c2 a' (by omega) (by omega) (by omega) (by omega) (by omega) x2 x3
     rw [e1] at hnext
     by_cases hs : i = s.1
     ·simp only [if_pos hs, if_pos (g9 _)]
      have := hnext ((a ++ [y]) ++ [⟨1, ByteArray.mk #[46, 46, 46], [], 0, []⟩]) (by rw [lks_append, lks_append]; simp only [lks, g10]; omega) (by simp only [List.length_append, List.length_singleton]; omega) (by rw [shps_append, shps_append, h7]; simp [shps, r8, shp_c])
      exact this
     ·simp only [if_neg hs]
      exact hnext (a ++ [y]) (by rw [lks_append]; simp only [lks]; omega) (by simp only [List.length_append, List.length_singleton]; omega) (by rw [shps_append, h7]; simp [shps, r8])
  exact key 0 (by omega) (by omega) (p + 1 + 1) (c + 1) [] (by omega) (by omega) (by omega) (by omega) (by simp [lks]) (by simp) rfl
end Go.Proofs.YtmcbhnbemhfifaaGreatDoor.RX
end
section
namespace Go.Proofs.YtmcbhnbemhfifaaGreatDoor.RX
open Go K
set_option autoImplicit false
set_option linter.unusedVariables false
set_option linter.unusedSimpArgs false
theorem parts_any (x : TExpForm) (hl : (x.vKids.length : Int) ≤ 1000000000) (h : x.vSort = 4 → 1 ≤ x.vKids.length) : Ev (fun k => qz.f k x) (partsOf x) := by
 simp only [qz.f, partsOf]
 by_cases h4 : x.vSort = 4
 ·have h1 := h h4
  simp (disch := omega) only [if_pos h4, if_pos, w64, List.drop_zero]
  refine Ev.eq (Ev.now _) ?_
  rw [show ((x.vKids.length : Int) - 1).toNat = x.vKids.length - 1 by omega]
 ·simp only [if_neg h4]; exact Ev.now _
def Lk (b : List Int) (p n : Int) (r : TExpForm × List Int × Int) : Prop := On b p n r.2 ∧ wid r.1 ≤ n
theorem like_ok {b : List Int} (hb : Rdr b) : ∀ x : TExpForm, shp x = true → ∀ p : Int, 0 ≤ p → lk x ≤ 100000000 → p + lk x ≤ 1000000000 → Evs (fun k => qc.f k x b p) (Lk b p (lk x)) := by
 refine indForm fun x ih hsh p h0 hlx hp => ?_
 have hlw := lk_wid x
 have hlm := lk_mk x
 have hxp := wid_parts x
 have hks := wids_lks x.vKids
 rw [shp_mk, Bool.and_eq_true, Bool.or_eq_true, Bool.not_eq_true', decide_eq_false_iff_not, decide_eq_true_eq] at hsh
 obtain ⟨hs1, hs2⟩ := hsh
 have form1 : ∀ q : Int, p ≤ q → q ≤ p + 5 → Evs (fun k => (qa.f k (1 : Int) b q).bind fun r2 => some (r2.1, r2.2.1, r2.2.2)) (Lk b p (lk x)) := by
  intro q hq1 hq2
  have e9 : steps 1 = 36 := by decide
  have e8 : lim 1 = 44 := by decide
  have hf := form_ok hb 1 (by omega) q (by omega) (by omega)
  rw [e9, e8] at hf
  refine Evs.bind hf fun r ⟨⟨g1, g2, g3⟩, g4⟩ => ?_
  exact Evs.now ⟨⟨g1, by show p ≤ r.2.2; omega, by show r.2.2 ≤ _; omega⟩, by show wid r.1 ≤ _; omega⟩
 have copy1 : ∀ q : Int, p ≤ q → q ≤ p + 5 → Evs (fun k => (qx.f k x).bind fun r1 => some ((⟨r1.1, r1.2.1, r1.2.2.2.1, r1.2.2.1, r1.2.2.2.2⟩ : TExpForm), b, q)) (Lk b p (lk x)) := by
  intro q hq1 hq2
  refine Evs.bind (Evs.of (copy_all x (by omega)) (P := fun r => r = (x.vSort, x.vText, x.vFrom, x.vScopes, x.vKids)) rfl) fun r hr => ?_
  subst hr
  exact Evs.now ⟨⟨rfl, hq1, by show q ≤ _; omega⟩, by show wid ⟨x.vSort, x.vText, x.vScopes, x.vFrom, x.vKids⟩ ≤ _; rw [mTExpForm]; omega⟩
 refine Evs.shift ?_
 simp only [qc.f, eTExpForm_eq]
 refine Evs.bind (pick_ok 24 hb h0 (by omega)) fun r ⟨g1, _, _, _⟩ => ?_
 rw [g1]
 simp only
 refine Evs.ite (fun _ => form1 (p + 1) (by omega) (by omega)) fun _ => ?_
 by_cases h1 : x.vSort = 1
 ·simp only [if_pos h1, qc.j4b, mTExpForm, eTExpForm_eq]
  by_cases ht : x.vText.toList = (ByteArray.mk #[101, 108, 115, 101]).toList
  ·simp only [decide_eq_true ht, if_true]
   exact copy1 (p + 1) (by omega) (by omega)
  ·simp only [decide_eq_false ht, Bool.false_eq_true, if_false]
   exact form1 (p + 1) (by omega) (by omega)
 simp only [if_neg h1, qc.j4b, mTExpForm, eTExpForm_eq, Bool.false_eq_true, if_false]
 by_cases h2 : x.vSort = 2
 ·simp only [if_pos h2]
  exact copy1 (p + 1) (by omega) (by omega)
 simp only [if_neg h2]
 have hpl : ((partsOf x).length : Int) ≤ 1000000000 := by
  unfold partsOf; split
  ·rw [List.length_take]; omega
  ·omega
 have hsub : ∀ y ∈ partsOf x, y ∈ x.vKids := by
  intro y hy
  unfold partsOf at hy
  split at hy
  ·exact List.mem_of_mem_take hy
  ·exact hy
 refine Evs.bind (Evs.of (parts_any x (by omega) (fun h => hs1.resolve_left (fun n => n h))) (P := fun r => r = partsOf x) rfl) fun r hr => ?_
 subst hr
 have hlast : x.vSort = 4 → lks (partsOf x) + lk (lastOf x) = lks x.vKids ∧ lastOf x ∈ x.vKids := by
  intro h4
  have h1' := hs1.resolve_left (fun n => n h4)
  have e := take_last (l := x.vKids) (by omega)
  have e2 : partsOf x ++ [lastOf x] = x.vKids := by simp only [partsOf, if_pos h4, lastOf]; exact e
  refine ⟨by rw [← e2, lks_append]; simp [lks], rdAt_mem _ _ _ (by omega) (by omega)⟩
 have hpk : lks (partsOf x) ≤ lks x.vKids := by
  by_cases h4 : x.vSort = 4
  ·have := (hlast h4).1; have := (lk_wid (lastOf x)).2; omega
  ·simp only [partsOf, if_neg h4]; exact Int.le_refl _
 have hmem : ∀ y ∈ x.vKids, lk y ≤ lks x.vKids := by
  intro y hy
  generalize x.vKids = l at hy
  induction l with
  | nil => cases hy
  | cons z l ihl =>
   have := (lk_wid z).2
   have := (wids_lks l).2
   simp only [lks]
   rcases List.mem_cons.1 hy with rfl | hy
   ·omega
   ·have := ihl hy; omega
 have loop := goList (partsOf x) (P := fun i suf => ∀ (q : Int) (a : List TExpForm), p + 1 ≤ q → q + 4 * lks suf ≤ p + 1 + 4 * lks (partsOf x) → wids a + 3 * lks suf ≤ 3 * lks (partsOf x) → Evs (fun k => qc.l12 k (partsOf x) i b q x.vSort x.vKids 3 ByteArray.empty [] 0 a) (Lk b p (lk x))) ?_ ?_ (p + 1) [] (Int.le_refl _) (by omega) (by simp [wids])
 ·exact loop
 ·intro q a h3 h4 h5
  simp only [lks] at h4 h5
  have nl : ¬ ((partsOf x).length : Int) < ((partsOf x).length : Int) := Int.lt_irrefl _
  have hal := wids_len a
  refine Evs.shift ?_
  simp only [qc.l12, if_neg nl]
  by_cases s4 : x.vSort = 4
  ·obtain ⟨k1, k2⟩ := hlast s4
   have h1' := hs1.resolve_left (fun n => n s4)
   have w1 : IntKind.i64.wrap ((x.vKids.length : Int) - 1) = (x.vKids.length : Int) - 1 := w64 (by omega) (by omega)
   have c1 : 0 ≤ (x.vKids.length : Int) - 1 := by omega
   have c2 : (x.vKids.length : Int) - 1 < (x.vKids.length : Int) := by omega
   have e1 : rdAt zTExpForm x.vKids ((x.vKids.length : Int) - 1) = lastOf x := rfl
   simp only [if_pos s4, qc.d22b, w1, if_pos c1, if_pos c2, e1, eTExpForm_eq]
   refine Evs.bind (ih (lastOf x) k2 (shps_mem hs2 _ k2) q (by omega) (by omega) (by omega)) fun r ⟨⟨g1, g2, g3⟩, g4⟩ => ?_
   refine Evs.bind (Evs.of (ending_ok a r.1 (by omega) (by omega)) (P := fun z => z = joinT a r.1) rfl) fun z hz => ?_
   subst hz
   have hjw : wid (joinT a r.1) ≤ 1 + wids a + wid r.1 := by
    have hp' := wid_parts r.1
    unfold joinT
    split
    ·omega
    ·split
     ·rw [wid_c, wids_append]; simp only [List.length_nil, show ByteArray.empty.size = 0 from rfl]; omega
     ·rw [wid_c, wids_append, wids_one]; simp only [List.length_nil, show ByteArray.empty.size = 0 from rfl]; omega
   exact Evs.now ⟨⟨g1, by show p ≤ r.2.2; omega, by show r.2.2 ≤ _; omega⟩, by show wid (joinT a r.1) ≤ _; omega⟩
  ·simp only [if_neg s4]
   refine Evs.now ⟨⟨rfl, by show p ≤ q; omega, by show q ≤ _; omega⟩, ?_⟩
   show wid ⟨3, ByteArray.empty, [], 0, a⟩ ≤ _
   rw [wid_c]; simp only [List.length_nil, show ByteArray.empty.size = 0 from rfl]; omega
 ·intro i y t i0 i1 hx hm hl hdr _ ihr q a h3 h4 h5
  have hmy := hsub y hm
  have hly := hmem y hmy
  have hgy := (lk_wid y).2
  have hlt := (wids_lks t).2
  simp only [lks] at h4 h5
  have hal := wids_len a
  have w1 : IntKind.i64.wrap (i + 1) = i + 1 := w64 (by omega) (by omega)
  have inner : ∀ n : Int, n ≤ 3 → ∀ (q' : Int) (a' : List TExpForm), p + 1 ≤ q' → 0 ≤ n → q' + n * lk y + 4 * lks t ≤ p + 1 + 4 * lks (partsOf x) → wids a' + n * lk y + 3 * lks t ≤ 3 * lks (partsOf x) → Evs (fun k => qc.j18 k (partsOf x) i n b q' x.vSort x.vKids 3 ByteArray.empty [] 0 a') (Lk b p (lk x)) := by
   intro n
   simp only [qc.j18, qc.j18b]
   refine goDown (P := fun n => n ≤ 3 → ∀ (q' : Int) (a' : List TExpForm), p + 1 ≤ q' → 0 ≤ n → q' + n * lk y + 4 * lks t ≤ p + 1 + 4 * lks (partsOf x) → wids a' + n * lk y + 3 * lks t ≤ 3 * lks (partsOf x) → Evs (fun k => qc.l18 k (partsOf x) i n b q' x.vSort x.vKids 3 ByteArray.empty [] 0 a') (Lk b p (lk x))) ?_ ?_ n
   ·intro n hn _ q' a' k1 k2 k3 k4
    obtain rfl : n = 0 := by omega
    have n0 : ¬ (0 : Int) < 0 := by omega
    refine Evs.shift ?_
    simp only [qc.l18, if_neg n0, w1]
    exact ihr q' a' k1 (by omega) (by omega)
   ·intro n hn ihn hn3 q' a' k1 k2 k3 k4
    have m1 : n * lk y = (n - 1) * lk y + lk y := by rw [Int.sub_mul, Int.one_mul]; omega
    have m2 : 0 ≤ (n - 1) * lk y := Int.mul_nonneg (by omega) (by omega)
    have w2 : IntKind.i64.wrap (n - 1) = n - 1 := w64 (by omega) (by omega)
    have hal' := wids_len a'
    refine Evs.shift ?_
    simp only [qc.l18, if_pos hn, qc.d20b, if_pos i0, if_pos i1, hx, w2, eTExpForm_eq]
    refine Evs.bind (ih y hmy (shps_mem hs2 _ hmy) q' (by omega) (by omega) (by omega)) fun r ⟨⟨g1, g2, g3⟩, g4⟩ => ?_
    have hc : a'.length + [r.1].length ≤ 1759218604441 := by simp only [List.length_singleton]; omega
    simp only [if_pos hc]
    rw [g1]
    exact ihn (by omega) _ _ (by omega) (by omega) (by omega) (by rw [wids_append, wids_one]; omega)
  refine Evs.shift ?_
  simp only [qc.l12, if_pos i1, if_pos i0, hx, w1, eTExpForm_eq]
  refine Evs.bind (Evs.of (dots_spec y) (P := fun r => r = isDots y) rfl) fun r hr => ?_
  subst hr
  refine Evs.ite (fun _ => ihr q a h3 (by omega) (by omega)) fun _ => ?_
  refine Evs.ite (fun hlt1 => ?_) fun _ => inner 1 (by omega) q a h3 (by omega) (by omega) (by omega)
  have c3 : 0 ≤ i + 1 := by omega
  simp only [if_pos c3, if_pos hlt1]
  refine Evs.bind (Evs.of (dots_spec _) (P := fun _ => True) trivial) fun r2 _ => ?_
  refine Evs.ite (fun _ => ?_) fun _ => inner 1 (by omega) q a h3 (by omega) (by omega) (by omega)
  refine Evs.bind (pick_ok 4 hb (by omega) (by omega)) fun r3 ⟨g1, g2, g3, _⟩ => ?_
  rw [g1]
  have m3 : r3.1 * lk y ≤ 3 * lk y := Int.mul_le_mul_of_nonneg_right (by omega) (by omega)
  exact inner r3.1 (by omega) (q + 1) a (by omega) (by omega) (by omega) (by omega)
theorem lits_ok {b : List Int} (hb : Rdr b) (p : Int) (h0 : 0 ≤ p) (hp : p ≤ 1000000000) : Evs (fun k => q2d.f k b p) (fun r => r.1 = b ∧ r.2.1 = p + 1 ∧ Sml r.2.2) := by
 simp only [q2d.f]
 refine Evs.bind (pick_ok 3 hb h0 (by omega)) fun r ⟨g1, _, _, _⟩ => ?_
 rw [g1]
 refine Evs.ite (fun _ => Evs.now ⟨rfl, rfl, by simp, by simp⟩) fun _ => Evs.now ⟨rfl, rfl, by simp, ?_⟩
 intro x hx
 rw [List.mem_singleton.1 hx]
 decide
theorem binds_loop {b : List Int} (hb : Rdr b) : ∀ (n p : Int) (a : List TExpBind), n ≤ 10 → 0 ≤ p → p + 6 * n ≤ 1000000000 → (a.length : Int) + n ≤ 10 → SmlB a → Evs (fun k => qy.l3 k n b p a) (fun r => SmlB r.2.2) := by
 intro n
 refine goDown (P := fun n => ∀ (p : Int) (a : List TExpBind), n ≤ 10 → 0 ≤ p → p + 6 * n ≤ 1000000000 → (a.length : Int) + n ≤ 10 → SmlB a → Evs (fun k => qy.l3 k n b p a) (fun r => SmlB r.2.2)) ?_ ?_ n
 ·intro i hi p a _ _ _ _ ha
  have n0 : ¬ 0 < i := by omega
  refine Evs.shift ?_
  simp only [qy.l3, if_neg n0]
  exact Evs.now ha
 ·intro i hi ih p a h10 h0 hp hal ha
  have w1 : IntKind.i64.wrap (i - 1) = i - 1 := w64 (by omega) (by omega)
  refine Evs.shift ?_
  simp only [qy.l3, if_pos hi]
  refine Evs.bind (id_ok hb h0 (by omega)) fun r ⟨⟨g1, g2, g3⟩, g4⟩ => ?_
  have hr := wid_parts r.1
  simp only [qy.d6b, w1]
  refine Evs.bind (dec_ok i.toNat i (by omega) (by omega) (by omega)) fun t ht => ?_
  have ht : (t.size : Int) ≤ i + 1 := ht
  have hs : (ByteArray.mk #[110]).size = 1 := rfl
  have c1 : (ByteArray.mk #[110]).size + t.size ≤ 9223372036854775807 := by rw [hs]; omega
  have c2 : ∀ z : TExpBind, a.length + [z].length ≤ 2513169434916 := fun z => by simp only [List.length_singleton]; omega
  simp only [if_pos c1, if_pos (c2 _)]
  rw [g1]
  refine ih _ _ (by omega) (by omega) (by omega) (by rw [List.length_append, List.length_singleton]; omega) ⟨by rw [List.length_append, List.length_singleton]; omega, fun x hx => ?_⟩
  rcases List.mem_append.1 hx with hx | hx
  ·exact ha.2 x hx
  ·rw [List.mem_singleton.1 hx]
   show (r.1.vScopes.length : Int) ≤ _
   omega
theorem binds_ok {b : List Int} (hb : Rdr b) (p : Int) (h0 : 0 ≤ p) (hp : p ≤ 100000000) : Evs (fun k => qy.f k b p) (fun r => SmlB r.2.2) := by
 simp only [qy.f]
 refine Evs.bind (pick_ok 6 hb h0 (by omega)) fun r ⟨g1, g2, g3, _⟩ => ?_
 rw [g1]
 exact binds_loop hb r.1 (p + 1) [] (by omega) (by omega) (by omega) (by simp; omega) ⟨by simp, by simp⟩
theorem drawMatch_ok (l : List Int) (hl : ∀ x ∈ l, 0 ≤ x ∧ x ≤ 255) : Evs (fun k => q1f.f k l) (fun r => wid r.1 ≤ 1000000 ∧ wid r.2.1 ≤ 1000000 ∧ Sml r.2.2.1 ∧ SmlB r.2.2.2) := by
 simp only [q1f.f]
 refine Evs.bind (open_ok l hl) fun r ⟨hb, h0⟩ => ?_
 obtain ⟨b, p⟩ := r
 simp only at hb h0
 subst h0
 have e1 : pst 3 = 171 := by decide
 have e2 : pct 3 = 53 := by decide
 have e3 : pll 3 ≤ 500000 := by decide
 refine Evs.bind (pat_ok hb 3 (by omega) 0 0 (by omega) (by omega) (by omega) (by omega)) ?_
 rintro ⟨pt, b1, p1, cs⟩ ⟨r1, r2, r3, _, r4, r5⟩
 simp only at r1 r2 r3 r4 r5
 subst r1
 simp only [eTExpForm_eq]
 have hlw := lk_wid pt
 refine Evs.bind (like_ok hb pt r5 p1 (by omega) (by omega) (by omega)) ?_
 rintro ⟨f, b2, p2⟩ ⟨⟨s1, s2, s3⟩, s4⟩
 simp only at s1 s2 s3 s4
 subst s1
 refine Evs.bind (lits_ok hb p2 (by omega) (by omega)) ?_
 rintro ⟨b3, p3, lits⟩ ⟨t1, t2, t3⟩
 simp only at t1 t2 t3
 subst t1 t2
 dsimp only
 refine Evs.bind (pick_ok 20 hb (by omega) (by omega)) fun r ⟨g1, _, _, _⟩ => ?_
 rw [g1]
 have stop : ∀ (pt' f' : TExpForm) (q : Int), 0 ≤ q → q ≤ 10000000 → wid pt' ≤ 1000000 → wid f' ≤ 1000000 → Evs (fun k => q1f.d9 k b3 q pt'.vSort pt'.vText pt'.vScopes pt'.vFrom pt'.vKids f'.vSort f'.vText f'.vScopes f'.vFrom f'.vKids lits) (fun r => wid r.1 ≤ 1000000 ∧ wid r.2.1 ≤ 1000000 ∧ Sml r.2.2.1 ∧ SmlB r.2.2.2) := by
  intro pt' f' q q0 q1 w1 w2
  simp only [q1f.d9, mTExpForm]
  refine Evs.bind (binds_ok hb q q0 (by omega)) fun r hr => ?_
  exact Evs.now ⟨w1, w2, t3, hr⟩
 have mid : ∀ (pt' : TExpForm) (q : Int), 0 ≤ q → q ≤ 1000000 → wid pt' ≤ 1000000 → Evs (fun k => q1f.j7 k b3 q pt'.vSort pt'.vText pt'.vScopes pt'.vFrom pt'.vKids f.vSort f.vText f.vScopes f.vFrom f.vKids lits) (fun r => wid r.1 ≤ 1000000 ∧ wid r.2.1 ≤ 1000000 ∧ Sml r.2.2.1 ∧ SmlB r.2.2.2) := by
  intro pt' q q0 q1 w1
  simp only [q1f.j7, mTExpForm]
  refine Evs.bind (pick_ok 20 hb (by omega) (by omega)) fun r ⟨g1, _, _, _⟩ => ?_
  rw [g1]
  refine Evs.ite (fun _ => ?_) fun _ => stop pt' f (q + 1) (by omega) (by omega) w1 (by omega)
  refine Evs.bind (spoil_ok f (n := 500000) hb (by omega) (by omega) (by omega) (by omega)) fun r ⟨⟨k1, k2, k3⟩, k4⟩ => ?_
  rw [k1]
  exact stop pt' r.1 r.2.2 (by omega) (by omega) w1 (by omega)
 refine Evs.ite (fun _ => ?_) fun _ => mid pt (p2 + 1 + 1) (by omega) (by omega) (by omega)
 refine Evs.bind (spoil_ok pt (n := 500000) hb (by omega) (by omega) (by omega) (by omega)) fun r ⟨⟨k1, k2, k3⟩, k4⟩ => ?_
 rw [k1]
 exact mid r.1 r.2.2 (by omega) (by omega) (by omega)
end Go.Proofs.YtmcbhnbemhfifaaGreatDoor.RX
end
section
namespace Go.Proofs.YtmcbhnbemhfifaaGreatDoor.RX
open Go K
set_option autoImplicit false
set_option linter.unusedVariables false
set_option linter.unusedSimpArgs false
theorem patB_parts {p : TExpForm} {lits : List TExpForm} (h : patB p lits = true) : okb p = true ∧ isDots p = false ∧ stOk p = true ∧ noDup [] (nms lits p) = true ∧ (∀ x ∈ lits, x.vSort = 1) := by
 unfold patB at h
 simp only [Bool.and_eq_true, Bool.not_eq_true'] at h
 refine ⟨h.1, h.2.2.1, h.2.2.2.1, h.2.2.2.2, fun x hx => ?_⟩
 have := List.all_eq_true.1 h.2.1 x hx
 unfold litOk at this
 simp only [Bool.and_eq_true, decide_eq_true_eq] at this
 exact this.1
def matchB (lits : List TExpForm) (binds : List TExpBind) (p f : TExpForm) : Bool × GL :=
 if patB p lits then (if okb f then outM (mtn lits binds (cnt p).toNat p f) else (false, [])) else (false, [])
theorem ExpMatch_impl (p f : TExpForm) (lits : List TExpForm) (binds : List TExpBind) (hp : wid p ≤ 1000000) (hf : wid f ≤ 1000000) (hl : Sml lits) (hb : SmlB binds) : Ev (fun k => q2b.f k p lits f binds) (matchB lits binds p f) := by
 simp only [q2b.f, eTExpForm_eq, matchB]
 refine Ev.bind (PatternOk_impl p lits (by omega) hl) ?_
 cases hpb : patB p lits with
 | false => simp only [Bool.false_eq_true, not_false_eq_true, if_true, if_false]; exact Ev.now _
 | true =>
  simp only [not_true, if_false, if_true]
  refine Ev.bind (formOk_impl f (by omega)) ?_
  cases hfb : okb f with
  | false => simp only [Bool.false_eq_true, not_false_eq_true, if_true, if_false]; exact Ev.now _
  | true =>
   simp only [not_true, if_false, if_true]
   obtain ⟨h1, h2, h3, h4, h5⟩ := patB_parts hpb
   have hp2 : okf p 0 = true ∧ cnt p ≤ 1500 := by unfold okb leB at h1; simpa using h1
   have hf2 : okf f 0 = true ∧ cnt f ≤ 1500 := by unfold okb leB at hfb; simpa using hfb
   have hc := (cnt_pos p).1
   refine Ev.bind (match_impl lits binds hl hb (cnt p).toNat p 0 f (by omega) hp2.1 h3 (fun _ => ⟨0, hf2.1, by omega⟩) (by omega) (by omega)) ?_
   exact Ev.now _
theorem ExpMatch_spec (p f : TExpForm) (lits : List TExpForm) (binds : List TExpBind) (hp : wid p ≤ 1000000) (hf : wid f ≤ 1000000) (hl : Sml lits) (hb : SmlB binds) : Ev (fun k => q2f.f k p lits f binds) (matchB lits binds p f) := by
 simp only [q2f.f, eTExpForm_eq, matchB]
 refine Ev.bind (PatternOk_spec p lits (by omega) hl) ?_
 cases hpb : patB p lits with
 | false => simp only [Bool.false_eq_true, not_false_eq_true, if_true, if_false]; exact Ev.now _
 | true =>
  simp only [not_true, if_false, if_true]
  refine Ev.bind (formOk_spec f (by omega)) ?_
  cases hfb : okb f with
  | false => simp only [Bool.false_eq_true, not_false_eq_true, if_true, if_false]; exact Ev.now _
  | true =>
   simp only [not_true, if_false, if_true]
   obtain ⟨h1, h2, h3, h4, h5⟩ := patB_parts hpb
   have hp2 : okf p 0 = true ∧ cnt p ≤ 1500 := by unfold okb leB at h1; simpa using h1
   have hf2 : okf f 0 = true ∧ cnt f ≤ 1500 := by unfold okb leB at hfb; simpa using hfb
   have hc := (cnt_pos p).1
   obtain ⟨r, hr, hev⟩ := match_spec lits binds hl h5 hb (cnt p).toNat p 0 f (by omega) hp2.1 h3 h4 (fun _ => ⟨0, hf2.1⟩) (by omega) (by omega) [] [] (by simp; omega) (by simp; omega)
   refine Ev.bind hev ?_
   rw [hr.ok, hr.go]
   exact Ev.now _
theorem law_ma (p f : TExpForm) (lits : List TExpForm) (binds : List TExpBind) (hp : wid p ≤ 1000000) (hf : wid f ≤ 1000000) (hl : Sml lits) (hb : SmlB binds) :
  Ev (fun k => q1d.j8 k binds p.vSort p.vText p.vScopes p.vFrom p.vKids f.vSort f.vText f.vScopes f.vFrom f.vKids) true := by
 simp only [q1d.j8, mTExpForm]
 refine Ev.bind (ExpMatch_impl p f [] binds hp hf ⟨by simp, by simp⟩ hb) ?_
 cases hmb : (matchB [] binds p f).1 with
 | false => simp only [Bool.false_eq_true, not_false_eq_true, if_true]; exact Ev.now _
 | true =>
  simp only [not_true, if_false]
  refine Ev.bind (wxBlank_ev p (by omega)) ?_
  cases hbl : blankB p with
  | true => simp only [if_true]; exact Ev.now _
  | false =>
   simp only [Bool.false_eq_true, if_false]
   refine Ev.bind (wxBare_ev p (by omega)) ?_
   cases hba : bareB p with
   | true => simp only [if_true]; exact Ev.now _
   | false =>
    simp only [Bool.false_eq_true, if_false, q1d.j11, mTExpForm, eTExpForm_eq]
    unfold matchB at hmb ⊢
    cases hpb : patB p [] with
    | false => rw [hpb] at hmb; simp at hmb
    | true =>
     cases hfb : okb f with
     | false => rw [hpb, hfb] at hmb; simp at hmb
     | true =>
      rw [hpb, hfb] at hmb
      simp only [if_true] at hmb ⊢
      cases hm : mtn [] binds (cnt p).toNat p f with
      | none => rw [hm] at hmb; cases hmb
      | some gs =>
       obtain ⟨h1, h2, h3, h4, _⟩ := patB_parts hpb
       have hc := (cnt_pos p).1
       refine Ev.bind (ExpFill_impl binds (cnt p).toNat p f gs (by omega) h1 h3 h2 h4 (fillOk_of p hbl hba) (by omega) (by omega) hfb hm) ?_
       simp only [if_true]
       refine Ev.bind (wxForm_same f (by omega)) ?_
       exact Ev.now _
theorem law_pure (l : List Int) (hw : ∀ x ∈ l, 0 ≤ x ∧ x ≤ 255) : ∃ k, q1d.f k l = some true := by
 refine Ev.some ?_
 simp only [q1d.f]
 refine Ev.ite (fun _ => Ev.now _) fun _ => ?_
 obtain ⟨r, ⟨w1, w2, w3, w4⟩, hev⟩ := drawMatch_ok l hw
 obtain ⟨p, f, lits, binds⟩ := r
 simp only at w1 w2 w3 w4
 refine Ev.bind hev ?_
 simp only [eTExpForm_eq]
 refine Ev.bind (ExpMatch_impl p f lits binds w1 w2 w3 w4) ?_
 refine Ev.bind (ExpMatch_spec p f lits binds w1 w2 w3 w4) ?_
 simp only [q1d.d6, not_true, if_false, mTExpForm]
 have rest := law_ma p f lits binds w1 w2 w3 w4
 have gots : Ev (fun k => q11.f k (matchB lits binds p f).2 (matchB lits binds p f).2) true := by
  have nil : Ev (fun k => q11.f k [] []) true := wxGots_same [] (by simp) (fun g hg => by cases hg)
  unfold matchB
  cases hpb : patB p lits with
  | false => exact nil
  | true =>
   cases hfb : okb f with
   | false => exact nil
   | true =>
    simp only [if_true]
    cases hm : mtn lits binds (cnt p).toNat p f with
    | none => exact nil
    | some gs =>
     obtain ⟨h1, h2, h3, h4, _⟩ := patB_parts hpb
     have hc := (cnt_pos p).1
     exact gots_same lits binds (cnt p).toNat p f gs (by omega) h1 h3 h2 (by omega) (by omega) hfb hm
 refine Ev.bind gots ?_
 simp only [not_true, if_false]
 refine Ev.bind (PatternOk_impl p lits (by omega) w3) ?_
 refine Ev.bind (PatternOk_spec p lits (by omega) w3) ?_
 simp only [not_true, if_false]
 cases hmb : (matchB lits binds p f).1 with
 | false => simp only [Bool.false_eq_true, if_false]; exact rest
 | true =>
  simp only [if_true]
  refine Ev.bind (PatternOk_impl p lits (by omega) w3) ?_
  have hpb : patB p lits = true := by
   unfold matchB at hmb
   cases h : patB p lits with
   | true => rfl
   | false => rw [h] at hmb; simp at hmb
  rw [hpb]
  simp only [not_true, if_false]
  exact rest
end Go.Proofs.YtmcbhnbemhfifaaGreatDoor.RX
end
