/- What is to be shown of a program's types, by each type's kind; of the places told by patterns. -/
import Derived.Test.YtmcbhnbemhfifaaDoorRx20
namespace Go.Proofs.YtmcbhnbemhfifaaDoor.RX
open Go Go.RowKit
set_option autoImplicit false
variable {G : Sig} {R : Type} {P : Program}

def cutAt (x : Option (Pt G R × Cut G R)) : Option (Cut G R) := match x with | some (_, c) => some c | none => none
def kdAt (x : Option (Pt G R × Cut G R)) : Bool := match x with | none => false | some (p, _) => match p.kd with | .loop => true | _ => false
theorem used_mem {E : Nat → Env G R} : ∀ {l : List (Pt G R)} {p : Pt G R} {c : Cut G R}, p ∈ l → cutOf E p = some c → (p, c) ∈ used E l
  | q :: l, p, c, h, hc => by
    rcases List.mem_cons.1 h with h | h
    · subst h
      unfold used
      rw [hc]
      exact List.mem_cons_self
    · unfold used
      split
      · exact List.mem_cons_of_mem _ (used_mem h hc)
      · exact used_mem h hc
def AtGood (E : Nat → Env G R) (x : Option (Pt G R × Cut G R)) : Prop := ∀ p c, x = some (p, c) → PtGood E p c
theorem loopGood {E : Nat → Env G R} {x : Option (Pt G R × Cut G R)} (c : Cut G R) (h1 : cutAt x = some c) (h2 : kdAt x = true) (h3 : ∀ h, c.g 0 h = none) (h4 : ∀ k h, c.g (k + 1) h = semPt E x k (instP c.pat (ofHL c.ts h))) : AtGood E x := by
  rintro p c' rfl
  injection h1 with h1
  subst h1
  unfold PtGood
  simp only [kdAt] at h2
  split at h2
  · rename_i e; rw [e]; exact ⟨h3, h4⟩
  · cases h2
theorem joinGood {E : Nat → Env G R} {x : Option (Pt G R × Cut G R)} (c : Cut G R) (h1 : cutAt x = some c) (h2 : kdAt x = false) (h4 : ∀ k h, c.g k h = semPt E x k (instP c.pat (ofHL c.ts h))) : AtGood E x := by
  rintro p c' rfl
  injection h1 with h1
  subst h1
  unfold PtGood
  simp only [kdAt] at h2
  split at h2
  · cases h2
  · rename_i e
    split
    · rename_i e'; exact absurd e' e
    · exact h4
theorem allGood {E : Nat → Env G R} {l : List (Pt G R)} (n : Nat) (hn : len (used E l) = n) (h : ∀ i, i < n → AtGood E (nth (used E l) i)) : AllGood E l := by
  intro p hp c hc
  obtain ⟨i, hi⟩ := List.getElem?_of_mem (used_mem hp hc)
  have hlt : i < n := by
    rw [← hn, len_eq]
    exact (List.getElem?_eq_some_iff.1 hi).1
  refine h i hlt p c ?_
  rw [nth_eq]
  exact hi

/-- A struct's fields are as told. -/
def fldB (P : Program) (n : Nat) : List Field → List (Nat × Nat) → Bool
  | [], [] => true
  | f :: fs, (d, m) :: r => match P.info? f.type, P.underlying f.type with
    | some i, some dd => Nat.beq f.offset d && (Nat.beq i.size m && (Nat.ble (d + m) n && ((!Nat.beq m 1 || !isAggD dd) && fldB P n fs r)))
    | _, _ => false
  | _, _ => false
def stfB (G : Sig) : Nat → List Ty → List (Nat × Nat) → Bool
  | _, [], _ => true
  | _, _ :: _, [] => true
  | o, t :: ts, (d, m) :: r => Nat.beq d o && (Nat.beq m (G.csz t) && stfB G (o + G.csz t) ts r)
theorem fldB_ok {n : Nat} : ∀ {fs : List Field} {l : List (Nat × Nat)}, fldB P n fs l = true → fs.mapM (fun f => (P.info? f.type).map fun i => (f.offset, i.size)) = some l ∧
    ∀ f d m, nth l f = some (d, m) → ∃ fd, fs[f]? = some fd ∧ fd.offset = d ∧ d + m ≤ n ∧ ∃ i, P.info? fd.type = some i ∧ i.size = m ∧ (m = 1 → ∃ dd, P.underlying fd.type = some dd ∧ isAggD dd = false)
  | [], [], _ => ⟨rfl, fun f d m h => by cases f <;> cases h⟩
  | f :: fs, (d, m) :: r, h => by
    simp only [fldB] at h
    split at h
    · rename_i i dd hi hd
      simp only [Bool.and_eq_true, Bool.or_eq_true, Bool.not_eq_true'] at h
      obtain ⟨h1, h2, h3, h4, h5⟩ := h
      obtain ⟨k1, k2⟩ := fldB_ok h5
      have h1 := Nat.eq_of_beq_eq_true h1
      have h2 := Nat.eq_of_beq_eq_true h2
      have h3 := ble_iff.1 h3
      refine ⟨?_, fun g d' m' hg => ?_⟩
      · rw [List.mapM_cons, hi, k1]
        simp [h1, h2]
      · cases g with
        | zero =>
          simp only [nth, Option.some.injEq, Prod.mk.injEq] at hg
          obtain ⟨e1, e2⟩ := hg
          subst e1 e2
          refine ⟨f, rfl, h1, h3, i, hi, h2, fun hm => ⟨dd, hd, ?_⟩⟩
          subst hm
          rcases h4 with h4 | h4
          · cases h4
          · exact h4
        | succ g => exact k2 g d' m' hg
    · cases h
theorem stfB_ok : ∀ {ts : List Ty} {l : List (Nat × Nat)} {o : Nat}, stfB G o ts l = true → ∀ f d n t, nth l f = some (d, n) → nth ts f = some t → d = o + sumSz G (ts.take f) ∧ n = G.csz t
  | [], l, o, _, f, d, n, t, _, ht => by cases f <;> cases ht
  | _ :: _, [], o, _, f, d, n, t, hl, _ => by cases f <;> cases hl
  | u :: ts, (d', m') :: r, o, h, f, d, n, t, hl, ht => by
    simp only [stfB, Bool.and_eq_true] at h
    obtain ⟨h1, h2, h3⟩ := h
    cases f with
    | zero =>
      simp only [nth, Option.some.injEq, Prod.mk.injEq] at hl ht
      obtain ⟨e1, e2⟩ := hl
      subst e1 e2 ht
      exact ⟨Nat.eq_of_beq_eq_true h1, Nat.eq_of_beq_eq_true h2⟩
    | succ f =>
      obtain ⟨k1, k2⟩ := stfB_ok h3 f d n t hl ht
      refine ⟨?_, k2⟩
      rw [k1, List.take_succ_cons]
      show _ = o + (G.csz u + sumSz G (ts.take f))
      omega
/-- The fields of a program's struct. -/
def fsOf (P : Program) (T : TypeId) : List Field := match P.underlying T with | some (.struct fs) => fs.toList | _ => []
def isStruct (P : Program) (T : TypeId) : Bool := match P.underlying T with | some (.struct _) => true | _ => false
section
variable {T : TypeId}
theorem opt_map {α β : Type} {f : α → β} {x : Option α} {y : β} (h : x.map f = some y) : ∃ a, x = some a ∧ f a = y := by
  cases x with
  | none => cases h
  | some a => exact ⟨a, rfl, by injection h⟩
theorem tokScal {d : TypeDesc} (l : LTy) (t : Option Ty) (hi : (P.info? T).map (fun i => (i.size, i.zero)) = some (1, some (zv l))) (hu : P.underlying T = some d) (ha : isAggD d = false)
    (hlv : ∀ u, t = some u → G.csz u = 1 ∧ isSt u = false)
    (hsl : ∀ e u, t = some (.sl e u) → d = .slice e ∧ ∃ i z, P.info? e = some i ∧ i.size = G.csz u ∧ i.zero = some z ∧ z.cells.size = G.csz u ∧ 0 < G.csz u ∧ G.cap e * i.bytes ≤ 140737488355328 ∧ G.cap e ≤ maxLen)
    (hint : ∀ k, t = some (.int k) → d = .int k) (hstr : t = some .str → d = .string) (hbool : t = some .bool → d = .bool)
    (hptr : l = .ptr → ∃ e, d = .pointer e) (hfn : l = .fn → ∃ x y z, d = .func x y z) : TOK P G T ⟨[l], [], false, t⟩ := by
  obtain ⟨i, h1, h2⟩ := opt_map hi
  injection h2 with h2 h3
  exact {
    size := ⟨i, h1, h2, fun _ => h3⟩
    agg := ⟨d, hu, ha⟩
    one := fun _ => ⟨l, rfl⟩
    lv := hlv
    sl := fun e u h => by obtain ⟨a, b⟩ := hsl e u h; subst a; exact ⟨hu, b⟩
    int := fun k h => by rw [← hint k h]; exact hu
    str := fun h => by rw [← hstr h]; exact hu
    bool := fun h => by rw [← hbool h]; exact hu
    ptr := fun h => by obtain ⟨e, he⟩ := hptr (by injection h); subst he; exact ⟨e, hu⟩
    fn := fun h => by obtain ⟨x, y, z, he⟩ := hfn (by injection h); subst he; exact ⟨x, y, z, hu⟩
    flds := fun f d n h => by cases f <;> cases h
    bld := fun h => by cases h
    stf := fun s h f d n t h' => by cases f <;> cases h' }
theorem tokInt (k : IntKind) (hi : (P.info? T).map (fun i => (i.size, i.zero)) = some (1, some (zv (.t (.int k))))) (hu : P.underlying T = some (.int k)) : TOK P G T ⟨[.t (.int k)], [], false, some (.int k)⟩ :=
  tokScal _ _ hi hu rfl (by rintro u ⟨⟩; exact ⟨rfl, rfl⟩) (by intro e u h; cases h) (by rintro k' ⟨⟩; rfl) (by intro h; cases h) (by intro h; cases h) (by intro h; cases h) (by intro h; cases h)
theorem tokBool (hi : (P.info? T).map (fun i => (i.size, i.zero)) = some (1, some (zv (.t .bool)))) (hu : P.underlying T = some .bool) : TOK P G T ⟨[.t .bool], [], false, some .bool⟩ :=
  tokScal _ _ hi hu rfl (by rintro u ⟨⟩; exact ⟨rfl, rfl⟩) (by intro e u h; cases h) (by intro k h; cases h) (by intro h; cases h) (by intro _; rfl) (by intro h; cases h) (by intro h; cases h)
theorem tokStr (hi : (P.info? T).map (fun i => (i.size, i.zero)) = some (1, some (zv (.t .str)))) (hu : P.underlying T = some .string) : TOK P G T ⟨[.t .str], [], false, some .str⟩ :=
  tokScal _ _ hi hu rfl (by rintro u ⟨⟩; exact ⟨rfl, rfl⟩) (by intro e u h; cases h) (by intro k h; cases h) (by intro _; rfl) (by intro h; cases h) (by intro h; cases h) (by intro h; cases h)
theorem tokPtr {e : TypeId} (hi : (P.info? T).map (fun i => (i.size, i.zero)) = some (1, some (zv .ptr))) (hu : P.underlying T = some (.pointer e)) : TOK P G T ⟨[.ptr], [], false, none⟩ :=
  tokScal _ _ hi hu rfl (by intro u h; cases h) (by intro e u h; cases h) (by intro k h; cases h) (by intro h; cases h) (by intro h; cases h) (by intro _; exact ⟨e, rfl⟩) (by intro h; cases h)
theorem tokFn {x y z} (hi : (P.info? T).map (fun i => (i.size, i.zero)) = some (1, some (zv .fn))) (hu : P.underlying T = some (.func x y z)) : TOK P G T ⟨[.fn], [], false, none⟩ :=
  tokScal _ _ hi hu rfl (by intro u h; cases h) (by intro e u h; cases h) (by intro k h; cases h) (by intro h; cases h) (by intro h; cases h) (by intro h; cases h) (by intro _; exact ⟨x, y, z, rfl⟩)
theorem tokSl (e : TypeId) (t : Ty) {n : Nat} (hi : (P.info? T).map (fun i => (i.size, i.zero)) = some (1, some (zv (.t (.sl e t))))) (hu : P.underlying T = some (.slice e))
    {z : Value} (he : (P.info? e).map (fun i => (i.size, i.zero, i.bytes)) = some (G.csz t, some z, n)) (hz : z.cells.size = G.csz t) (hp : 0 < G.csz t) (hc : G.cap e * n ≤ 140737488355328) (hm : G.cap e ≤ maxLen) : TOK P G T ⟨[.t (.sl e t)], [], false, some (.sl e t)⟩ :=
  tokScal _ _ hi hu rfl (by rintro u ⟨⟩; exact ⟨rfl, rfl⟩) (by
    intro e' u h
    injection h with h
    injection h with h h'
    subst h h'
    refine ⟨rfl, ?_⟩
    obtain ⟨i, h1, h2⟩ := opt_map he
    injection h2 with h2 h3
    injection h3 with h3 h4
    exact ⟨i, z, h1, h2, h3, hz, hp, by rw [h4]; exact hc, hm⟩) (by intro k h; cases h) (by intro h; cases h) (by intro h; cases h) (by intro h; cases h) (by intro h; cases h)
theorem tokAgg (ls : List LTy) (fl : List (Nat × Nat)) (t : Option Ty) (hs : isStruct P T = true) {z : Option Value} (hi : (P.info? T).map (fun i => (i.size, i.zero)) = some (len ls, z)) (hz : zls (G := G) ls ≠ none → z = some (zval ⟨ls, fl, true, t⟩)) (hf : fldB P (len ls) (fsOf P T) fl = true)
    (hlv : ∀ u, t = some u → ∃ s, u = .st s ∧ G.sz s = len ls ∧ stfB G 0 (G.fs s) fl = true) (hne : ls ≠ [.ptr]) (hne' : ls ≠ [.fn]) : TOK P G T ⟨ls, fl, true, t⟩ := by
  obtain ⟨i, h1, h2⟩ := opt_map hi
  injection h2 with h2 h3
  unfold isStruct at hs
  split at hs
  · rename_i fs hu
    have e : fsOf P T = fs.toList := by unfold fsOf; rw [hu]
    rw [e] at hf
    obtain ⟨k1, k2⟩ := fldB_ok hf
    have cs : ∀ u, t = some u → ∃ s, u = .st s ∧ G.sz s = ls.length := fun u hu => by obtain ⟨s, a, b, _⟩ := hlv u hu; exact ⟨s, a, by rw [b, len_eq]⟩
    exact {
      size := ⟨i, h1, by rw [h2, len_eq], fun h => by rw [h3]; exact hz h⟩
      agg := ⟨_, hu, rfl⟩
      one := fun h => by cases h
      lv := fun u hu => by obtain ⟨s, a, b⟩ := cs u hu; subst a; exact ⟨b, rfl⟩
      sl := fun e u h => by obtain ⟨s, a, _⟩ := cs _ h; cases a
      int := fun k h => by obtain ⟨s, a, _⟩ := cs _ h; cases a
      str := fun h => by obtain ⟨s, a, _⟩ := cs _ h; cases a
      bool := fun h => by obtain ⟨s, a, _⟩ := cs _ h; cases a
      ptr := fun h => absurd h hne
      fn := fun h => absurd h hne'
      flds := fun f d n h => by
        obtain ⟨fd, a, b, c, d'⟩ := k2 f d n h
        refine ⟨fs, fd, hu, by rw [← a, Array.getElem?_toList], b, by rw [← len_eq]; exact c, d'⟩
      bld := fun _ => ⟨fs, hu, k1⟩
      stf := fun s h f d n u h' h'' => by
        obtain ⟨s', a, _, b⟩ := hlv _ h
        injection a with a
        subst a
        have := stfB_ok b f d n u h' h''
        rwa [Nat.zero_add] at this }
  · cases hs
end
def TokAll (P : Program) (G : Sig) : List (Nat × TI) → Prop
  | [] => True
  | (T, ti) :: r => TOK P G T ti ∧ TokAll P G r
theorem tabOK_of {P : Program} {G : Sig} (l : List (Nat × TI)) (h : G.tab = get l) (H : TokAll P G l) : TabOK P G := by
  intro T ti hT
  rw [h] at hT
  clear h
  induction l with
  | nil => simp [get] at hT
  | cons p l ih =>
    obtain ⟨T', ti'⟩ := p
    rw [get_cons] at hT
    split at hT
    · rename_i e
      injection hT with hT
      subst e hT
      exact H.1
    · exact ih H.2 hT
def CtsAll (P : Program) {G : Sig} : List (Nat × Ct G) → Prop
  | [] => True
  | (f, c) :: r => c.Holds P f ∧ CtsAll P r
theorem ctsOK {P : Program} {G : Sig} {l : List (Nat × Ct G)} (H : CtsAll P l) (f : FuncId) (c : Ct G) (h : get l f = some c) : c.Holds P f := by
  induction l with
  | nil => simp [get] at h
  | cons p l ih =>
    obtain ⟨f', c'⟩ := p
    rw [get_cons] at h
    split at h
    · rename_i e
      injection h with h
      subst e h
      exact H.1
    · exact ih H.2 h
def bodyOf (f : Func) : Code := match f.body with | some c => c | none => .skip
end Go.Proofs.YtmcbhnbemhfifaaDoor.RX
