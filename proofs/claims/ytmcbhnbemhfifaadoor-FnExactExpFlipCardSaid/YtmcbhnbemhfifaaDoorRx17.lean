/- A call, whole. Conditions: SigOK; the contract holds. -/
import Derived.Test.YtmcbhnbemhfifaaDoorRx16
namespace Go.Proofs.YtmcbhnbemhfifaaDoor.RX
open Go Go.RowKit
set_option autoImplicit false
variable {G : Sig} {R : Type} {P : Program} {W : Rights} {w0 w w' : World} {Z Z' : Nat → Nat → Prop} {pl pl' : Nat → Value} {N : Nat}
variable {E : Env G R} {o : Oper} {L : St G} {K : St G → Option R} {r : R} {a : Act} {next : Act → World → Prop} {Q : Exit → Act → World → Prop}

theorem scalTs_mem : ∀ {ts : List Ty}, scalTs ts = true → ∀ t ∈ ts, scalT t = true
  | [], _, t, h => by cases h
  | t :: ts, h, t', h' => by
    simp only [scalTs] at h
    split at h
    · rename_i hh
      rcases List.mem_cons.1 h' with e | e
      · rw [e]; exact hh
      · exact scalTs_mem h t' e
    · cases h
theorem ofHL_types : ∀ {ts : List Ty} {h : HL G.S ts}, ∀ v ∈ ofHL ts h, v.t ∈ ts := by
  have key : ∀ (ts : List Ty) (t : Ty) (h : HLc G.S t ts), ∀ v ∈ ofHLc ts t h, v.t ∈ t :: ts := by
    intro ts
    induction ts with
    | nil => intro t h v hv; rw [List.mem_singleton.1 hv]; exact List.mem_cons_self
    | cons t' ts ih =>
      intro t h v hv
      rcases List.mem_cons.1 hv with e | e
      · rw [e]; exact List.mem_cons_self
      · exact List.mem_cons_of_mem _ (ih t' h.2 v e)
  intro ts h v hv
  cases ts with
  | nil => cases hv
  | cons t ts => exact key ts t h v hv
theorem RepC.scal {t : Ty} (ht : scalT t = true) {x : G.D t} {cs : List Value} (h : RepC G Z w t x cs) : RepC G Z' w t x cs := by
  cases h with
  | int k x => exact .int k x
  | bool b => exact .bool b
  | str s => exact .str s
  | sl => cases ht
  | st => cases ht
  | pn => cases ht
  | ps => cases ht
section scal
variable {f : Nat → Nat} {n : Nat}
theorem iLeaf_scal {p : PLeaf} {vs : List (TV G)} (hv : ∀ v ∈ vs, scalT v.t = true) {u : Value} (h : LfOK Z w pl n (iLeaf f p vs).1 u) : LfOK Z' w pl n (iLeaf f p vs).1 u ∧ ∀ v ∈ (iLeaf f p vs).2, scalT v.t = true := by
  cases p with
  | val t =>
    cases vs with
    | nil => exact ⟨h, hv⟩
    | cons v r => exact ⟨⟨RepC.scal (hv v List.mem_cons_self) h.1, h.2⟩, fun x hx => hv x (List.mem_cons_of_mem _ hx)⟩
  | _ => exact ⟨h, hv⟩
theorem iLeaf_rest {p : PLeaf} {vs : List (TV G)} (hv : ∀ v ∈ vs, scalT v.t = true) : ∀ v ∈ (iLeaf f p vs).2, scalT v.t = true := by
  cases p with
  | val t => cases vs with
    | nil => exact hv
    | cons v r => exact fun x hx => hv x (List.mem_cons_of_mem _ hx)
  | _ => exact hv
theorem iLeaves_scal : ∀ {ps : List PLeaf} {vs : List (TV G)}, (∀ v ∈ vs, scalT v.t = true) → (∀ {us : List Value}, LsOK Z w pl n (iLeaves f ps vs).1 us → LsOK Z' w pl n (iLeaves f ps vs).1 us) ∧ ∀ v ∈ (iLeaves f ps vs).2, scalT v.t = true
  | [], vs, hv => ⟨fun h => h, hv⟩
  | p :: ps, vs, hv => by
    obtain ⟨a1, a2⟩ := iLeaves_scal (ps := ps) (vs := (iLeaf f p vs).2) (iLeaf_rest hv)
    exact ⟨fun ⟨u, us, e, h1, h2⟩ => ⟨u, us, e, (iLeaf_scal hv h1).1, a1 h2⟩, a2⟩
theorem iSV_scal {p : PSV} {vs : List (TV G)} (hv : ∀ v ∈ vs, scalT v.t = true) : (∀ {u : Value}, DVOK Z w pl n (iSV f p vs).1 u → DVOK Z' w pl n (iSV f p vs).1 u) ∧ ∀ v ∈ (iSV f p vs).2, scalT v.t = true := by
  cases p with
  | one p => exact ⟨fun h => (iLeaf_scal hv h).1, iLeaf_rest hv⟩
  | agg ps => obtain ⟨a1, a2⟩ := iLeaves_scal (f := f) (Z := Z) (Z' := Z') (w := w) (pl := pl) (n := n) (ps := ps) hv; exact ⟨fun ⟨cs, e, h⟩ => ⟨cs, e, a1 h⟩, a2⟩
  | st s =>
    cases vs with
    | nil => exact ⟨fun h => h, hv⟩
    | cons v r =>
      refine ⟨fun {u} h => ?_, fun x hx => hv x (List.mem_cons_of_mem _ hx)⟩
      have hs := hv v List.mem_cons_self
      obtain ⟨t, x⟩ := v
      simp only [iSV] at h ⊢
      cases t with
      | int k => exact ⟨RepC.scal rfl h.1, h.2⟩
      | bool => exact ⟨RepC.scal rfl h.1, h.2⟩
      | str => exact ⟨RepC.scal rfl h.1, h.2⟩
      | sl e t => cases hs
      | po t => cases hs
      | st s => cases hs
theorem iTmps_scal : ∀ {ps : List (Nat × PSV)} {vs : List (TV G)}, (∀ v ∈ vs, scalT v.t = true) → (∀ {t : Nat} {d : DV G} {u : Value}, get (iTmps f ps vs).1 t = some d → DVOK Z w pl n d u → DVOK Z' w pl n d u) ∧ ∀ v ∈ (iTmps f ps vs).2, scalT v.t = true
  | [], vs, hv => ⟨fun h _ => by simp [iTmps, get] at h, hv⟩
  | (t0, p) :: ps, vs, hv => by
    obtain ⟨b1, b2⟩ := iSV_scal (f := f) (Z := Z) (Z' := Z') (w := w) (pl := pl) (n := n) (p := p) hv
    obtain ⟨a1, a2⟩ := iTmps_scal (ps := ps) (vs := (iSV f p vs).2) b2
    refine ⟨fun {t d u} h hd => ?_, a2⟩
    simp only [iTmps] at h
    rw [get_cons] at h
    split at h
    · injection h with h; subst h; exact b1 hd
    · exact a1 h hd
theorem iObs_scal : ∀ {ps : List POb} {j : Nat} {vs : List (TV G)}, noArr ps = true → (∀ v ∈ vs, scalT v.t = true) → ∀ {i o : Nat} {b : Ob G}, get (iObs f j ps vs).1 o = some b → ObOK Z w pl n i b → ObOK Z' w pl n i b
  | [], j, vs, _, hv, i, o, b, h, _ => by simp [iObs, get] at h
  | .cells ro pls :: ps, j, vs, hn, hv, i, o, b, h, hb => by
    obtain ⟨b1, b2⟩ := iLeaves_scal (f := f) (Z := Z) (Z' := Z') (w := w) (pl := pl) (n := n) (ps := pls) hv
    simp only [iObs] at h
    rw [get_cons] at h
    split at h
    · injection h with h
      subst h
      obtain ⟨bb, T, cs, h1, h2, h3⟩ := hb
      exact ⟨bb, T, cs, h1, h2, b1 h3⟩
    · exact iObs_scal (ps := ps) hn b2 h hb
  | .arr e t :: ps, j, vs, hn, _, _, _, _, _, _ => by cases hn
  | .ow _ _ e t :: ps, j, vs, hn, _, _, _, _, _, _ => by cases hn
end scal
section br
variable {f : Nat → Nat} {n : Nat}
theorem iLeaf_br {p : PLeaf} {vs : List (TV G)} {ts ts' : List Ty} (h : brL ts p = some ts') (hv : vs.map (·.t) = ts) : (∀ {u : Value}, LfOK Z w pl n (iLeaf f p vs).1 u → LfOK Z' w pl n (iLeaf f p vs).1 u) ∧ (iLeaf f p vs).2.map (·.t) = ts' := by
  subst hv
  cases p with
  | val t =>
    cases vs with
    | nil => simp only [brL, List.map_nil, Option.some.injEq] at h; subst h; exact ⟨fun h => h, rfl⟩
    | cons v r =>
      simp only [brL, List.map_cons] at h
      split at h
      · rename_i hs
        simp only [Option.some.injEq] at h
        subst h
        exact ⟨fun hu => ⟨RepC.scal hs hu.1, hu.2⟩, rfl⟩
      · cases h
  | _ => simp only [brL, Option.some.injEq] at h; subst h; exact ⟨fun h => h, rfl⟩
theorem iLeaves_br : ∀ {ps : List PLeaf} {vs : List (TV G)} {ts ts' : List Ty}, brLs ts ps = some ts' → vs.map (·.t) = ts → (∀ {us : List Value}, LsOK Z w pl n (iLeaves f ps vs).1 us → LsOK Z' w pl n (iLeaves f ps vs).1 us) ∧ (iLeaves f ps vs).2.map (·.t) = ts'
  | [], vs, ts, ts', h, hv => by simp only [brLs, Option.some.injEq] at h; subst h; exact ⟨fun h => h, hv⟩
  | p :: ps, vs, ts, ts', h, hv => by
    simp only [brLs] at h
    split at h
    · rename_i t1 h1
      obtain ⟨a1, a2⟩ := iLeaf_br (f := f) (Z := Z) (Z' := Z') (w := w) (pl := pl) (n := n) h1 hv
      obtain ⟨b1, b2⟩ := iLeaves_br (ps := ps) h a2
      exact ⟨fun ⟨u, us, e, k1, k2⟩ => ⟨u, us, e, a1 k1, b1 k2⟩, b2⟩
    · cases h
theorem iSV_br {p : PSV} {vs : List (TV G)} {ts ts' : List Ty} (h : brS ts p = some ts') (hv : vs.map (·.t) = ts) : (∀ {u : Value}, DVOK Z w pl n (iSV f p vs).1 u → DVOK Z' w pl n (iSV f p vs).1 u) ∧ (iSV f p vs).2.map (·.t) = ts' := by
  cases p with
  | one p => obtain ⟨a1, a2⟩ := iLeaf_br (f := f) (Z := Z) (Z' := Z') (w := w) (pl := pl) (n := n) (p := p) h hv; exact ⟨fun h => a1 h, a2⟩
  | agg ps => obtain ⟨a1, a2⟩ := iLeaves_br (f := f) (Z := Z) (Z' := Z') (w := w) (pl := pl) (n := n) (ps := ps) h hv; exact ⟨fun ⟨cs, e, h⟩ => ⟨cs, e, a1 h⟩, a2⟩
  | st s => cases h
theorem iTmps_br : ∀ {ps : List (Nat × PSV)} {vs : List (TV G)} {ts ts' : List Ty}, brTm ts ps = some ts' → vs.map (·.t) = ts → (∀ {t : Nat} {d : DV G} {u : Value}, get (iTmps f ps vs).1 t = some d → DVOK Z w pl n d u → DVOK Z' w pl n d u) ∧ (iTmps f ps vs).2.map (·.t) = ts'
  | [], vs, ts, ts', h, hv => by simp only [brTm, Option.some.injEq] at h; subst h; exact ⟨fun h _ => by simp [iTmps, get] at h, hv⟩
  | (t0, p) :: ps, vs, ts, ts', h, hv => by
    simp only [brTm] at h
    split at h
    · rename_i t1 h1
      obtain ⟨b1, b2⟩ := iSV_br (f := f) (Z := Z) (Z' := Z') (w := w) (pl := pl) (n := n) h1 hv
      obtain ⟨a1, a2⟩ := iTmps_br (ps := ps) h b2
      refine ⟨fun {t d u} h hd => ?_, a2⟩
      simp only [iTmps] at h
      rw [get_cons] at h
      split at h
      · injection h with h; subst h; exact b1 hd
      · exact a1 h hd
    · cases h
theorem RowC.flat {m : Nat} {t : Ty} (hf : flatN G m [t] = true) {xs : List (G.D t)} {vs : List Value} (h : RowC G Z w t xs vs) : RowC G Z' w t xs vs := (flat_row hf h).row fun k hk => by cases hk
theorem iObs_br : ∀ {ps : List POb} {j : Nat} {vs : List (TV G)} {ts ts' : List Ty}, brO G ts ps = some ts' → vs.map (·.t) = ts → ∀ {i o : Nat} {b : Ob G}, get (iObs f j ps vs).1 o = some b → ObOK Z w pl n i b → ObOK Z' w pl n i b
  | [], j, vs, ts, ts', _, _, i, o, b, h, _ => by simp [iObs, get] at h
  | .cells ro pls :: ps, j, vs, ts, ts', hb, hv, i, o, b, h, hO => by
    simp only [brO] at hb
    split at hb
    · rename_i t1 h1
      obtain ⟨b1, b2⟩ := iLeaves_br (f := f) (Z := Z) (Z' := Z') (w := w) (pl := pl) (n := n) h1 hv
      simp only [iObs] at h
      rw [get_cons] at h
      split at h
      · injection h with h
        subst h
        obtain ⟨bb, T, cs, h1, h2, h3⟩ := hO
        exact ⟨bb, T, cs, h1, h2, b1 h3⟩
      · exact iObs_br (ps := ps) hb b2 h hO
    · cases hb
  | .arr e t :: ps, j, vs, ts, ts', hb, hv, i, o, b, h, hO => by
    simp only [brO] at hb
    split at hb
    · rename_i e1 t1 r
      split at hb
      · rename_i hf
        cases vs with
        | nil => cases hv
        | cons v vs =>
          obtain ⟨tv, x⟩ := v
          simp only [List.map_cons, List.cons.injEq] at hv
          obtain ⟨rfl, hv⟩ := hv
          simp only [iObs] at h
          rw [get_cons] at h
          split at h
          · injection h with h
            subst h
            obtain ⟨us, h1, h2⟩ := hO
            exact ⟨us, h1, RowC.flat hf h2⟩
          · exact iObs_br (ps := ps) hb hv h hO
      · cases hb
    · cases hb
  | .ow kp false e t :: ps, j, vs, ts, ts', hb, hv, i, o, b, h, hO => by
    simp only [brO] at hb
    split at hb
    · rename_i e1 t1 r
      split at hb
      · rename_i hf
        cases vs with
        | nil => cases hv
        | cons v vs =>
          obtain ⟨tv, x⟩ := v
          simp only [List.map_cons, List.cons.injEq] at hv
          obtain ⟨rfl, hv⟩ := hv
          simp only [iObs] at h
          rw [get_cons] at h
          split at h
          · injection h with h
            subst h
            obtain ⟨us, h1, h2⟩ := hO
            exact ⟨us, h1, RowC.flat hf h2⟩
          · exact iObs_br (ps := ps) hb hv h hO
      · cases hb
    · cases hb
  | .ow kp true e t :: ps, j, vs, ts, ts', hb, hv, i, o, b, h, hO => by
    simp only [brO] at hb
    split at hb
    · rename_i e1 t1 r
      cases vs with
      | nil => cases hv
      | cons v vs =>
        obtain ⟨tv, x⟩ := v
        simp only [List.map_cons, List.cons.injEq] at hv
        obtain ⟨rfl, hv⟩ := hv
        simp only [iObs] at h
        rw [get_cons] at h
        split at h
        · injection h with h
          subst h
          exact hO
        · exact iObs_br (ps := ps) hb hv h hO
    · cases hb
theorem ofHL_map : ∀ {ts : List Ty} {h : HL G.S ts}, (ofHL ts h).map (·.t) = ts := by
  have key : ∀ (ts : List Ty) (t : Ty) (h : HLc G.S t ts), (ofHLc ts t h).map (·.t) = t :: ts := by
    intro ts
    induction ts with
    | nil => intro t h; rfl
    | cons t' ts ih => intro t h; simp only [ofHLc, List.map_cons, ih]
  intro ts h
  cases ts with
  | nil => rfl
  | cons t ts => exact key ts t h
end br
/-- An object that was handed over as a row with all that it leads to. -/
def goneB (os : List (Nat × Ob G)) (ren : List (Nat × Nat)) (n o : Nat) : Bool :=
  (List.range n).any fun j => match get os j, get ren j with | some (.tr _ _ _), some o' => o' == o | _, _ => false
theorem goneB_iff {os : List (Nat × Ob G)} {ren : List (Nat × Nat)} {n o : Nat} : goneB os ren n o = true ↔ ∃ j e t x, j < n ∧ get os j = some (.tr e t x) ∧ get ren j = some o := by
  unfold goneB
  rw [List.any_eq_true]
  constructor
  · rintro ⟨j, hj, hx⟩
    split at hx
    · rename_i e t x o' h1 h2
      exact ⟨j, e, t, x, List.mem_range.1 hj, h1, by rw [h2, beq_iff_eq.1 hx]⟩
    · cases hx
  · rintro ⟨j, e, t, x, hj, h1, h2⟩
    exact ⟨j, List.mem_range.2 hj, by rw [h1, h2]; simp⟩
/-- Of the blocks behind rows fewer told: those of rows that are gone. -/
theorem TrOK.sub {W : Nat → Nat → Prop} {base : Nat} {objs : List (Nat × Ob G)} {nx : Nat} {f f' : Nat → List Nat} (T : TrOK W base Z pl objs nx w f) (h : ∀ o, f' o = f o ∨ (f' o = [] ∧ ∀ b, get objs o = some b → live b = false)) : TrOK W base Z pl objs nx w f' := by
  have sub : ∀ o k, k ∈ f' o → k ∈ f o := fun o k hk => by
    rcases h o with e | ⟨e, _⟩
    · rwa [e] at hk
    · rw [e] at hk; cases hk
  exact {
    rep := fun o b hg => by
      rcases h o with e | ⟨_, e⟩
      · rw [e]; exact T.rep o b hg
      · have := e b hg
        cases b with
        | tr e t x => cases this
        | fo e t x i off o2 => cases this
        | _ => trivial
    nd := fun o => by
      rcases h o with e | ⟨e, _⟩ <;> rw [e]
      · exact T.nd o
      · exact List.nodup_nil
    sep := fun o o' k h1 h2 => T.sep o o' k (sub o k h1) (sub o' k h2)
    root := fun o k o' b h1 => T.root o k o' b (sub o k h1)
    own := fun o k h1 => T.own o k (sub o k h1)
    zfar := fun o k h1 => T.zfar o k (sub o k h1)
    lt := fun o k h1 => T.lt o k (sub o k h1) }
theorem iTmps_keys {f : Nat → Nat} : ∀ {ps : List (Nat × PSV)} {vs : List (TV G)}, (iTmps f ps vs).1.map (·.1) = ps.map (·.1)
  | [], _ => rfl
  | (t, p) :: ps, vs => by simp only [iTmps, List.map_cons]; rw [iTmps_keys (ps := ps)]
theorem keysOK_ok : ∀ {ps : List (Nat × PSV)} {j : Nat}, keysOK j ps = true → ps.map (·.1) = (List.range' j ps.length)
  | [], _, _ => rfl
  | (k, p) :: ps, j, h => by
    simp only [keysOK] at h
    split at h
    · rename_i hk
      rw [List.map_cons, keysOK_ok h, Nat.eq_of_beq_eq_true hk]; rfl
    · cases h
/-- What a call gives back, as the value of a temporary. -/
theorem dvOf_ok {nx : Nat} {ds : List (Nat × DV G)} {v : Value} (hk : ds.map (·.1) = List.range' 0 ds.length) (hd : ∀ t d, get ds t = some d → DVOK Z w pl nx d (compV ds.length v t)) (hv : ds.length = 1 ∨ ∃ vs : List Value, v = .tuple vs.toArray ∧ vs.length = ds.length) : DVOK Z w pl nx (dvOf (dvAll ds)) v := by
  have key : ∀ (ds : List (Nat × DV G)) (j : Nat) (l : List (SV G)), ds.map (·.1) = List.range' j ds.length → dvAll ds = some l → l.length = ds.length ∧ ∀ vs : List Value, vs.length = ds.length → (∀ (i : Nat) d u, get ds (j + i) = some d → vs[i]? = some u → DVOK Z w pl nx d u) → SVsOK Z w pl nx l vs := by
    intro ds
    induction ds with
    | nil => intro j l _ h; simp only [dvAll, Option.some.injEq] at h; subst h; exact ⟨rfl, fun vs hvs _ => List.eq_nil_of_length_eq_zero hvs⟩
    | cons x ds ih =>
      intro j l hk h
      obtain ⟨k, d⟩ := x
      simp only [List.map_cons, List.length_cons, List.range'_succ, List.cons.injEq] at hk
      obtain ⟨rfl, hk⟩ := hk
      cases d with
      | sv s =>
        simp only [dvAll] at h
        split at h
        · rename_i l' hl'
          injection h with h
          subst h
          obtain ⟨a1, a2⟩ := ih (k + 1) l' hk hl'
          refine ⟨by simp [a1], fun vs hvs hh => ?_⟩
          cases vs with
          | nil => simp at hvs
          | cons u us =>
            refine ⟨u, us, rfl, ?_, a2 us (by simpa using hvs) (fun i d u' hg hu' => ?_)⟩
            · have := hh 0 (.sv s) u (by rw [Nat.add_zero]; exact get_same _ _ _) rfl
              exact this
            · exact hh (i + 1) d u' (by rw [show k + (i + 1) = k + 1 + i by omega, get_far _ _ (by omega)]; exact hg) (by simpa using hu')
        · cases h
      | tup _ => cases h
      | und => cases h
      | junk => cases h
  cases hl : dvAll ds with
  | none => exact trivial
  | some l =>
    obtain ⟨a1, a2⟩ := key ds 0 l hk hl
    by_cases h1 : ds.length = 1
    · cases ds with
      | nil => cases h1
      | cons x ds =>
        cases ds with
        | cons _ _ => simp at h1
        | nil =>
          obtain ⟨k, d⟩ := x
          simp only [List.map_cons, List.map_nil, List.length_cons, List.length_nil, Nat.zero_add, List.range'_one, List.cons.injEq, and_true] at hk
          subst hk
          cases d with
          | sv s =>
            simp only [dvAll, Option.some.injEq] at hl
            subst hl
            have := hd 0 (.sv s) (get_same _ _ _)
            exact this
          | tup _ => cases hl
          | und => cases hl
          | junk => cases hl
    · rcases hv with hv | ⟨vs, rfl, hvs⟩
      · exact absurd hv h1
      · have hne : l.length ≠ 1 := by rw [a1]; exact h1
        have e : dvOf (some l) = .tup l := by
          cases l with
          | nil => rfl
          | cons x l => cases l with
            | nil => exact absurd rfl hne
            | cons _ _ => rfl
        rw [e]
        refine ⟨vs, rfl, a2 vs hvs (fun i d u hg hu => ?_)⟩
        have := hd i d (by rw [Nat.zero_add] at hg; exact hg)
        simp only [compV, if_neg h1] at this
        rw [show (vs.toArray.getD i undef) = u from by simp [Array.getD_eq_getD_getElem?, hu]] at this
        exact this

theorem op_callK (hs : SigOK G) {c : Ct G} {fid : FuncId} (hc : c.Holds P fid) {al : List (Nat × DV G)} {vals : List Value} (hlen : al.length = vals.length) (hal : ∀ t d, get al t = some d → DVOK Z w pl L.nx d (vals.getD t undef))
    (h : callK E o c al L K = some r) (S : Sat E.N W w0 Z pl L a w) (exe1 : ∀ v w', (callFunc fid vals.toArray).run P w = .ok (.value v) w' → (execOp a.eval o).run P w = .ok (.value v) w')
    (exe2 : (callFunc fid vals.toArray).run P w = .ok (.enter fid vals.toArray) w → (execOp a.eval o).run P w = .ok (.enter fid vals.toArray) w) (hK : Then E W w0 K r next) : o.wp P a w next Q := by
  cases L with
  | mk tm ob nx =>
  simp only [callK] at h
  split at h
  · rename_i tm1 ob1 nx1 ren vs hn hm
    rw [len_eq, len_eq] at hn
    have hn := Nat.eq_of_beq_eq_true hn
    split at h
    · rename_i h1 hh
      cases hF : c.F h1 with
      | none => rw [hF] at h; cases h
      | some r0 =>
      rw [hF] at h
      simp only [Option.bind_some] at h
      obtain ⟨Z1, pl1, H⟩ := matchP_ok hs hm (show Mem W w0 Z pl ob nx w from S.mem) (fun j o hj => by simp [get] at hj) (val := fun t => vals.getD t undef) hal
      have hvs := toHL_ofHL hh
      -- the callee's state
      obtain ⟨tmI, rI, osI, e1, e2, k1, _, k2⟩ := H.told (fun j => j) (renF ren pl1) c.ip.objs.length (renF_fit (fun j o hj => (H.bnd j o hj).1))
      have eI : instP c.ip vs = ⟨tmI, osI, c.ip.objs.length⟩ := by simp only [instP, e1, e2, len_eq]
      have M1 : Mem W w0 Z1 pl1 ob1 nx1 w := H.step.mem
      have hbnd : ∀ j o, get ren j = some o → j < c.ip.objs.length := fun j o hj => (H.bnd j o hj).1
      obtain ⟨fM, TM⟩ := M1.tr
      let fI := renT ren osI fM
      have memI : ∀ j k, k ∈ fI j → ∃ e t x o, get osI j = some (.tr e t x) ∧ get ren j = some o ∧ k ∈ fM o := by
        intro j k hk
        have hk : k ∈ renT ren osI fM j := hk
        unfold renT at hk
        split at hk
        · rename_i e t x hg
          split at hk
          · rename_i o ho; exact ⟨e, t, x, o, hg, ho, hk⟩
          · cases hk
        · cases hk
      obtain ⟨TI, MI⟩ : TrOK (Given osI (renF ren pl1) fI) w.heap.size Z1 (renF ren pl1) osI c.ip.objs.length w fI ∧ Mem ⟨Given osI (renF ren pl1) fI, Z1, fixOf 0 c.ip.objs, renF ren pl1⟩ w Z1 (renF ren pl1) osI c.ip.objs.length w := by
        refine inst_mem (W1 := ⟨Given osI (renF ren pl1) fI, Z1, fixOf 0 c.ip.objs, renF ren pl1⟩) M1 k2 TM (fun j e t x o k hg ho hk => .inr fun i => .inr ⟨j, ?_⟩) H.inj H.bnd (fun j b k hg hk => .inr ?_) (Fr.refl _ _ _) (fun _ _ h => .inl h) (fun _ _ h => h) (fun j hj => ⟨by obtain ⟨i, p, e, hi, _⟩ := fixOf_mem.1 hj; rw [Nat.zero_add] at e; rw [e]; exact (List.getElem?_eq_some_iff.1 hi).1, rfl⟩)
        · show k ∈ renT ren osI fM j
          unfold renT
          rw [hg]
          simp only [ho]
          exact hk
        have hl : live b = true := (k2.get_id j b hg).2.2.2.1
        cases b with
        | cells ro ls => exact fun i hi hi2 => .inl ⟨j, _, hg, hl, hk, fun ro' ls' e => by injection e with e1 e2; subst e1 e2; exact ⟨hi, hi2⟩⟩
        | arr e t x => exact fun i => .inl ⟨j, _, hg, hl, hk, fun ro' ls' e => by cases e⟩
        | tr e t x => exact fun i => .inl ⟨j, _, hg, hl, hk, fun ro' ls' e => by cases e⟩
        | fo e t x i1 off o2 => exact fun i => .inl ⟨j, _, hg, hl, hk, fun ro' ls' e => by cases e⟩
        | frz e t x => cases hl
        | dead => cases hl
      have hrun := hc.run (Given osI (renF ren pl1) fI) Z1 (renF ren pl1) w vals.toArray h1 r0 hF (by rw [List.size_toArray, ← hlen, hn]) (by
        rw [hvs, eI]
        intro t d hg
        have := k1 t d hg
        rw [show vals.toArray.getD t undef = vals.getD t undef from by simp [Array.getD_eq_getD_getElem?, List.getD_eq_getElem?_getD]]
        exact this) (by rw [hvs, eI]; exact MI)
      -- what is bound
      have hos : ∀ (ps : List POb) (j0 : Nat) (os : List (Nat × Ob G)), OsOK W w0.heap.size Z1 w pl1 ren (fun j => j) (renF ren pl1) c.ip.objs.length ob1 j0 ps os → ∀ (i : Nat) p, ps[i]? = some p → ∃ b, get os (j0 + i) = some b ∧ live b = true ∧ (∃ o, get ren (j0 + i) = some o) ∧ match p with | .cells ro pl' => ∃ ls : List (Leaf G), b = .cells ro ls ∧ ls.length = pl'.length | _ => ∀ ro ls, b ≠ .cells ro ls := by
        intro ps
        induction ps with
        | nil => intro j0 os _ i p hi; simp at hi
        | cons p0 ps ih =>
          intro j0 os ⟨b, os', e, g1, g2, g3, ⟨o, g4, _, _⟩, g5⟩ i p hi
          subst e
          cases i with
          | zero =>
            injection hi with hi
            subst hi
            refine ⟨b, get_same _ _ _, g2, ⟨o, g4⟩, ?_⟩
            cases p0 with
            | cells ro pl' => exact g3
            | arr e t => obtain ⟨x, hx⟩ := g3; intro ro ls hh; rw [hx] at hh; cases hh
            | ow kp tree e t => cases tree <;> (obtain ⟨x, hx⟩ := g3; intro ro ls hh; rw [hx] at hh; cases hh)
          | succ i =>
            obtain ⟨b', q1, q2, q3, q4⟩ := ih (j0 + 1) os' g5 i p (by simpa using hi)
            refine ⟨b', ?_, q2, ?_, q4⟩
            · show get ((j0, b) :: os') (j0 + (i + 1)) = _
              rw [get_far _ _ (by omega), show j0 + (i + 1) = j0 + 1 + i by omega]; exact q1
            · rw [show j0 + (i + 1) = j0 + 1 + i by omega]; exact q3
      have hI : ∀ (j : Nat) p, c.ip.objs[j]? = some p → ∃ b, get osI j = some b ∧ live b = true ∧ match p with | .cells ro pl' => ∃ ls : List (Leaf G), b = .cells ro ls ∧ ls.length = pl'.length | _ => ∀ ro ls, b ≠ .cells ro ls := by
        intro j p hp
        obtain ⟨b, q1, q2, _, q4⟩ := hos c.ip.objs 0 osI k2 j p hp
        rw [Nat.zero_add] at q1
        exact ⟨b, q1, q2, q4⟩
      have hren1 : ∀ j, j < c.ip.objs.length → ∃ o, get ren j = some o ∧ o < nx1 ∧ pl1 o = renF ren pl1 j := by
        intro j hj
        obtain ⟨_, _, _, ⟨o, ho⟩, _⟩ := hos c.ip.objs 0 osI k2 j _ (List.getElem?_eq_getElem hj)
        rw [Nat.zero_add] at ho
        exact ⟨o, ho, H.lt j o ho, (renF_some ho).symm⟩
      have hcells1 : ∀ (j : Nat) ro pl' o, c.ip.objs[j]? = some (.cells ro pl') → get ren j = some o → ∃ ro' ls, get ob1 o = some (.cells ro' ls) ∧ ls.length = pl'.length := by
        intro j ro pl' o hj ho
        obtain ⟨b, q1, q2, ls, q3, q4⟩ := hI j _ hj
        subst q3
        obtain ⟨_, _, q5, _⟩ := k2.get_id j _ q1
        obtain ⟨bb, T, cs, q6, q7, q8⟩ := q5
        obtain ⟨_, b1, hb1, hl1⟩ := H.bnd j o ho
        have hO := M1.ob o b1 hb1
        rw [renF_some ho] at q6
        cases b1 with
        | cells ro' ls' =>
          obtain ⟨bb', T', cs', m1, m2, m3⟩ := hO
          rw [q6] at m1
          injection m1 with m1
          injection m1 with m1
          injection m1 with m1
          subst m1
          rw [q7] at m2
          injection m2 with m2
          injection m2 with m2
          have m2 : cs = cs' := by simpa using m2
          subst m2
          exact ⟨ro', ls', hb1, by have := m3.length; have := q8.length; omega⟩
        | arr e t xs =>
          obtain ⟨vs', o1, _⟩ := hO
          rcases o1.2 with ⟨m1, _⟩ | ⟨g, cap, cur, m1, _⟩ <;> (rw [q6] at m1; cases m1)
        | tr e t xs =>
          obtain ⟨vs', o1⟩ := hO
          rcases o1.2 with ⟨m1, _⟩ | ⟨g, cap, cur, m1, _⟩ <;> (rw [q6] at m1; cases m1)
        | fo e t xs i off o2 =>
          obtain ⟨vs', o1⟩ := hO
          rcases o1.2 with ⟨m1, _⟩ | ⟨g, cap, cur, m1, _⟩ <;> (rw [q6] at m1; cases m1)
        | frz => cases hl1
        | dead => cases hl1
      have hownI : ∀ j b, get osI j = some b → ∀ k, bk (renF ren pl1 j) = some k → Own w0.heap.size W b k := by
        intro j b hg k hk
        obtain ⟨_, _, _, _, o, ho, hw, _⟩ := k2.get_id j b hg
        rw [renF_some ho] at hk
        exact hw k hk
      have hownT : ∀ j k, k ∈ fI j → w0.heap.size ≤ k ∨ ∀ i, W k i := by
        intro j k hk
        obtain ⟨_, _, _, o, _, _, h1⟩ := memI j k hk
        exact TM.own o k h1
      -- what is given is bound
      have hgiven : ∀ b i, Given osI (renF ren pl1) fI b i → (∃ j o c1, get ren j = some o ∧ bk (pl1 o) = some b ∧ get ob1 o = some c1 ∧ live c1 = true) ∨ ∃ j e t x o, get osI j = some (.tr e t x) ∧ get ren j = some o ∧ b ∈ fM o := by
        rintro b i (⟨j, ob', g1, g2, g3, _⟩ | ⟨j, g1⟩)
        · obtain ⟨_, _, _, _, o, ho, _⟩ := k2.get_id j ob' g1
          obtain ⟨_, c1, hc1, hl1⟩ := H.bnd j o ho
          rw [renF_some ho] at g3
          exact .inl ⟨j, o, c1, ho, g3, hc1, hl1⟩
        · obtain ⟨e, t, x, o, g2, g3, g4⟩ := memI j b g1
          exact .inr ⟨j, e, t, x, o, g2, g3, g4⟩
      have hz1 : ∀ b i, Z1 b i → ∀ i', ¬ Given osI (renF ren pl1) fI b i' := by
        intro b i hz i' hg
        rcases hgiven b i' hg with ⟨j, o, c1, _, g2, g3, g4⟩ | ⟨j, _, _, _, o, _, _, g4⟩
        · exact M1.zfar o c1 b g3 g4 g2 i hz
        · exact TM.zfar o b g4 i hz
      have post : ∀ v w', (∃ Z' pr,
          (∀ t d, get (instP c.rp (ofHL c.ots r0)).tmps t = some d → DVOK Z' w' pr (instP c.rp (ofHL c.ots r0)).nx d (compV c.rp.tmps.length v t)) ∧
          (c.rp.tmps.length = 1 ∨ ∃ vs : List Value, v = .tuple vs.toArray ∧ vs.length = c.rp.tmps.length) ∧
          Mem ⟨Given osI (renF ren pl1) fI, Z1, fixOf 0 c.ip.objs, renF ren pl1⟩ w Z' pr (instP c.rp (ofHL c.ots r0)).objs (instP c.rp (ofHL c.ots r0)).nx w') → next (a.put o.dst v) w' := by
        rintro v w' ⟨Z2, pr, htm, htup, M2⟩
        have z1 := M2.z0
        have z2 := M2.zn
        have hpr : ∀ j p, c.ip.objs[j]? = some p → isFix p = true → pr j = renF ren pl1 j := fun j p hj hp => (M2.fx j (fixOf_mem.2 ⟨j, p, (Nat.zero_add j).symm, hj, hp⟩)).2
        have eR : instP c.rp (ofHL c.ots r0) = ⟨(iTmps (fun j => j) c.rp.tmps (ofHL c.ots r0)).1, (iObs (fun j => j) 0 c.rp.objs (iTmps (fun j => j) c.rp.tmps (ofHL c.ots r0)).2).1, c.rp.objs.length⟩ := by simp only [instP, len_eq]
        rw [eR] at htm M2
        simp only at htm M2
        -- from here on alike, whatever was kept
        have fin : ∀ (obB : List (Nat × Ob G)) (nxB : Nat) (ZB Zr : Nat → Nat → Prop) (plB : Nat → Value) (fB : Nat → List Nat), afterK E o c ren r0 tm obB nxB K = some r → Mem W w0 ZB plB obB nxB w → TrOK W w0.heap.size ZB plB obB nxB w fB → (∀ o k, k ∈ fB o → ∀ i, ¬ Given osI (renF ren pl1) fI k i) → Ext Z w pl nx ZB w plB nxB →
            (∀ j, j < c.ip.objs.length → ∃ o, get ren j = some o ∧ o < nxB ∧ plB o = renF ren pl1 j) → (∀ (j : Nat) ro pl' o, c.ip.objs[j]? = some (.cells ro pl') → get ren j = some o → ∃ ro' ls, get obB o = some (.cells ro' ls) ∧ ls.length = pl'.length) →
            (∀ (j : Nat) p o b, c.ip.objs[j]? = some p → isRow p = true → get ren j = some o → get obB o = some b → live b = true → False) → (∀ o b k, get obB o = some b → live b = true → bk (plB o) = some k → (∀ j, get ren j ≠ some o) → ∀ i, ¬ Given osI (renF ren pl1) fI k i) →
            (∀ b i, ZB b i → ∀ i', ¬ Given osI (renF ren pl1) fI b i') → (∀ b i, ZB b i → Zr b i) → (∀ b i, Zr b i → ZB b i ∨ w.heap.size ≤ b ∨ ∀ j, Given osI (renF ren pl1) fI b j) →
            (∀ t d, get (iTmps (fun j => j) c.rp.tmps (ofHL c.ots r0)).1 t = some d → DVOK Zr w' pr c.rp.objs.length d (compV c.rp.tmps.length v t)) →
            (∃ za fa pa, Mem ⟨Given osI (renF ren pl1) fI, za, fa, pa⟩ w Zr pr (iObs (fun j => j) 0 c.rp.objs (iTmps (fun j => j) c.rp.tmps (ofHL c.ots r0)).2).1 c.rp.objs.length w') → next (a.put o.dst v) w' := by
          intro obB nxB ZB Zr plB fB hafter MB TB hfB X0 hrenB hcellsB hdeadB hfarB hzB hzI hzN htmR ⟨za, fa, pa, M2R⟩
          obtain ⟨hNF, X, M3⟩ := after_mem hc.wf MI MB TI TB hfB M2R rfl hrenB hbnd H.inj hcellsB hI hdeadB hownI hownT hfarB hzB hzI hzN hpr
          obtain ⟨t1, t2⟩ := iTmps_ren (Z := Zr) (w := w') hNF (ps := c.rp.tmps) (vs := ofHL c.ots r0)
          simp only [afterK] at hafter
          rw [t1, len_eq] at hafter
          have hkeys : (iTmps (resF c.ip.objs ren nxB) c.rp.tmps (ofHL c.ots r0)).1.map (·.1) = c.rp.tmps.map (·.1) := iTmps_keys
          have hl : (iTmps (resF c.ip.objs ren nxB) c.rp.tmps (ofHL c.ots r0)).1.length = c.rp.tmps.length := by rw [← List.length_map (f := fun x => x.1), hkeys, List.length_map]
          have hd := dvOf_ok (Z := Zr) (w := w') (ds := (iTmps (resF c.ip.objs ren nxB) c.rp.tmps (ofHL c.ots r0)).1) (v := v) (by rw [hkeys, hl]; exact keysOK_ok hc.keys) (fun t d hg => by
            obtain ⟨d', q1, q2⟩ := t2 t d hg
            rw [hl]
            exact q2 _ (htmR t d' q1)) (by rw [hl]; exact htup)
          exact out_ok hafter (S.at (L' := ⟨tm, _, _⟩) (X0.trans X) M3 rfl) hd hK
        split at h
        · -- what comes back holds no memory: the rows stay ours
          rename_i hbr
          split at h
          · rename_i hnx
            have hnx := Nat.eq_of_beq_eq_true hnx
            subst hnx
            have hbo := hc.brw hbr
            simp only [brOK] at hbo
            split at hbo
            · rename_i b1 b2
              obtain ⟨tsT, tsO, hbT, hbO⟩ : ∃ tsT tsO, brTm c.ots c.rp.tmps = some tsT ∧ brO G tsT c.rp.objs = some tsO := by
                unfold brAll at b2
                split at b2
                · rename_i tsT h1
                  split at b2
                  · rename_i tsO h2; exact ⟨tsT, tsO, h1, h2⟩
                  · cases b2
                · cases b2
              have hpl1 : ∀ o, o < nx → pl1 o = pl o := H.step.ext.hp
              have noarr : ∀ (ps : List POb), noArr ps = true → ∀ (j : Nat) p, isRow p = true → ps[j]? ≠ some p := by
                intro ps
                induction ps with
                | nil => intro _ j p _ h; simp at h
                | cons p ps ih =>
                  intro hh j q hq h
                  cases p with
                  | arr => cases hh
                  | ow => cases hh
                  | cells ro l =>
                    cases j with
                    | zero => injection h with h; subst h; cases hq
                    | succ j => exact ih hh j q hq (by simpa using h)
              have hold : ∀ j o, get ren j = some o → ∃ ro ls, get ob o = some (.cells ro ls) ∧ get ob1 o = some (.cells ro ls) := by
                intro j o ho
                have hj := hbnd j o ho
                cases hp : c.ip.objs[j]? with
                | none => rw [List.getElem?_eq_getElem hj] at hp; cases hp
                | some p =>
                  cases p with
                  | arr e t => exact absurd hp (noarr _ b1 j _ rfl)
                  | ow kp tree e t => exact absurd hp (noarr _ b1 j _ rfl)
                  | cells ro l =>
                    obtain ⟨ro', ls, q1, _⟩ := hcells1 j ro l o hp ho
                    rcases H.back o _ q1 rfl with q | q
                    · exact ⟨ro', ls, q, q1⟩
                    · exact absurd (H.lt j o ho) (by have : nx ≤ o := q; show ¬ o < nx; omega)
              have notree : ∀ j e t x, get osI j ≠ some (.tr e t x) := by
                intro j e t x hg
                obtain ⟨_, hj2, _⟩ := k2.get_id j _ hg
                rw [Nat.zero_add] at hj2
                obtain ⟨b', q1, q2, q3⟩ := hI j _ (List.getElem?_eq_getElem hj2)
                cases hp : c.ip.objs[j]'hj2 with
                | arr e t => exact noarr _ b1 j _ rfl (by rw [List.getElem?_eq_getElem hj2, hp])
                | ow kp tree e t => exact noarr _ b1 j _ rfl (by rw [List.getElem?_eq_getElem hj2, hp])
                | cells ro l =>
                  rw [hp] at q3
                  obtain ⟨ls, q3, _⟩ := q3
                  rw [hg] at q1
                  injection q1 with q1
                  rw [q3] at q1
                  cases q1
              obtain ⟨f0, T0⟩ := S.mem.tr
              refine fin ob nx Z Z pl f0 h S.mem T0 (fun o k hk i hgi => ?_) (Ext.refl _ _ _ _) (fun j hj => ?_) (fun j ro pl' o hj ho => ?_) (fun j p o b hj hp => absurd hj (noarr _ b1 j p hp)) (fun o b k hg hl hk hnb i hgi => ?_) (fun b i hz => hz1 b i (H.step.ext.hZ b i hz)) (fun _ _ h => h) (fun _ _ h => .inl h)
                (fun t d hg => (iTmps_br hbT ofHL_map).1 hg (htm t d hg)) ?_
              · rcases hgiven k i hgi with ⟨j, o', c1, g1, g2, g3, g4⟩ | ⟨j, e, t, x, o', g1, _⟩
                · obtain ⟨ro2, ls2, q3, q4⟩ := hold j o' g1
                  rw [hpl1 o' (S.mem.lt o' _ q3)] at g2
                  exact T0.root o k o' _ hk q3 rfl g2
                · exact notree j e t x g1
              · obtain ⟨o, q1, q2, q3⟩ := hren1 j hj
                exact ⟨o, q1, q2, by rw [← hpl1 o q2]; exact q3⟩
              · obtain ⟨ro', ls, q1, q2⟩ := hcells1 j ro pl' o hj ho
                obtain ⟨ro2, ls2, q3, q4⟩ := hold j o ho
                rw [q1] at q4
                injection q4 with q4
                injection q4 with e1 e2
                subst e1 e2
                exact ⟨ro', ls, q3, q2⟩
              · rcases hgiven k i hgi with ⟨j, o', c1, g1, g2, g3, g4⟩ | ⟨j, e, t, x, o', g1, _⟩
                rotate_left
                · exact notree j e t x g1
                obtain ⟨ro2, ls2, q3, q4⟩ := hold j o' g1
                rw [hpl1 o' (S.mem.lt o' _ q3)] at g2
                have := S.mem.sep o o' b _ k hg hl q3 rfl hk g2
                subst this
                exact hnb j g1
              · have hrest := (iTmps_br (Z := Z2) (Z' := Z) (w := w') (pl := pr) (n := c.rp.objs.length) (f := fun j => j) hbT (ofHL_map (h := r0))).2
                refine ⟨Z, [], pl, ?_⟩
                exact ⟨M2.lt, fun o b hg => iObs_br hbO hrest hg (M2.ob o b hg), M2.sep, M2.own, fun o b k hg hl hk i hz => M2.zfar o b k hg hl hk i (z1 k i (H.step.ext.hZ k i hz)), fun b i hz => M2.zlt b i (z1 b i (H.step.ext.hZ b i hz)), fun _ _ h => .inl h, fun _ _ h => h, fun j hj => absurd hj List.not_mem_nil, ⟨M2.fr.os, M2.fr.tape, M2.fr.output, M2.fr.size, M2.fr.blk, M2.fr.cel⟩, M2.tr.elim fun f2 T2 => ⟨f2, { T2 with zfar := fun o k hk j hz => T2.zfar o k hk j (z1 k j (H.step.ext.hZ k j hz)) }⟩⟩
            · cases hbo
          · cases h
        · obtain ⟨MK, TK⟩ := killArr_mem (ren := ren) (ps := c.ip.objs) (j := 0) M1 TM H.lt
          have hkd : ∀ (j : Nat) p o b, c.ip.objs[j]? = some p → isRow p = true → get ren j = some o → get (killArr ren 0 c.ip.objs ob1) o = some b → live b = true → False := by
            intro j p o b hj hp ho hg hl
            have := (killArr_get hg hl).2 j p hj hp
            rw [Nat.zero_add] at this
            exact this ho
          let fB : Nat → List Nat := fun o => if goneB osI ren c.ip.objs.length o = true then [] else fM o
          have fBno : ∀ o k, k ∈ fB o → k ∈ fM o ∧ ∀ j e t x, get osI j = some (.tr e t x) → get ren j ≠ some o := by
            intro o k hk
            have hk : k ∈ (if goneB osI ren c.ip.objs.length o = true then [] else fM o) := hk
            split at hk
            · cases hk
            · rename_i hn
              refine ⟨hk, fun j e t x hg ho => hn ?_⟩
              exact goneB_iff.2 ⟨j, e, t, x, hbnd j o ho, hg, ho⟩
          have TB : TrOK W w0.heap.size Z1 pl1 (killArr ren 0 c.ip.objs ob1) nx1 w fB := TK.sub fun o => by
            by_cases hn : goneB osI ren c.ip.objs.length o = true
            · refine .inr ⟨if_pos hn, fun b hg => ?_⟩
              obtain ⟨j, e, t, x, hj2, hq, hmr⟩ := goneB_iff.1 hn
              cases hl : live b with
              | false => rfl
              | true =>
                exfalso
                obtain ⟨b2, q1, q2, q3⟩ := hI j _ (List.getElem?_eq_getElem hj2)
                rw [hq] at q1
                injection q1 with q1
                subst q1
                cases hp : c.ip.objs[j]'hj2 with
                | arr e t => exact hkd j _ o b (by rw [List.getElem?_eq_getElem hj2, hp]) rfl hmr hg hl
                | ow kp tree e t => exact hkd j _ o b (by rw [List.getElem?_eq_getElem hj2, hp]) rfl hmr hg hl
                | cells ro l =>
                  rw [hp] at q3
                  obtain ⟨ls, q3, _⟩ := q3
                  cases q3
            · exact .inl (if_neg hn)
          refine fin (killArr ren 0 c.ip.objs ob1) nx1 Z1 Z2 pl1 fB h MK TB (fun o k hk i hgi => ?_) H.step.ext hren1 (fun j ro pl' o hj ho => ?_) hkd (fun o b k hg hl hk hnb i hgi => ?_) hz1 z1 z2 htm ⟨_, _, _, M2⟩
          · obtain ⟨h1, h2⟩ := fBno o k hk
            rcases hgiven k i hgi with ⟨j, o', c1, g1, g2, g3, g4⟩ | ⟨j, e, t, x, o', g1, g2, g3⟩
            · exact TM.root o k o' c1 h1 g3 g4 g2
            · have := TM.sep o o' k h1 g3
              subst this
              exact h2 j e t x g1 g2
          · obtain ⟨ro', ls, q1, q2⟩ := hcells1 j ro pl' o hj ho
            refine ⟨ro', ls, ?_, q2⟩
            rw [killArr_far (fun i p hi hp hr => ?_)]
            · exact q1
            · rw [Nat.zero_add] at hr
              have := H.inj i j o hr ho
              subst this
              rw [hj] at hi; injection hi with hi; subst hi; cases hp
          · have hg1 := (killArr_get hg hl).1
            rcases hgiven k i hgi with ⟨j, o', c1, g1, g2, g3, g4⟩ | ⟨j, e, t, x, o', g1, g2, g3⟩
            rotate_left
            · exact TM.root o' k o b g3 hg1 hl hk
            have := M1.sep o o' b c1 k hg1 hl g3 g4 hk g2
            subst this
            exact hnb j g1
      rcases hrun with ⟨v, w', q1, q2⟩ | ⟨q1, q2⟩
      · exact wp_value (exe1 v w' q1) (post v w' q2)
      · unfold Oper.wp
        rw [exe2 q1, Oper.upon_enter]
        exact q2.mono fun e w'' ⟨v, e1, q⟩ => by subst e1; exact post v w'' q
    · cases h
  · cases h
end Go.Proofs.YtmcbhnbemhfifaaDoor.RX
