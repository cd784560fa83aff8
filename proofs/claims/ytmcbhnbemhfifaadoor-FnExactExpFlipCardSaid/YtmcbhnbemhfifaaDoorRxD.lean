/- What the form reads of an argument is a value as the evaluator tells it, within bounds. Condition: the types' table agrees with the program's types (rdB). -/
import Derived.Test.YtmcbhnbemhfifaaDoorRxR
import Derived.ChangeArms
import Derived.OpenShut
import Derived.ShutString
import Derived.SizedLaws
namespace Go.Proofs.YtmcbhnbemhfifaaDoor.RX
open Go Go.RowKit
set_option autoImplicit false
variable {G : Sig} {P : Program}

-- a value within bounds: numbers of their kind, texts and rows that a machine may hold
mutual
inductive Bnd (G : Sig) : (t : Ty) → G.D t → Prop where
  | int (k : IntKind) (x : Int) (h : (Lit.int k x).wf = true) : Bnd G (.int k) x
  | bool (b : Bool) : Bnd G .bool b
  | str (s : ByteArray) (h : s.size ≤ maxLen) : Bnd G .str s
  | sl (e : TypeId) (t : Ty) (xs : List (G.D t)) (h : xs.length ≤ maxLen) (hb : ∀ i (hi : i < xs.length), Bnd G t xs[i]) : Bnd G (.sl e t) xs
  | st (s : Nat) (x : G.S s) (h : BndF G (G.fs s) (G.op s x)) : Bnd G (.st s) x
inductive BndF (G : Sig) : (ts : List Ty) → Fs G.S ts → Prop where
  | nil : BndF G [] ()
  | cons (t : Ty) (ts : List Ty) (h : Fs G.S (t :: ts)) (h1 : Bnd G t h.1) (h2 : BndF G ts h.2) : BndF G (t :: ts) h
end
theorem bnd_int {k : IntKind} {x : Int} (h : Bnd G (.int k) x) : (Lit.int k x).wf = true := by cases h; assumption
theorem bnd_str {s : ByteArray} (h : Bnd G .str s) : s.size ≤ maxLen := by cases h; assumption
theorem bnd_sl {e : TypeId} {t : Ty} {xs : List (G.D t)} (h : Bnd G (.sl e t) xs) : xs.length ≤ maxLen ∧ ∀ x ∈ xs, Bnd G t x := by
  cases h with
  | sl _ _ _ h hb =>
    refine ⟨h, fun x hx => ?_⟩
    obtain ⟨i, hi, rfl⟩ := List.getElem_of_mem hx
    exact hb i hi
theorem bnd_st {s : Nat} {x : G.S s} (h : Bnd G (.st s) x) : BndF G (G.fs s) (G.op s x) := by cases h; assumption
theorem bndF_cons {t : Ty} {ts : List Ty} {h : Fs G.S (t :: ts)} (H : BndF G (t :: ts) h) : Bnd G t h.1 ∧ BndF G ts h.2 := by cases H; exact ⟨‹_›, ‹_›⟩

def tyOf (G : Sig) (T : TypeId) (t : Ty) : Bool :=
  match G.tab T with
  | some ⟨_, _, _, some t'⟩ => Ty.beq t' t
  | _ => false
theorem tyOf_iff {T : TypeId} {t : Ty} (h : tyOf G T t = true) : ∃ ti, G.tab T = some ti ∧ ti.ty = some t := by
  unfold tyOf at h
  split at h
  · rename_i a b c t' e; exact ⟨_, e, by rw [Ty.eq_of_beq h]⟩
  · cases h
def fieldsB (G : Sig) : List Field → List Ty → Nat → Bool
  | [], [], _ => true
  | f :: fs, t :: ts, n => Nat.beq f.offset n && (tyOf G f.type t && fieldsB G fs ts (n + G.csz t))
  | _, _, _ => false
/-- A type's row of the table agrees with the program's types. -/
def rdB1 (P : Program) (G : Sig) (T : TypeId) (ti : TI) : Bool :=
  match ti.ty with
  | none => true
  | some t => Nat.beq (P.cellsOf T) (G.csz t) && (match t with
    | .sl e t' => tyOf G e t'
    | .st s => match P.underlying T with
      | some (.struct fs) => fieldsB G fs.toList (G.fs s) 0
      | _ => false
    | .po _ => false
    | _ => true)
def rdB (P : Program) (G : Sig) : List (Nat × TI) → Bool
  | [] => true
  | (T, ti) :: r => rdB1 P G T ti && rdB P G r
theorem rdB_get {l : List (Nat × TI)} (h : rdB P G l = true) {T : TypeId} {ti : TI} (hg : get l T = some ti) : rdB1 P G T ti = true := by
  induction l with
  | nil => simp [get] at hg
  | cons p l ih =>
    obtain ⟨k, v⟩ := p
    simp only [rdB, Bool.and_eq_true] at h
    rw [get_cons] at hg
    split at hg
    · rename_i e; injection hg with hg; subst e hg; exact h.1
    · exact ih h.2 hg
theorem cells_get {W : World} {a : Addr} {n : Nat} {cs : List Value} (h : W.cells? 0 a n = some cs) : cs.length = n ∧ ∀ (j : Nat) u, cs[j]? = some u → W.cell? (a.add j) = some u := by
  unfold World.cells? at h
  rw [if_pos (Nat.zero_le _)] at h
  have hl : cs.length = n := by simpa using mapM_some_length h
  refine ⟨hl, fun j u hu => ?_⟩
  have hj : j < n := by have := (List.getElem?_eq_some_iff.1 hu).1; omega
  have := mapM_some_get h j j (by simp [hj])
  rw [this, hu]
theorem choose_list {α : Type} {Q : Nat → α → Prop} : ∀ n : Nat, (∀ i, i < n → ∃ a, Q i a) → ∃ l : List α, l.length = n ∧ ∀ (i : Nat) (hi : i < l.length), Q i l[i]
  | 0, _ => ⟨[], rfl, fun i hi => by cases hi⟩
  | n + 1, h => by
    obtain ⟨l, hl, hq⟩ := choose_list (Q := Q) n (fun i hi => h i (by omega))
    obtain ⟨a, ha⟩ := h n (by omega)
    refine ⟨l ++ [a], by simp [hl], fun i hi => ?_⟩
    rcases Nat.lt_or_ge i n with hi' | hi'
    · rw [List.getElem_append_left (by omega)]
      exact hq i (by omega)
    · have e : i = n := by simp at hi; omega
      subst e
      rw [List.getElem_append_right (by omega)]
      simp only [hl, Nat.sub_self, List.getElem_cons_zero]
      exact ha
theorem add_none {x : Addr} (h : x.spot = none) (n : Nat) : x.add n = ⟨x.block, x.off + n, none⟩ := by
  obtain ⟨b, o, s⟩ := x
  subst h
  exact add_at b o n
/-- An argument, read. -/
theorem trod_rep {H : Type} {enc : TypeId × Value → H} {W : World} (hs0 : SigOK G) (ht : TabOK P G) (hr : ∀ T ti, G.tab T = some ti → rdB1 P G T ti = true) : ∀ (n : Nat) (T : TypeId) (t : Ty) (cs : List Value) (x : DataW H × List MemPlace), tyOf G T t = true →
    DataW.trod enc P W 0 (fun _ => true) true n T cs = some x → ∃ a : G.D t, RepC G (oldZ W) W t a cs ∧ Bnd G t a := by
  intro n
  induction n using Nat.strongRecOn with
  | _ n ih =>
  intro T t cs x hty h
  obtain ⟨ti, hti, htt⟩ := tyOf_iff hty
  have tk := ht T ti hti
  have hb := hr T ti hti
  unfold rdB1 at hb
  rw [htt] at hb
  simp only [Bool.and_eq_true] at hb
  obtain ⟨hcell, hb⟩ := hb
  have hcell := Nat.eq_of_beq_eq_true hcell
  cases t with
  | int k =>
    obtain ⟨a, rfl, _, hw⟩ := DataW.trod_int (tk.int k htt) h
    exact ⟨a, .int k a, .int k a hw⟩
  | bool =>
    obtain ⟨a, rfl, _⟩ := DataW.trod_bool (tk.bool htt) h
    exact ⟨a, .bool a, .bool a⟩
  | str =>
    obtain ⟨a, rfl, _, hw⟩ := DataW.trod_string (tk.str htt) h
    exact ⟨a, .str a, .str a hw⟩
  | po t => cases hb
  | sl e t =>
    have hu := (tk.sl e t htt).1
    obtain ⟨te, hte, htet⟩ := tyOf_iff hb
    have hce : P.cellsOf e = G.csz t := by
      have := hr e te hte
      unfold rdB1 at this
      rw [htet] at this
      simp only [Bool.and_eq_true] at this
      exact Nat.eq_of_beq_eq_true this.1
    rcases DataW.trod_slice hu h with ⟨rfl, _⟩ | ⟨ad, len, cap, elems, rest, m, rfl, rfl, _, _, hl, hm, hlen, hel, _, _⟩
    · exact ⟨([] : List (G.D t)), .sl e t [] none 0 0 0 (fun _ => []) (Nat.le_refl _) (.inl rfl) (fun i hi => by cases hi) (fun i j v hi => by cases hi) (fun i hi => by cases hi), .sl e t [] (Nat.zero_le _) (fun i hi => by cases hi)⟩
    · have each : ∀ i, i < len → ∃ a : G.D t × List Value, a.2.length = G.csz t ∧ RepC G (oldZ W) W t a.1 a.2 ∧ Bnd G t a.1 ∧ ∀ (j : Nat) u, a.2[j]? = some u → W.cell? ((ad.add (i * G.csz t)).add j) = some u := by
        intro i hi
        have h1 := hel i hi
        rw [List.getElem?_eq_getElem (show i < elems.length by omega), hce, Option.bind_eq_some_iff] at h1
        obtain ⟨c, h2, h3⟩ := h1
        obtain ⟨a, h4, h5⟩ := ih m (by omega) e t c _ hb h3
        obtain ⟨hcl, hcc⟩ := cells_get h2
        exact ⟨(a, c), hcl, h4, h5, fun j u hu => hcc j u hu⟩
      obtain ⟨l, hll, hq⟩ := choose_list len each
      have hpos : 0 < G.csz t := by
        obtain ⟨_, i, z, _, _, _, _, hp, _⟩ := tk.sl e t htt
        exact hp
      have hspot : ∀ i, i < l.length → ad.spot = none := by
        intro i hi
        obtain ⟨q1, _, _, q4⟩ := hq 0 (by omega)
        have hc0 : (l[0].2)[0]? = some (l[0].2[0]'(by omega)) := List.getElem?_eq_getElem _
        have := q4 0 _ hc0
        rw [Nat.zero_mul, show ad.add 0 = ad by unfold Addr.add; simp] at this
        exact spot_none this
      refine ⟨(l.map (·.1) : List (G.D t)), ?_, .sl e t _ (by show (l.map (·.1)).length ≤ _; rw [List.length_map]; omega) (fun i hi => ?_)⟩
      · have key : RepC G (oldZ W) W (.sl e t) (l.map (·.1)) [.slice (some ad) (l.map (·.1)).length cap] := by
          refine .sl e t (l.map (·.1)) (some ad) cap ad.block ad.off (fun i => match l[i]? with | some p => p.2 | none => []) (by show (l.map (·.1)).length ≤ _; rw [List.length_map]; omega) ?_ (fun i hi => ?_) (fun i j v hi hj => ?_) (fun i hi => ?_)
          · rcases Nat.eq_zero_or_pos l.length with h0 | h0
            · exact .inl (by show (l.map (·.1)).length = 0; rw [List.length_map]; exact h0)
            · right
              have := hspot 0 h0
              obtain ⟨b, o, s⟩ := ad
              have : s = none := this
              subst this
              rfl
          · have hi : i < (l.map (·.1)).length := hi
            rw [List.length_map] at hi
            simp only [List.getElem?_eq_getElem hi]
            exact (hq i hi).1
          · have hi : i < (l.map (·.1)).length := hi
            rw [List.length_map] at hi
            simp only [List.getElem?_eq_getElem hi] at hj
            have := (hq i hi).2.2.2 j v hj
            rw [add_none (hspot i hi), add_at] at this
            exact ⟨cell_lt this, this⟩
          · have hi : i < (l.map (·.1)).length := hi
            have hi' := hi
            rw [List.length_map] at hi'
            simp only [List.getElem?_eq_getElem hi']
            have := (hq i hi').2.1
            show RepC G _ _ t ((l.map (·.1))[i]) _
            rw [List.getElem_map]
            exact this
        have e : (l.map (·.1)).length = len := by rw [List.length_map]; exact hll
        rw [e] at key
        exact key
      · have hi : i < (l.map (·.1)).length := hi
        have hi' := hi
        rw [List.length_map] at hi'
        show Bnd G t ((l.map (·.1))[i])
        rw [List.getElem_map]
        exact (hq i hi').2.2.1
  | st s =>
    have hbs : (match P.underlying T with | some (.struct fs) => fieldsB G fs.toList (G.fs s) 0 | _ => false) = true := hb
    split at hbs
    · rename_i fs hfs
      obtain ⟨xs, m, rfl, _, hl, hxl, hf⟩ := DataW.trod_struct hfs h
      have key : ∀ (fl : List Field) (ts : List Ty) (k off : Nat), fieldsB G fl ts off = true → fs.toList.drop k = fl → ∀ c : List Value, cs.drop off = c → c.length = sumSz G ts → ∃ h : Fs G.S ts, RepF G (oldZ W) W ts h c ∧ BndF G ts h := by
        intro fl
        induction fl with
        | nil =>
          intro ts k off hB hk c hc hcl
          cases ts with
          | nil =>
            have : c = [] := List.eq_nil_of_length_eq_zero hcl
            subst this
            exact ⟨(), .nil, .nil⟩
          | cons t ts => cases hB
        | cons f fl ihl =>
          intro ts k off hB hk c hc hcl
          cases ts with
          | nil => cases hB
          | cons t ts =>
            simp only [fieldsB, Bool.and_eq_true] at hB
            obtain ⟨b1, b2, b3⟩ := hB
            have b1 := Nat.eq_of_beq_eq_true b1
            have hkl : k < fs.toList.length := by
              rcases Nat.lt_or_ge k fs.toList.length with h | h
              · exact h
              · rw [List.drop_eq_nil_of_le h] at hk; cases hk
            have hfk : fs[k]? = some f := by
              have : (fs.toList.drop k)[0]? = some f := by rw [hk]; rfl
              rw [List.getElem?_drop, Nat.add_zero, Array.getElem?_toList] at this
              exact this
            obtain ⟨tf, htf, htft⟩ := tyOf_iff b2
            have hcf : P.cellsOf f.type = G.csz t := by
              have := hr f.type tf htf
              unfold rdB1 at this
              rw [htft] at this
              simp only [Bool.and_eq_true] at this
              exact Nat.eq_of_beq_eq_true this.1
            have h1 := hf k f hfk
            have hlt : k < xs.length := by rw [hxl]; rw [Array.length_toList] at hkl; exact hkl
            rw [List.getElem?_eq_getElem hlt, b1, hc, hcf] at h1
            obtain ⟨a, r1, r2⟩ := ih m (by omega) f.type t _ _ b2 h1
            have hsum : c.length = G.csz t + sumSz G ts := hcl
            obtain ⟨h', r3, r4⟩ := ihl ts (k + 1) (off + G.csz t) b3 (by rw [← List.drop_drop, hk]; rfl) (c.drop (G.csz t)) (by rw [← hc, List.drop_drop]) (by rw [List.length_drop, hsum]; omega)
            refine ⟨(a, h'), ?_, .cons t ts (a, h') r2 r4⟩
            have := RepF.cons (G := G) (Z := oldZ W) (w := W) t ts (a, h') (c.take (G.csz t)) (c.drop (G.csz t)) (by rw [List.length_take, hsum]; omega) r1 r3
            rwa [List.take_append_drop] at this
      have hsz : sumSz G (G.fs s) = G.csz (.st s) := hs0 s
      obtain ⟨h', r1, r2⟩ := key fs.toList (G.fs s) 0 0 hbs (by simp) cs (by simp) (by rw [hl, hcell, hsz])
      refine ⟨G.bd s h', .st s _ cs (by rw [G.hop]; exact r1), .st s _ (by rw [G.hop]; exact r2)⟩
    · cases hbs
theorem arg_ok {H : Type} {enc : TypeId × Value → H} {W : World} {base : Nat} (hs0 : SigOK G) (ht : TabOK P G) (hr : ∀ T ti, G.tab T = some ti → rdB1 P G T ti = true) {T : TypeId} {t : Ty} {v : Value} {d : DataW H} {ps : List MemPlace} (hty : tyOf G T t = true)
    (hv : Value.okWide P W .any base T v) (h : DataW.Trod enc P W 0 (fun _ => true) true T v d ps) : ∃ x : G.D t, Bnd G t x ∧ ∀ s pl nx, svOf (⟨t, x⟩ : TV G) = some s → SVOK (oldZ W) W pl nx s v := by
  obtain ⟨fuel, hf⟩ := h
  obtain ⟨x, hR, hB⟩ := trod_rep hs0 ht hr fuel T t _ _ hty hf
  obtain ⟨ti, hti, htt⟩ := tyOf_iff hty
  have tk := ht T ti hti
  refine ⟨x, hB, fun s pl nx hs => ?_⟩
  obtain ⟨u, h1, h2, h3, h4⟩ := svOf_ok (v := (⟨t, x⟩ : TV G)) (pl := pl) (nx := nx) hs hR
  have one : (∀ n, t ≠ .st n) → v.oneCell' = true → u = v := by
    intro hn h1
    have := h4 hn
    rw [cells_one h1] at this
    injection this with this
    exact this.symm
  have : u = v := by
    cases t with
    | int k => obtain ⟨n, rfl⟩ := Go.WideShapes.okWide_int (tk.int k htt) hv; exact one (fun n e => by cases e) rfl
    | bool => obtain ⟨n, rfl⟩ := Go.WideShapes.okWide_bool (tk.bool htt) hv; exact one (fun n e => by cases e) rfl
    | str => obtain ⟨n, rfl⟩ := Go.WideShapes.okWide_string (tk.str htt) hv; exact one (fun n e => by cases e) rfl
    | sl e t => obtain ⟨a, l, c, rfl⟩ := Go.WideShapes.okWide_slice (tk.sl e t htt).1 hv; exact one (fun n e => by cases e) rfl
    | po t => have := hr T ti hti; unfold rdB1 at this; rw [htt] at this; simp at this
    | st k =>
      have hb := hr T ti hti
      unfold rdB1 at hb
      rw [htt] at hb
      simp only [Bool.and_eq_true] at hb
      have hb2 : (match P.underlying T with | some (.struct fs) => fieldsB G fs.toList (G.fs k) 0 | _ => false) = true := hb.2
      split at hb2
      · rename_i fs hfs
        obtain ⟨cs, rfl, _⟩ := Go.WideShapes.okWide_struct hfs hv
        rw [h3 k rfl]
        rfl
      · cases hb2
  rw [← this]
  exact h1
/-- An argument, as a call's pattern tells it. -/
theorem arg_dv {W : World} {t : Ty} {x : G.D t} {v : Value} {pl : Nat → Value} {nx : Nat} (h : ∀ s pl nx, svOf (⟨t, x⟩ : TV G) = some s → SVOK (oldZ W) W pl nx s v) : DVOK (oldZ W) W pl nx (match svOf (⟨t, x⟩ : TV G) with | some s => DV.sv s | none => .junk) v := by
  split
  · rename_i s hs; exact h s pl nx hs
  · trivial
end Go.Proofs.YtmcbhnbemhfifaaDoor.RX
