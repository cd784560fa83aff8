/- A matched state told anew (for a place of the code, for a call, for a return), and what a function's contract says. Condition: SigOK. -/
import Derived.Test.YtmcbhnbemhfifaaDoorRx6
namespace Go.Proofs.YtmcbhnbemhfifaaDoor.RX
open Go
set_option autoImplicit false
variable {G : Sig} {W : Rights} {w0 w w' : World} {Z Z' : Nat → Nat → Prop} {pl pl' : Nat → Value} {objs : List (Nat × Ob G)} {nx nx' : Nat}

theorem get_mem {α : Type} : ∀ {r : List (Nat × α)} {n : Nat} {x : α}, get r n = some x → (n, x) ∈ r
  | (k, v) :: r, n, x, h => by
    rw [get_cons] at h
    split at h
    · rename_i e; injection h with h; subst h e; exact List.mem_cons_self
    · exact List.mem_cons_of_mem _ (get_mem h)
theorem nodupB_ok {n : Nat} : ∀ {ren : List (Nat × Nat)} {seen : List Nat}, nodupB n ren seen = true → (∀ j o, (j, o) ∈ ren → j < n ∧ o ∉ seen) ∧ ∀ j j' o, (j, o) ∈ ren → (j', o) ∈ ren → j = j'
  | [], _, _ => ⟨fun _ _ h => absurd h List.not_mem_nil, fun _ _ _ h => absurd h List.not_mem_nil⟩
  | (j, o) :: r, seen, h => by
    simp only [nodupB] at h
    split at h
    · rename_i h1 h2
      obtain ⟨a, b⟩ := nodupB_ok h
      have hos : o ∉ seen := fun hm => by rw [(hasN_iff seen o).2 hm] at h1; cases h1
      refine ⟨fun j' o' hm => ?_, fun j1 j2 o' h1' h2' => ?_⟩
      · rcases List.mem_cons.1 hm with hm | hm
        · injection hm with e1 e2; subst e1 e2; exact ⟨by rw [Nat.blt_eq] at h2; exact h2, hos⟩
        · exact ⟨(a j' o' hm).1, fun h => (a j' o' hm).2 (List.mem_cons_of_mem _ h)⟩
      · rcases List.mem_cons.1 h1' with e1 | g1
        · rcases List.mem_cons.1 h2' with e2 | g2
          · injection e1 with e1 _; injection e2 with e2 _; rw [e1, e2]
          · injection e1 with _ e1; subst e1; exact absurd List.mem_cons_self (a _ _ g2).2
        · rcases List.mem_cons.1 h2' with e2 | g2
          · injection e2 with _ e2; subst e2; exact absurd List.mem_cons_self (a _ _ g1).2
          · exact b _ _ _ g1 g2
    · cases h
theorem liveB_ok {ob : List (Nat × Ob G)} : ∀ {ren : List (Nat × Nat)}, liveB ob ren = true → ∀ j o, (j, o) ∈ ren → ∃ b, get ob o = some b ∧ live b = true
  | (j, o) :: r, h, j', o', hm => by
    simp only [liveB] at h
    split at h
    · rename_i hg
      rcases List.mem_cons.1 hm with e | hm
      · injection e with e1 e2; subst e1 e2; exact ⟨_, hg, rfl⟩
      · exact liveB_ok h j' o' hm
    · rename_i hg
      rcases List.mem_cons.1 hm with e | hm
      · injection e with e1 e2; subst e1 e2; exact ⟨_, hg, rfl⟩
      · exact liveB_ok h j' o' hm
    · rename_i hg
      rcases List.mem_cons.1 hm with e | hm
      · injection e with e1 e2; subst e1 e2; exact ⟨_, hg, rfl⟩
      · exact liveB_ok h j' o' hm
    · cases h

structure Matched (W : Rights) (w0 w : World) (Z : Nat → Nat → Prop) (pl : Nat → Value) (p : Pat) (ren0 : List (Nat × Nat)) (L : St G) (m : MS G) (val : Nat → Value) (Z' : Nat → Nat → Prop) (pl' : Nat → Value) : Prop where
  step : MStep W w0 w Z pl L Z' pl' m.L
  le : RenLe ren0 m.ren
  lt : RenLt m.ren m.L.nx
  bnd : ∀ j o, get m.ren j = some o → j < p.objs.length ∧ ∃ b, get m.L.objs o = some b ∧ live b = true
  inj : ∀ j j' o, get m.ren j = some o → get m.ren j' = some o → j = j'
  cells : ∀ o ro ls, get L.objs o = some (.cells ro ls) → get m.L.objs o = some (.cells ro ls)
  back : ∀ o b, get m.L.objs o = some b → live b = true → get L.objs o = some b ∨ L.nx ≤ o
  told : ∀ f pl2 nx2, Fit pl' m.ren f pl2 nx2 → ∃ tm' r os, iTmps f p.tmps m.out = (tm', r) ∧ iObs f 0 p.objs r = (os, []) ∧ (∀ t d, get tm' t = some d → DVOK Z' w pl2 nx2 d (val t)) ∧ tm'.map (·.1) = p.tmps.map (·.1) ∧
    OsOK W w0.heap.size Z' w pl' m.ren f pl2 nx2 m.L.objs 0 p.objs os
theorem matchP_ok (hs : SigOK G) {p : Pat} {ren0 : List (Nat × Nat)} {L : St G} {m : MS G} (h : matchP p ren0 L = some m) (M : Mem W w0 Z pl L.objs L.nx w) (hr : RenLt ren0 L.nx) {val : Nat → Value}
    (hu : ∀ t d, get L.tmps t = some d → DVOK Z w pl L.nx d (val t)) : ∃ Z' pl', Matched W w0 w Z pl p ren0 L m val Z' pl' := by
  simp only [matchP] at h
  split at h
  · rename_i m1 h1
    split at h
    · rename_i m2 h2
      split at h
      · rename_i hn hl
        injection h with h
        subst h
        obtain ⟨⟨Z1, pl1, seg1, S1, o1, r1, l1, q1⟩, c1, d1⟩ := mTmps_ok hs h1 M hr hu
        obtain ⟨⟨Z2, pl2, seg2, S2, o2, r2, l2, q2⟩, c2, d2⟩ := mObs_ok h2 S1.mem l1
        obtain ⟨nd1, nd2⟩ := nodupB_ok hn
        refine ⟨Z2, pl2, S1.trans S2, fun j o hj => r2 j o (r1 j o hj), l2, fun j o hj => ⟨by rw [← len_eq]; exact (nd1 j o (get_mem hj)).1, liveB_ok hl j o (get_mem hj)⟩, fun j j' o h1 h2 => nd2 j j' o (get_mem h1) (get_mem h2),
          fun o ro ls hg => c2 o ro ls (c1 o ro ls hg), fun o b hg hl => (d2 o b hg hl).elim (fun h => d1 o b h hl) (fun h => .inr (Nat.le_trans S1.ext.hn h)), fun f pl3 nx3 hf => ?_⟩
        have hout : m2.out.reverse = seg1 ++ seg2 := by rw [o2, o1]; simp
        obtain ⟨tm', e1, k1, k2⟩ := q1 f pl3 nx3 (hf.back r2 l1 S2.ext.hp) seg2
        obtain ⟨os, e2, k3⟩ := q2 f pl3 nx3 hf []
        rw [List.append_nil] at e2
        exact ⟨tm', seg2, os, by rw [hout]; exact e1, e2, fun t d hg => (k1 t d hg).mono (Ext.here S2.ext.hZ S2.ext.hw), k2, k3⟩
      · cases h
    · cases h
  · cases h

/-- Names as the pattern has them. -/
def renF (ren : List (Nat × Nat)) (pl : Nat → Value) (j : Nat) : Value := match get ren j with | some o => pl o | none => undef
theorem renF_some {ren : List (Nat × Nat)} {pl : Nat → Value} {j o : Nat} (h : get ren j = some o) : renF ren pl j = pl o := by simp [renF, h]
theorem OsOK.get_id {base : Nat} {ren : List (Nat × Nat)} {pl2 : Nat → Value} {nx2 : Nat} {oF : List (Nat × Ob G)} : ∀ {j : Nat} {ps : List POb} {os : List (Nat × Ob G)}, OsOK W base Z w pl ren (fun j => j) pl2 nx2 oF j ps os →
    ∀ n b, get os n = some b → j ≤ n ∧ n < j + ps.length ∧ ObOK Z w pl2 nx2 n b ∧ live b = true ∧ ∃ o, get ren n = some o ∧ (∀ k, bk (pl o) = some k → Own base W b k) ∧ (∀ e t x, b = .tr e t x → ∀ b', get oF o = some b' → live b' = true → b' = b) ∧ ∀ e t x i off o2, b ≠ .fo e t x i off o2
  | j, [], _, h, n, b, hg => by rw [show _ = _ from h] at hg; simp [get] at hg
  | j, p :: ps, _, ⟨ob, os', e, h1, h2, h3, h4, h5⟩, n, b, hg => by
    rw [e, get_cons] at hg
    split at hg
    · rename_i ee
      have ee : j = n := ee
      injection hg with hg
      subst ee hg
      obtain ⟨o, h6, h7, h8⟩ := h4
      refine ⟨Nat.le_refl _, by rw [List.length_cons]; omega, h1, h2, o, h6, h7, h8, fun e t x i off o2 e' => ?_⟩
      subst e'
      cases p with
      | cells ro pl' => obtain ⟨_, h3, _⟩ := h3; cases h3
      | arr e t => obtain ⟨_, h3⟩ := h3; cases h3
      | ow kp tree e t => cases tree <;> (obtain ⟨_, h3⟩ := h3; cases h3)
    · obtain ⟨a, b', c⟩ := OsOK.get_id h5 n b hg
      exact ⟨by omega, by rw [List.length_cons]; omega, c⟩
/-- The blocks behind a pattern's objects. -/
def renT (ren : List (Nat × Nat)) (os : List (Nat × Ob G)) (f : Nat → List Nat) (j : Nat) : List Nat :=
  match get os j with
  | some (.tr _ _ _) => match get ren j with | some o => f o | none => []
  | _ => []
theorem inst_mem {W1 : Rights} {w1 : World} {ren : List (Nat × Nat)} {ps : List POb} {os : List (Nat × Ob G)} (M : Mem W w0 Z pl objs nx w)
    (hos : OsOK W w0.heap.size Z w pl ren (fun j => j) (renF ren pl) ps.length objs 0 ps os) {f : Nat → List Nat} (T : TrOK W w0.heap.size Z pl objs nx w f)
    (hownT : ∀ j e t x o k, get os j = some (.tr e t x) → get ren j = some o → k ∈ f o → w1.heap.size ≤ k ∨ ∀ i, W1 k i) (inj : ∀ j j' o, get ren j = some o → get ren j' = some o → j = j')
    (lv : ∀ j o, get ren j = some o → j < ps.length ∧ ∃ b, get objs o = some b ∧ live b = true)
    (hown : ∀ j b k, get os j = some b → bk (renF ren pl j) = some k → Own w1.heap.size W1 b k) (hf : Fr W1 w1.heap.size w1 w)
    (hzn : ∀ b i, Z b i → W1.z0 b i ∨ w1.heap.size ≤ b ∨ ∀ j, W1 b j) (hz0 : ∀ b i, W1.z0 b i → Z b i) (hfx : ∀ j, j ∈ W1.fix → j < ps.length ∧ renF ren pl j = W1.pl0 j) :
    TrOK W1 w1.heap.size Z (renF ren pl) os ps.length w (renT ren os f) ∧ Mem W1 w1 Z (renF ren pl) os ps.length w := by
  have memT : ∀ j k, k ∈ renT ren os f j → ∃ e t x o, get os j = some (.tr e t x) ∧ get ren j = some o ∧ k ∈ f o := by
    intro j k hk
    unfold renT at hk
    split at hk
    · rename_i e t x hg
      split at hk
      · rename_i o ho; exact ⟨e, t, x, o, hg, ho, hk⟩
      · cases hk
    · cases hk
  have TT : TrOK W1 w1.heap.size Z (renF ren pl) os ps.length w (renT ren os f) := {
    rep := fun j b hg => by
      obtain ⟨_, _, _, hl, o, ho, _, h8, h9⟩ := hos.get_id j b hg
      cases b with
      | tr e t x =>
        obtain ⟨_, b', hb', lb'⟩ := lv j o ho
        have := h8 e t x rfl b' hb' lb'
        subst this
        obtain ⟨vs, k1, k2⟩ := T.rep o _ hb'
        refine ⟨vs, by rw [renF_some ho]; exact k1, ?_⟩
        unfold renT
        rw [hg]
        simp only [ho]
        exact k2
      | fo e t x i off o2 => exact absurd rfl (h9 e t x i off o2)
      | _ => trivial
    nd := fun j => by
      unfold renT
      split
      · split
        · exact T.nd _
        · exact List.nodup_nil
      · exact List.nodup_nil
    sep := fun j j' k h1 h2 => by
      obtain ⟨_, _, _, o, _, ho, h1⟩ := memT j k h1
      obtain ⟨_, _, _, o', _, ho', h2⟩ := memT j' k h2
      have := T.sep o o' k h1 h2
      subst this
      exact inj j j' o ho ho'
    root := fun j k j' b h1 hg hl hb => by
      obtain ⟨_, _, _, o, _, ho, h1⟩ := memT j k h1
      obtain ⟨o', ho', _⟩ := (hos.get_id j' b hg).2.2.2.2
      rw [renF_some ho'] at hb
      obtain ⟨_, c, hc, lc⟩ := lv j' o' ho'
      exact T.root o k o' c h1 hc lc hb
    own := fun j k h1 => by
      obtain ⟨e, t, x, o, hg, ho, h1⟩ := memT j k h1
      exact hownT j e t x o k hg ho h1
    zfar := fun j k h1 => by
      obtain ⟨_, _, _, o, _, _, h1⟩ := memT j k h1
      exact T.zfar o k h1
    lt := fun j k h1 => by
      obtain ⟨_, _, _, o, _, _, h1⟩ := memT j k h1
      exact T.lt o k h1 }
  refine ⟨TT, ?_⟩
  exact {
    lt := fun o b hg => by have := (hos.get_id o b hg).2.1; omega
    ob := fun o b hg => (hos.get_id o b hg).2.2.1
    sep := fun j j' b b' k hg hl hg' hl' hk hk' => by
      obtain ⟨o, ho, _⟩ := (hos.get_id j b hg).2.2.2.2
      obtain ⟨o', ho', _⟩ := (hos.get_id j' b' hg').2.2.2.2
      rw [renF_some ho] at hk
      rw [renF_some ho'] at hk'
      obtain ⟨_, c, hc, lc⟩ := lv j o ho
      obtain ⟨_, c', hc', lc'⟩ := lv j' o' ho'
      have := M.sep o o' c c' k hc lc hc' lc' hk hk'
      subst this
      exact inj j j' o ho ho'
    own := fun j b k hg hl hk => hown j b k hg hk
    zfar := fun j b k hg hl hk => by
      obtain ⟨o, ho, _⟩ := (hos.get_id j b hg).2.2.2.2
      rw [renF_some ho] at hk
      obtain ⟨_, c, hc, lc⟩ := lv j o ho
      exact M.zfar o c k hc lc hk
    zlt := M.zlt
    zn := hzn
    z0 := hz0
    fx := hfx
    fr := hf
    tr := ⟨_, TT⟩ }
theorem renF_fit {ren : List (Nat × Nat)} {n : Nat} (lv : ∀ j o, get ren j = some o → j < n) : Fit pl ren (fun j => j) (renF ren pl) n := fun j o hj => ⟨lv j o hj, renF_some hj⟩

theorem idRen_get : ∀ {l : List Nat} {j : Nat}, j ∈ l → get (idRen l) j = some j
  | k :: l, j, h => by
    simp only [idRen]
    rw [get_cons]
    split
    · rename_i e; rw [e]
    · rename_i e
      rcases List.mem_cons.1 h with h | h
      · exact absurd h.symm e
      · exact idRen_get h
theorem idRen_lt {nx : Nat} {l : List Nat} (h : ∀ j, j ∈ l → j < nx) : RenLt (idRen l) nx := by
  intro j o hj
  have : ∀ (l : List Nat), get (idRen l) j = some o → o = j ∧ j ∈ l := by
    intro l
    induction l with
    | nil => intro h; simp [idRen, get] at h
    | cons k l ih =>
      intro h
      simp only [idRen] at h
      rw [get_cons] at h
      split at h
      · rename_i e; injection h with h; subst h; exact ⟨e, by rw [e]; exact List.mem_cons_self⟩
      · exact ⟨(ih h).1, List.mem_cons_of_mem _ (ih h).2⟩
  obtain ⟨e, hm⟩ := this l hj
  rw [e]
  exact h j hm
/-- A state that matches a pattern is the pattern's state. -/
theorem Matched.inst {p : Pat} {L : St G} {m : MS G} {val : Nat → Value} {Z' : Nat → Nat → Prop} {pl' : Nat → Value} (H : Matched W w0 w Z pl p (idRen W.fix) L m val Z' pl') :
    Mem W w0 Z' (renF m.ren pl') (instP p m.out).objs (instP p m.out).nx w ∧ (∀ t d, get (instP p m.out).tmps t = some d → DVOK Z' w (renF m.ren pl') (instP p m.out).nx d (val t)) := by
  obtain ⟨tm', r, os, e1, e2, k1, _, k2⟩ := H.told (fun j => j) (renF m.ren pl') p.objs.length (renF_fit (fun j o hj => (H.bnd j o hj).1))
  have e : instP p m.out = ⟨tm', os, len p.objs⟩ := by simp only [instP, e1, e2]
  rw [e, len_eq]
  obtain ⟨f, T⟩ := H.step.mem.tr
  refine ⟨(inst_mem H.step.mem k2 T (fun j e t x o k _ _ hk => T.own o k hk) H.inj H.bnd (fun j b k hg hk => ?_) H.step.mem.fr H.step.mem.zn H.step.mem.z0 (fun j hj => ?_)).2, k1⟩
  · obtain ⟨o, ho, hown, _⟩ := (k2.get_id j b hg).2.2.2.2
    rw [renF_some ho] at hk
    exact hown k hk
  · have hr := H.le j j (idRen_get hj)
    exact ⟨(H.bnd j j hr).1, (renF_some hr).trans (H.step.mem.fx j hj).2⟩

theorem toHLc_ofHLc : ∀ (ts : List Ty) (t : Ty) (vs : List (TV G)) (h : HLc G.S t ts), toHLc ts t vs = some h → ofHLc ts t h = vs := by
  intro ts
  induction ts with
  | nil =>
    intro t vs h e
    simp only [toHLc] at e
    split at e
    · split at e
      · simp only [ofHLc, castTo_eq e]
      · cases e
    · cases e
  | cons t' ts ih =>
    intro t vs h e
    simp only [toHLc] at e
    split at e
    · split at e
      · rename_i x hx
        split at e
        · rename_i h' hh
          injection e with e
          subst e
          simp only [ofHLc, ih t' _ h' hh, castTo_eq hx]
        · cases e
      · cases e
    · cases e
theorem toHL_ofHL {ts : List Ty} {vs : List (TV G)} {h : HL G.S ts} (e : toHL ts vs = some h) : ofHL ts h = vs := by
  cases ts with
  | nil =>
    simp only [toHL] at e
    split at e
    · rfl
    · cases e
  | cons t ts => exact toHLc_ofHLc ts t vs h e

/-- The parts of what a call gives back. -/
def compV (n : Nat) (v : Value) (t : Nat) : Value := if n = 1 then v else match v with | .tuple vs => vs.getD t undef | _ => undef

/-- What calling a function comes to: at once a value, or its own code. -/
def Runs (P : Program) (f : FuncId) (args : Array Value) (w : World) (R : Value → World → Prop) : Prop :=
  (∃ v w', (callFunc f args).run P w = .ok (.value v) w' ∧ R v w') ∨ ((callFunc f args).run P w = .ok (.enter f args) w ∧ Calls P f args w fun e w' => ∃ v, e = .returned v ∧ R v w')
theorem Runs.mono {P : Program} {f : FuncId} {args : Array Value} {w : World} {R R' : Value → World → Prop} (h : Runs P f args w R) (hr : ∀ v w', R v w' → R' v w') : Runs P f args w R' := by
  rcases h with ⟨v, w', h1, h2⟩ | ⟨h1, h2⟩
  · exact .inl ⟨v, w', h1, hr _ _ h2⟩
  · exact .inr ⟨h1, h2.mono fun e w' ⟨v, e1, q⟩ => ⟨v, e1, hr _ _ q⟩⟩
def brOK (c : Ct G) : Bool := match noArr c.ip.objs, brAll G c.ots c.rp with | true, true => true | _, _ => false
/-- A contract holds: from a state that its pattern tells the function comes back, with what its plain function gives, in a state that its other pattern tells. -/
structure Ct.Holds (P : Program) (f : FuncId) (c : Ct G) : Prop where
  wf : okIO c.ip.objs c.rp.objs = true
  keys : keysOK 0 c.rp.tmps = true
  brw : c.br = true → brOK c = true
  run : ∀ (Wr : Nat → Nat → Prop) (Z : Nat → Nat → Prop) (pl : Nat → Value) (w : World) (args : Array Value) (h : HL G.S c.its) (r : HL G.S c.ots), c.F h = some r →
    args.size = c.ip.tmps.length →
    (∀ t d, get (instP c.ip (ofHL c.its h)).tmps t = some d → DVOK Z w pl (instP c.ip (ofHL c.its h)).nx d (args.getD t undef)) →
    Mem ⟨Wr, Z, fixOf 0 c.ip.objs, pl⟩ w Z pl (instP c.ip (ofHL c.its h)).objs (instP c.ip (ofHL c.its h)).nx w →
    Runs P f args w fun v w' => ∃ Z' pr,
      (∀ t d, get (instP c.rp (ofHL c.ots r)).tmps t = some d → DVOK Z' w' pr (instP c.rp (ofHL c.ots r)).nx d (compV c.rp.tmps.length v t)) ∧
      (c.rp.tmps.length = 1 ∨ ∃ vs : List Value, v = .tuple vs.toArray ∧ vs.length = c.rp.tmps.length) ∧
      Mem ⟨Wr, Z, fixOf 0 c.ip.objs, pl⟩ w Z' pr (instP c.rp (ofHL c.ots r)).objs (instP c.rp (ofHL c.ots r)).nx w'
/-- An object that is given back where it was. -/
def isFix : POb → Bool
  | .cells _ _ => true
  | .ow true _ _ _ => true
  | _ => false
theorem fixOf_mem : ∀ {ps : List POb} {j k : Nat}, k ∈ fixOf j ps ↔ ∃ i p, k = j + i ∧ ps[i]? = some p ∧ isFix p = true
  | [], j, k => by simp [fixOf]
  | p :: ps, j, k => by
    have key : k ∈ fixOf j (p :: ps) ↔ ((isFix p = true ∧ k = j) ∨ k ∈ fixOf (j + 1) ps) := by
      cases p with
      | cells ro l => simp [fixOf, isFix]
      | arr e t => simp [fixOf, isFix]
      | ow kp tree e t => cases kp <;> simp [fixOf, isFix]
    rw [key, fixOf_mem (ps := ps)]
    constructor
    · rintro (⟨h, e⟩ | ⟨i, q, h1, h2, h3⟩)
      · exact ⟨0, p, by omega, rfl, h⟩
      · exact ⟨i + 1, q, by omega, by simpa using h2, h3⟩
    · rintro ⟨i, q, h1, h2, h3⟩
      cases i with
      | zero => injection h2 with h2; subst h2; exact .inl ⟨h3, by omega⟩
      | succ i => exact .inr ⟨i, q, by omega, by simpa using h2, h3⟩
end Go.Proofs.YtmcbhnbemhfifaaDoor.RX
