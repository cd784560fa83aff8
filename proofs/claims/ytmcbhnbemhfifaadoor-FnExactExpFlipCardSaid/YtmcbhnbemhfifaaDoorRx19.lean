/- Code and functions: what the evaluator answers the function answers. Conditions: SigOK, TabOK, the contracts of what is called, the places told by patterns. -/
import Derived.Test.YtmcbhnbemhfifaaDoorRxL
namespace Go.Proofs.YtmcbhnbemhfifaaDoor.RX
open Go Go.RowKit
set_option autoImplicit false
variable {G : Sig} {R : Type} {P : Program} {W : Rights} {w0 w w' : World} {Z Z' : Nat → Nat → Prop} {pl pl' : Nat → Value} {N : Nat}
variable {o : Oper} {L : St G} {K : St G → Option R} {r : R} {a : Act} {next : Act → World → Prop} {Q : Exit → Act → World → Prop}

theorem tmp_bool {a : Act} {t : Nat} {b : Bool} (h : a.tmps.getD t undef = .bool b) : a.tmps[t]? = some (.bool b) := by
  rw [Array.getD_eq_getD_getElem?] at h
  cases hh : a.tmps[t]? with
  | none => rw [hh] at h; cases h
  | some v => rw [hh] at h; simp only [Option.getD_some] at h; rw [h]
/-- One operation, its guard looked at: 'X' is what is to be shown of it where it is wanted. -/
theorem semG_ok {E : Env G R} (all : List Oper) {o : Oper} {K : St G → Option R} {L : St G} {a : Act} {w : World} {Z : Nat → Nat → Prop} {pl : Nat → Value} {next : Act → World → Prop} {X : Prop}
    (h : semG E all o L K = some r) (S : Sat E.N W w0 Z pl L a w) (hK : Then E W w0 K r next) (hX : ∀ L, semOp E o L K = some r → Sat E.N W w0 Z pl L a w → X) :
    (Region.wanted o (yielded all.toArray a.tmps) = true → X) ∧ (Region.wanted o (yielded all.toArray a.tmps) = false → next (a.put o.dst undef) w) := by
  unfold semG at h
  split at h
  · rename_i hg
    refine ⟨fun _ => hX L h S, fun hw => ?_⟩
    simp only [Region.wanted, hg] at hw
    cases hw
  · rename_i j want hg
    have hwant : Region.wanted o (yielded all.toArray a.tmps) = (yielded all.toArray a.tmps j == some want) := by simp only [Region.wanted, hg]
    rw [hwant]
    split at h
    · rename_i oj hj
      split at h
      · rename_i t hdt
        rw [nth_eq] at hj
        have hyb : ∀ b, a.tmps.getD t undef = .bool b → yielded all.toArray a.tmps j = some b := by
          intro b hb
          simp only [yielded, List.getElem?_toArray, hj, Option.bind_some, hdt, tmp_bool hb]
        have hyu : a.tmps.getD t undef = undef → yielded all.toArray a.tmps j = none := by
          intro hu
          rw [Array.getD_eq_getD_getElem?] at hu
          simp only [yielded, List.getElem?_toArray, hj, Option.bind_some, hdt]
          cases hh : a.tmps[t]? with
          | none => rfl
          | some v => rw [hh] at hu; simp only [Option.getD_some] at hu; rw [hu]; rfl
        split at h
        · rename_i s hst
          obtain ⟨b, hb, h1, h2⟩ := condK_ok h (S.tm t _ hst)
          rw [hyb b hb]
          cases b with
          | true =>
            have h1 := h1 rfl
            cases want with
            | true => exact ⟨fun _ => hX _ h1 (S.know t true hb), fun hw => absurd hw (by decide)⟩
            | false => exact ⟨fun hw => absurd hw (by decide), fun _ => out_ok h1 (S.know t true hb) (show DVOK _ _ _ _ DV.und undef from rfl) hK⟩
          | false =>
            have h2 := h2 rfl
            cases want with
            | false => exact ⟨fun _ => hX _ h2 (S.know t false hb), fun hw => absurd hw (by decide)⟩
            | true => exact ⟨fun hw => absurd hw (by decide), fun _ => out_ok h2 (S.know t false hb) (show DVOK _ _ _ _ DV.und undef from rfl) hK⟩
        · rename_i hst
          rw [hyu (S.tm t _ hst)]
          exact ⟨fun hw => (by cases want <;> exact absurd hw (by decide)), fun _ => out_ok h S (show DVOK _ _ _ _ DV.und undef from rfl) hK⟩
        · cases h
      · cases h
    · cases h
theorem semOps_ok {E : Env G R} (hs : SigOK G) (ht : TabOK P G) (hct : ∀ f c, E.ct f = some c → c.Holds P f) (all : List Oper) : ∀ (l : List Oper) {L : St G} {a : Act} {w : World} {Z : Nat → Nat → Prop} {pl : Nat → Value},
    semOps E all l L K = some r → Sat E.N W w0 Z pl L a w → Then E W w0 K r (fun a' w' => Q .normal a' w') → wpList P all.toArray Q l a w
  | [], L, a, w, Z, pl, h, S, hK => wpList_nil (hK L a w Z pl h S)
  | o :: l, L, a, w, Z, pl, h, S, hK => by
    have rest : ∀ (K' : Act → World → Prop), (∀ a w, wpList P all.toArray Q l a w → K' a w) → Then E W w0 (fun L' => semOps E all l L' K) r K' :=
      fun K' hK' L' a' w' Z' pl' h' S' => hK' a' w' (semOps_ok hs ht hct all l h' S' hK)
    simp only [semOps] at h
    refine wpList_step fun K' hK' => ?_
    obtain ⟨h1, h2⟩ := semG_ok (X := o.wp P a w K' Q) all h S (rest K' hK') (fun L' h' S' => semOp_ok hs ht hct h' S' (rest K' hK'))
    cases hw : Region.wanted o (yielded all.toArray a.tmps) with
    | true => rw [if_pos rfl]; exact h1 hw
    | false => rw [if_neg (by decide)]; exact h2 hw
theorem semG_step {E : Env G R} (hs : SigOK G) (ht : TabOK P G) (hct : ∀ f c, E.ct f = some c → c.Holds P f) (all : List Oper) {o : Oper} {i : Nat} (hi : all[i]? = some o) {K : St G → Option R} {L : St G} {a : Act} {w : World} {Z : Nat → Nat → Prop} {pl : Nat → Value} {next : Act → World → Prop}
    (h : semG E all o L K = some r) (S : Sat E.N W w0 Z pl L a w) (hK : Then E W w0 K r next) : stepX G P all Q i next a w := by
  unfold stepX
  rw [hi]
  simp only
  obtain ⟨h1, h2⟩ := semG_ok all h S hK (X := match kd G o.op with | 0 => o.wp P a w next Q | 1 => o.rd P a w next | _ => o.pu P a w next) (fun L' h' S' => by
    split
    · exact semOp_ok hs ht hct h' S' hK
    · rename_i hk; exact semOp_rd ht hs (by rw [hk]; rfl) h' S' hK
    · rename_i n0 n1
      refine semOp_pu ht hs ?_ h' S' hK
      have n0 : kd G o.op ≠ 0 := n0
      have n1 : kd G o.op ≠ 1 := n1
      have : kd G o.op ≤ 2 := by
        unfold kd
        split <;> first | decide | (split <;> decide)
      rw [show kd G o.op = 2 by omega]
      rfl)
  cases hw : Region.wanted o (yielded all.toArray a.tmps) with
  | true => exact h1 hw
  | false => exact h2 hw
theorem tails_mem {i : Nat} {q : List Nat} : ∀ {ps : List (List Nat)}, q ∈ tails i ps → i :: q ∈ ps
  | [], h => by simp [tails] at h
  | [] :: ps, h => by simp only [tails] at h; exact List.mem_cons_of_mem _ (tails_mem h)
  | (j :: p) :: ps, h => by
    unfold tails at h
    split at h
    · rename_i e
      have e := Nat.eq_of_beq_eq_true e
      subst e
      rcases List.mem_cons.1 h with h | h
      · subst h; exact List.mem_cons_self
      · exact List.mem_cons_of_mem _ (tails_mem h)
    · exact List.mem_cons_of_mem _ (tails_mem h)
theorem hasNil_mem : ∀ {ps : List (List Nat)}, hasNil ps = true → [] ∈ ps
  | [], h => by simp [hasNil] at h
  | [] :: _, _ => List.mem_cons_self
  | (_ :: _) :: _, h => by unfold hasNil at h; exact List.mem_cons_of_mem _ (hasNil_mem h)
theorem waysB_nil {ops : List Oper} : ∀ {n : Nat} {m : List Nat}, waysB G ops n m [] = true → False
  | 0, m, h => by unfold waysB at h; split at h <;> simp [hasNil] at h
  | n + 1, m, h => by unfold waysB at h; split at h <;> simp [hasNil] at h
theorem eachB_ok {f : Nat → Bool} : ∀ {is : List Nat}, eachB f is = true → ∀ i ∈ is, f i = true
  | [], _, i, hi => by cases hi
  | j :: is, h, i, hi => by
    unfold eachB at h
    split at h
    · rename_i hj
      rcases List.mem_cons.1 hi with e | e
      · subst e; exact hj
      · exact eachB_ok h i e
    · cases h
theorem Sat.drew {L : St G} {a : Act} {w : World} {Z : Nat → Nat → Prop} {pl : Nat → Value} (S : Sat N W w0 Z pl L a w) (d : Nat) : Sat N W w0 Z pl L a { w with drawn := d } :=
  have X : Ext Z w pl L.nx Z { w with drawn := d } pl L.nx := ⟨Nat.le_refl _, fun _ _ => rfl, fun _ _ h => h, fun _ _ _ => rfl⟩
  S.at X (S.mem.keep X (fun o b k hg hl hk => ⟨rfl, fun i => S.mem.zfar o b k hg hl hk i⟩) (fun b i hz => S.mem.zlt b i hz) (fun b i hz => .inl hz)
    ⟨rfl, rfl, rfl, Nat.le_refl _, fun _ _ _ => rfl, fun _ cs _ _ _ _ h => ⟨cs, h, rfl, fun _ _ => rfl⟩⟩ (S.mem.tr.elim fun f T => ⟨f, T, fun o k hk => ⟨rfl, T.zfar o k hk⟩⟩)) rfl
/-- Enough orders are enough. -/
theorem ways_ok {E : Env G R} (hs : SigOK G) (ht : TabOK P G) (hct : ∀ f c, E.ct f = some c → c.Holds P f) (ops : List Oper) (hsel : ∀ (j : Nat) (o : Oper) cs b, ops[j]? = some o → o.op ≠ .select cs b)
    (hQ : ∀ c a d v w, Q (.panic c) (a.put d v) w → Q (.panic c) a w) (hK : Then E W w0 K r (fun a' w' => Q .normal a' w')) : ∀ (n : Nat) (m : List Nat) (ps : List (List Nat)) (L : St G) (a : Act) (w : World) (Z : Nat → Nat → Prop) (pl : Nat → Value),
    waysB G ops n m ps = true → (∀ p ∈ ps, semS E ops p L K = some r) → Sat E.N W w0 Z pl L a w → AnyX G P ops Q n m a w := by
  have nilcase : ∀ (ps : List (List Nat)) (L : St G) (a : Act) (w : World) (Z : Nat → Nat → Prop) (pl : Nat → Value), hasNil ps = true → (∀ p ∈ ps, semS E ops p L K = some r) → Sat E.N W w0 Z pl L a w → Q .normal a w :=
    fun ps L a w Z pl h hp S => hK L a w Z pl (hp [] (hasNil_mem h)) S
  intro n
  induction n with
  | zero =>
    intro m ps L a w Z pl h hp S
    unfold waysB at h
    split at h
    · rename_i hr; exact ⟨hr, nilcase ps L a w Z pl h hp S⟩
    · cases h
  | succ n ih =>
    intro m ps L a w Z pl h hp S
    have one : ∀ i, i ∈ readyL m 0 ops → waysB G ops n (i :: m) (tails i ps) = true → stepX G P ops Q i (AnyX G P ops Q n (i :: m)) a w := by
      intro i hi hw
      obtain ⟨_, o, ho, _⟩ := mem_ready0.1 hi
      cases hq : tails i ps with
      | nil => rw [hq] at hw; exact (waysB_nil hw).elim
      | cons q qs =>
        have hall : ∀ x ∈ q :: qs, semG E ops o L (fun L' => semS E ops x L' K) = some r := by
          intro x hx
          have := hp (i :: x) (tails_mem (by rw [hq]; exact hx))
          simp only [semS, nth_eq, ho] at this
          exact this
        have comb := semG_all (f := fun x L' => semS E ops x L' K) L q qs hall
        refine semG_step hs ht hct ops ho comb S ?_
        intro L' a' w' Z' pl' hk S'
        simp only at hk
        split at hk
        · rename_i hk'
          exact ih (i :: m) (tails i ps) L' a' w' Z' pl' hw (by rw [hq]; exact hk') S'
        · cases hk
    unfold waysB at h
    split at h
    · rename_i hr
      exact ⟨fun _ => nilcase ps L a w Z pl h hp S, fun i hi => by rw [hr] at hi; cases hi⟩
    · rename_i r0 rs hr
      have each : eachB (fun i => waysB G ops n (i :: m) (tails i ps)) (r0 :: rs) = true → AnyX G P ops Q (n + 1) m a w := fun he =>
        ⟨fun h0 => (by rw [hr] at h0; cases h0), fun i hi => one i hi (eachB_ok he i (by rw [← hr]; exact hi))⟩
      split at h
      · rename_i i _ _
        split at h
        · rename_i h1 h2
          split at h
          · cases h
          · rename_i q qs hq
            have hi : i ∈ readyL m 0 ops := by rw [hr]; exact hasN_if.1 h2
            exact AnyX_take h1 hi hsel hQ (one i hi (by rw [hq]; exact h))
        · exact each h
      · cases h
/-- Of each region whose order is drawn, the orders given are enough. -/
def ordsB (G : Sig) (ords : List (Nat × List (List Nat))) : Code → Bool
  | .region id ops true => match get ords id with
    | some ps => match waysB G ops.toList ops.toList.length [] ps, Region.noSelect ops with | true, true => true | _, _ => false
    | none => false
  | .seq a b => match ordsB G ords a with | true => ordsB G ords b | false => false
  | .cond _ a b => match ordsB G ords a with | true => ordsB G ords b | false => false
  | .block _ a => ordsB G ords a
  | .loop a => ordsB G ords a
  | _ => true

/-- A place told by a pattern is told rightly. -/
def PtGood (E : Nat → Env G R) (p : Pt G R) (c : Cut G R) : Prop :=
  match p.kd with
  | .loop => (∀ h, c.g 0 h = none) ∧ ∀ k h, c.g (k + 1) h = semP E p k (instP c.pat (ofHL c.ts h))
  | _ => ∀ k h, c.g k h = semP E p k (instP c.pat (ofHL c.ts h))
def AllGood (E : Nat → Env G R) (l : List (Pt G R)) : Prop := ∀ p ∈ l, ∀ c, cutOf E p = some c → PtGood E p c
/-- Environments of one function: alike but for the rounds left. -/
structure Fam (P : Program) (W : Rights) (E : Nat → Env G R) : Prop where
  N : ∀ k, (E k).N = (E 0).N
  k : ∀ k, (E k).k = k
  pre : ∀ k, (E k).pre = W.fix
  loops : ∀ k, (E k).loops = (E 0).loops
  joins : ∀ k, (E k).joins = (E 0).joins
  ords : ∀ k, (E k).ords = (E 0).ords
theorem drawPts_mem {id : Nat} {c : Code} {Kf : Nat → Ex → St G → Option R} : ∀ {ps : List (List Nat)} {p : List Nat}, p ∈ ps → (⟨.draw p, some id, c, Kf⟩ : Pt G R) ∈ drawPts id c Kf ps
  | q :: ps, p, h => by
    unfold drawPts
    rcases List.mem_cons.1 h with e | e
    · subst e; exact List.mem_cons_self
    · exact List.mem_cons_of_mem _ (drawPts_mem e)
def PostQ (Q : Exit → Act → World → Prop) : Ex → Act → World → Prop
  | .nrm => Q .normal
  | .exit i => Q (.exit i)
  | .ret => Q .ret
theorem go_ok (hs : SigOK G) {E : Nat → Env G R} (F : Fam P W E) {k : Nat} {c : Cut G R} (h : c.go (E k).pre k L = some r) (S : Sat N W w0 Z pl L a w) :
    ∃ hh Z' pl', c.g k hh = some r ∧ Sat N W w0 Z' pl' (instP c.pat (ofHL c.ts hh)) a w := by
  simp only [Cut.go] at h
  split at h
  · rename_i m hm
    split at h
    · rename_i hh hhl
      rw [F.pre] at hm
      obtain ⟨Z', pl', H⟩ := matchP_ok hs hm S.closeAll.mem (idRen_lt (fun j hj => (S.closeAll.mem.fx j hj).1)) (val := fun t => a.tmps.getD t undef) S.closeAll.tm
      obtain ⟨m1, m2⟩ := H.inst
      have e := toHL_ofHL hhl
      refine ⟨hh, Z', renF m.ren pl', h, ?_⟩
      rw [e]
      exact ⟨S.size, S.defers, m2, m1⟩
    · cases h
  · cases h
theorem semC_ok (hs : SigOK G) (ht : TabOK P G) (hm : P.follows .mixedOrders = true) {E : Nat → Env G R} (F : Fam P W E) (r : R) : ∀ (code : Code) (k : Nat) (hct : ∀ j, j ≤ k → ∀ f c, (E j).ct f = some c → c.Holds P f) (Kf : Nat → Ex → St G → Option R) (Q : Exit → Act → World → Prop) (L : St G) (a : Act) (w : World) (Z : Nat → Nat → Prop) (pl : Nat → Value),
    semC (E k) code L (Kf k) = some r → Sat (E 0).N W w0 Z pl L a w → AllGood E (ptsOf E code Kf) → ordsB G (E 0).ords code = true → (∀ c a d v w, Q (.panic c) (a.put d v) w → Q (.panic c) a w) →
    (∀ k', k' ≤ k → ∀ e L' a' w' Z' pl', Kf k' e L' = some r → Sat (E 0).N W w0 Z' pl' L' a' w' → PostQ Q e a' w') → code.wp P Q a w := by
  intro code
  induction code with
  | skip => exact fun k hct Kf Q L a w Z pl h S _ _ _ hK => wp_skip (hK k (Nat.le_refl _) .nrm L a w Z pl h S)
  | exit id => exact fun k hct Kf Q L a w Z pl h S _ _ _ hK => wp_exit (hK k (Nat.le_refl _) (.exit id) L a w Z pl h S)
  | ret => exact fun k hct Kf Q L a w Z pl h S _ _ _ hK => wp_ret (hK k (Nat.le_refl _) .ret L a w Z pl h S)
  | region id ops draw =>
    intro k hct Kf Q L a w Z pl h S hg ho hQ hK
    cases draw with
    | true =>
      simp only [ordsB] at ho
      split at ho
      · rename_i ps hps
        split at ho
        · rename_i hw hsel
          have go : ∀ (L : St G) (Z : Nat → Nat → Prop) (pl : Nat → Value), (∀ p ∈ ps, semS (E k) ops.toList p L (Kf k .nrm) = some r) → Sat (E 0).N W w0 Z pl L a w → (Code.region id ops true).wp P Q a w := by
            intro L Z pl hp S
            have := wp_region_X (id := id) (ops := ops.toList) hm (ways_ok (Q := Q) hs ht (hct k (Nat.le_refl _)) ops.toList (fun j o cs b hj => Region.noSelect_spec hsel j o cs b (by rw [← hj]; exact Array.getElem?_toList.symm)) hQ (fun L' a' w' Z' pl' h' S' => hK k (Nat.le_refl _) .nrm L' a' w' Z' pl' h' (by rw [F.N] at S'; exact S')) ops.toList.length [] ps L a _ Z pl hw hp (by rw [F.N]; exact S.drew (w.drawn + 1)))
            simpa using this
          simp only [semC, F.ords, hps] at h
          split at h
          · rename_i p hp
            injection hp with hp
            subst hp
            exact go L Z pl (fun q hq => by rw [List.mem_singleton.1 hq]; exact h) S
          · rename_i p q qs hp
            injection hp with hp
            subst hp
            split at h
            · rename_i c hc
              rw [F.k] at h
              obtain ⟨hh, Z2, pl2, g1, g2⟩ := go_ok hs F h S
              refine go _ Z2 pl2 (fun x hx => ?_) g2
              have := hg ⟨.draw x, some (id + 100000), .region id ops true, Kf⟩ (by simp only [ptsOf, hps]; exact drawPts_mem hx) c (by rw [F.joins] at hc; exact hc)
              have this : ∀ k h, c.g k h = semS (E k) ops.toList x (instP c.pat (ofHL c.ts h)) (Kf k .nrm) := this
              rw [← this]
              exact g1
            · cases h
          · cases h
        · cases ho
      · cases ho
    | false =>
      simp only [semC] at h
      refine wp_region_list ?_
      have := semOps_ok (Q := Q) hs ht (hct k (Nat.le_refl _)) ops.toList ops.toList h (by rw [F.N]; exact S) (fun L' a' w' Z' pl' h' S' => hK k (Nat.le_refl _) .nrm L' a' w' Z' pl' h' (by rw [F.N] at S'; exact S'))
      simpa using this
  | seq x y ihx ihy =>
    intro k hct Kf Q L a w Z pl h S hg ho hQ hK
    simp only [semC] at h
    obtain ⟨ho1, ho2⟩ : ordsB G (E 0).ords x = true ∧ ordsB G (E 0).ords y = true := by
      simp only [ordsB] at ho
      split at ho
      · rename_i h1; exact ⟨h1, ho⟩
      · cases ho
    refine wp_seq (ihx k hct (fun k => seqK (E k) y (fun L' => semC (E k) y L' (Kf k)) (Kf k)) _ L a w Z pl h S (fun p hp => hg p (by simp only [ptsOf]; exact List.mem_cons_of_mem _ (List.mem_append_left _ hp))) ho1 hQ ?_)
    intro k' hk' e L' a' w' Z' pl' h' S'
    have hgy : AllGood E (ptsOf E y Kf) := fun p hp => hg p (by simp only [ptsOf]; exact List.mem_cons_of_mem _ (List.mem_append_right _ hp))
    have hy := ihy k' (fun j hj => hct j (Nat.le_trans hj hk')) Kf Q
    have hK' := fun k'' (hk'' : k'' ≤ k') => hK k'' (Nat.le_trans hk'' hk')
    cases e with
    | nrm =>
      show y.wp P Q a' w'
      simp only [seqK] at h'
      split at h'
      · rename_i c hc
        rw [F.k] at h'
        obtain ⟨hh, Z2, pl2, g1, g2⟩ := go_ok hs F h' S'
        have := hg ⟨.join, rid y, y, Kf⟩ (by simp only [ptsOf]; exact List.mem_cons_self) c (by rw [F.joins] at hc; exact hc)
        have this : ∀ k h, c.g k h = semC (E k) y (instP c.pat (ofHL c.ts h)) (Kf k) := this
        rw [this] at g1
        exact hy _ a' w' Z2 pl2 g1 g2 hgy ho2 hQ hK'
      · exact hy L' a' w' Z' pl' h' S' hgy ho2 hQ hK'
    | exit i => exact hK k' hk' (.exit i) L' a' w' Z' pl' h' S'
    | ret => exact hK k' hk' .ret L' a' w' Z' pl' h' S'
  | cond c x y ihx ihy =>
    intro k hct Kf Q L a w Z pl h S hg ho hQ hK
    simp only [semC] at h
    obtain ⟨ho1, ho2⟩ : ordsB G (E 0).ords x = true ∧ ordsB G (E 0).ords y = true := by
      simp only [ordsB] at ho
      split at ho
      · rename_i h1; exact ⟨h1, ho⟩
      · cases ho
    split at h
    · rename_i s hsc
      obtain ⟨b, hb, h1, h2⟩ := condK_ok h (evalO_ok S hsc)
      have gx : AllGood E (ptsOf E x Kf) := fun p hp => hg p (by simp only [ptsOf]; exact List.mem_append_left _ hp)
      have gy : AllGood E (ptsOf E y Kf) := fun p hp => hg p (by simp only [ptsOf]; exact List.mem_append_right _ hp)
      refine wp_cond hb ?_
      cases b with
      | true => exact ihx k hct Kf Q _ a w Z pl (h1 rfl) (S.knowO c true hb) gx ho1 hQ hK
      | false => exact ihy k hct Kf Q _ a w Z pl (h2 rfl) (S.knowO c false hb) gy ho2 hQ hK
    · cases h
  | block id x ih =>
    intro k hct Kf Q L a w Z pl h S hg ho hQ hK
    simp only [semC] at h
    refine wp_block (ih k hct (fun k => blockK id (Kf k)) _ L a w Z pl h S (fun p hp => hg p (by simp only [ptsOf]; exact hp)) ho hQ ?_)
    intro k' hk' e L' a' w' Z' pl' h' S'
    cases e with
    | nrm => exact hK k' hk' .nrm L' a' w' Z' pl' h' S'
    | exit i =>
      simp only [blockK] at h'
      show Exit.inBlock id Q (.exit i) a' w'
      split at h'
      · rename_i hi
        have hi := Nat.eq_of_beq_eq_true hi
        simp only [Exit.inBlock, if_pos hi]
        exact hK k' hk' .nrm L' a' w' Z' pl' h' S'
      · rename_i hi
        have hi : i ≠ id := by intro e; rw [e, Nat.beq_refl] at hi; cases hi
        simp only [Exit.inBlock, if_neg hi]
        exact hK k' hk' (.exit i) L' a' w' Z' pl' h' S'
    | ret => exact hK k' hk' .ret L' a' w' Z' pl' h' S'
  | loop x ih =>
    intro k hct Kf Q L a w Z pl h S hg ho hQ hK
    simp only [semC, goLoop] at h
    split at h
    · rename_i c hc
      rw [F.k] at h
      rw [F.loops] at hc
      have hgood := hg ⟨.loop, rid x, x, Kf⟩ (by simp only [ptsOf]; exact List.mem_cons_self) c hc
      obtain ⟨g0, gs⟩ : (∀ h, c.g 0 h = none) ∧ ∀ k h, c.g (k + 1) h = semC (E k) x (instP c.pat (ofHL c.ts h)) (loopK (E k) x (Kf k)) := hgood
      have hgx : AllGood E (ptsOf E x (fun k => loopK (E k) x (Kf k))) := fun p hp => hg p (by simp only [ptsOf]; exact List.mem_cons_of_mem _ hp)
      obtain ⟨hh, Z1, pl1, q1, q2⟩ := go_ok hs F h S
      refine wp_loop_ghost (fun n a w => n ≤ k ∧ ∃ hh Z pl, c.g n hh = some r ∧ Sat (E 0).N W w0 Z pl (instP c.pat (ofHL c.ts hh)) a w) k ⟨Nat.le_refl _, hh, Z1, pl1, q1, q2⟩ ?_
      rintro n a1 w1 ⟨hn, hh1, Z2, pl2, p1, p2⟩
      cases n with
      | zero => rw [g0] at p1; cases p1
      | succ n =>
        rw [gs] at p1
        refine ih n (fun j hj => hct j (by omega)) (fun k => loopK (E k) x (Kf k)) _ _ a1 w1 Z2 pl2 p1 p2 hgx ho hQ ?_
        intro k' hk' e L' a' w' Z' pl' h' S'
        cases e with
        | nrm =>
          simp only [loopK, goLoop] at h'
          rw [F.loops, hc] at h'
          simp only at h'
          rw [F.k] at h'
          obtain ⟨hh2, Z3, pl3, t1, t2⟩ := go_ok hs F h' S'
          exact ⟨k', by omega, by omega, hh2, Z3, pl3, t1, t2⟩
        | exit i => exact hK k' (by omega) (.exit i) L' a' w' Z' pl' h' S'
        | ret => exact hK k' (by omega) .ret L' a' w' Z' pl' h' S'
    · cases h
  | _ => intro k hct Kf Q L a w Z pl h; simp [semC] at h
end Go.Proofs.YtmcbhnbemhfifaaDoor.RX
