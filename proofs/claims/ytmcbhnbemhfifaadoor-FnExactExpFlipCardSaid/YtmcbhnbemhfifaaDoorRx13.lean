/- More operations: parts of texts and rows, literals, append. Conditions: SigOK, TabOK. -/
import Derived.Test.YtmcbhnbemhfifaaDoorRx12
namespace Go.Proofs.YtmcbhnbemhfifaaDoor.RX
open Go Go.RowKit
set_option autoImplicit false
variable {G : Sig} {R : Type} {P : Program} {W : Rights} {w0 w w' : World} {Z Z' : Nat → Nat → Prop} {pl pl' : Nat → Value} {N : Nat}
variable {E : Env G R} {o : Oper} {L : St G} {K : St G → Option R} {r : R} {a : Act} {next : Act → World → Prop} {Q : Exit → Act → World → Prop}

theorem loK_ok (S : Sat N W w0 Z pl L a w) {lo : Option Operand} {l : Int} (h : loK L lo = some l) : (lo = none ∧ l = 0) ∨ ∃ x k, lo = some x ∧ a.eval x = .int k l := by
  cases lo with
  | none => injection h with h; exact .inl ⟨rfl, h.symm⟩
  | some x => obtain ⟨k, hk⟩ := intOf_ok S h; exact .inr ⟨x, k, rfl, hk⟩
theorem hiK_ok (S : Sat N W w0 Z pl L a w) {n : Int} {hi : Option Operand} {l : Int} (h : hiK L n hi = some l) : (hi = none ∧ l = n) ∨ ∃ x k, hi = some x ∧ a.eval x = .int k l := by
  cases hi with
  | none => injection h with h; exact .inl ⟨rfl, h.symm⟩
  | some x => obtain ⟨k, hk⟩ := intOf_ok S h; exact .inr ⟨x, k, rfl, hk⟩
theorem run_bound {k : IntKind} {n : Int} {y : Nat} {code : BoundsCode} (h0 : 0 ≤ n) (h1 : n ≤ (y : Int)) : (Instr.sliceBound (.int k n) y code).run P w = .ok n.toNat w := by
  simp only [Instr.sliceBound, asIntOf, Sem.run_bind, Sem.run_pure, Result.andThen_ok]
  rw [if_pos ⟨h0, h1⟩]
  rfl
/-- The bounds of a part. -/
theorem run_bounds (S : Sat N W w0 Z pl L a w) {lo hi : Option Operand} {l h : Int} {len cap : Nat} {isS : Bool} (hl : loK L lo = some l) (hh : hiK L (len : Int) hi = some h) (h0 : 0 ≤ l) (h1 : l ≤ h) (h2 : h ≤ (len : Int)) (h3 : len ≤ cap) (w' : World) :
    (Instr.sliceBounds isS len cap (lo.map a.eval) (hi.map a.eval) none).run P w' = .ok (l.toNat, h.toNat, cap) w' := by
  unfold Instr.sliceBounds
  rcases hiK_ok S hh with ⟨rfl, rfl⟩ | ⟨x, k, rfl, hx⟩
  · rcases loK_ok S hl with ⟨rfl, rfl⟩ | ⟨y, k', rfl, hy⟩
    · simp
    · have hb : ∀ code, (Instr.sliceBound (a.eval y) len code).run P w' = .ok l.toNat w' := fun code => by rw [hy]; exact run_bound h0 h1
      simp [hb]
  · have hc : ∀ code, (Instr.sliceBound (a.eval x) cap code).run P w' = .ok h.toNat w' := fun code => by rw [hx]; exact run_bound (by omega) (by omega)
    rcases loK_ok S hl with ⟨rfl, rfl⟩ | ⟨y, k', rfl, hy⟩
    · simp [hc]
    · have hb : ∀ code, (Instr.sliceBound (a.eval y) h.toNat code).run P w' = .ok l.toNat w' := fun code => by rw [hy]; exact run_bound h0 (by omega)
      simp [hc, hb]
theorem run_bounds3 (S : Sat N W w0 Z pl L a w) {lo : Option Operand} {xh xm : Operand} {l h m : Int} {len cap : Nat} (hl : loK L lo = some l) (hh : intOf (evalO L xh) = some h) (hm : intOf (evalO L xm) = some m) (h0 : 0 ≤ l) (h1 : l ≤ h) (h2 : h ≤ (len : Int)) (h3 : len ≤ cap) (hmh : m = h) (w' : World) :
    (Instr.sliceBounds true len cap (lo.map a.eval) (some (a.eval xh)) (some (a.eval xm))).run P w' = .ok (l.toNat, h.toNat, h.toNat) w' := by
  subst hmh
  obtain ⟨k1, e1⟩ := intOf_ok S hh
  obtain ⟨k2, e2⟩ := intOf_ok S hm
  unfold Instr.sliceBounds
  have hc : ∀ code, (Instr.sliceBound (a.eval xm) cap code).run P w' = .ok m.toNat w' := fun code => by rw [e2]; exact run_bound (by omega) (by omega)
  have hc2 : ∀ code, (Instr.sliceBound (a.eval xh) m.toNat code).run P w' = .ok m.toNat w' := fun code => by rw [e1]; exact run_bound (by omega) (by omega)
  rcases loK_ok S hl with ⟨rfl, rfl⟩ | ⟨y, k', rfl, hy⟩
  · simp [hc, hc2]
  · have hb : ∀ code, (Instr.sliceBound (a.eval y) m.toNat code).run P w' = .ok l.toNat w' := fun code => by rw [hy]; exact run_bound h0 (by omega)
    simp [hc, hc2, hb]
theorem take_drop_len {α : Type} (xs : List α) (l h : Nat) (hh : h ≤ xs.length) : ((xs.take h).drop l).length = h - l := by rw [List.length_drop, List.length_take]; omega
/-- A part of a row that is written no more. -/
theorem RepC.sub {e : TypeId} {t : Ty} {xs : List (G.D t)} {A : Option Addr} {n c : Nat} (H : RepC G Z w (.sl e t) xs [.slice A n c]) (l h m : Nat) (h1 : l ≤ h) (h2 : h ≤ xs.length) (h3 : h ≤ m) :
    RepC G Z w (.sl e t) ((xs.take h).drop l) [.slice (if m = l then A else A.map (·.add (l * G.csz t))) (h - l) (m - l)] := by
  generalize hq : ([.slice A n c] : List Value) = q at H
  cases H with
  | sl _ _ _ A' c' b o cs hc hA hl hz hr =>
    injection hq with hq _
    injection hq with e1 e2 e3
    subst e1 e2 e3
    have hlen : ((xs.take h).drop l).length = h - l := by rw [List.length_drop, List.length_take]; omega
    rw [← hlen]
    refine .sl e t _ _ _ b (o + l * G.csz t) (fun i => cs (l + i)) (by omega) ?_ (fun i hi => hl _ (by omega)) (fun i j v hi hj => ?_) (fun i hi => ?_)
    · by_cases h0 : h - l = 0
      · exact .inl (by omega)
      · right
        rcases hA with hA | hA
        · omega
        · rw [if_neg (by omega), hA, Option.map_some, add_at]
    · have := hz (l + i) j v (by omega) hj
      rw [Nat.add_mul, ← Nat.add_assoc] at this
      exact this
    · have := hr (l + i) (by omega)
      simpa using this
theorem op_slice (ht : TabOK P G) {T : TypeId} {x : Operand} {lo hi mx : Option Operand} (ho : o.op = .slice T x lo hi mx) (h : semOp E o L K = some r) (S : Sat E.N W w0 Z pl L a w) (hK : Then E W w0 K r next) : o.pu P a w next := by
  have exe : ∀ u, (∀ w', (Instr.sliceAt T (a.eval x) (lo.map a.eval) (hi.map a.eval) (mx.map a.eval)).run P w' = .ok u w') → ∀ w', (execOp a.eval o).run P w' = .ok (.value u) w' := by
    intro u hu w'; unfold execOp; rw [ho]; exact run_v _ (hu w')
  simp only [semOp, ho] at h
  split at h
  · rename_i s hT hx
    have hu := (ht T _ hT).str rfl
    split at h
    · cases h
    · split at h
      · rename_i l hh hl hhh
        split at h
        · rename_i h0
          split at h
          · rename_i h1
            split at h
            · rename_i h2
              have e := str_val (evalO_ok S hx)
              refine op_pure (exe (.string (s.extract l.toNat hh.toNat)) ?_) h S (val_str _) hK
              intro w'
              have hb := run_bounds (P := P) (isS := false) (len := s.size) (cap := s.size) S hl hhh h0 h1 h2 (Nat.le_refl _) w'
              rw [e]
              simp only [Instr.sliceAt, Instr.slice, Sem.run_bind, run_und hu, Result.andThen_ok, Option.map_none, Option.isSome_none, Bool.false_eq_true, if_false, hb, Sem.run_pure]
            · cases h
          · cases h
        · cases h
      · cases h
  · rename_i e t lf hT hx
    obtain ⟨hu, i, z, hie, hsz, _⟩ := (ht T _ hT).sl e t rfl
    split at h
    · rename_i v L' htv
      obtain ⟨Z', T', ty, R1⟩ := toTV_ok htv S.mem (evalO_ok S hx)
      have S' := T'.sat S
      split at h
      · rename_i xs hxs
        have R2 := RepC.cast hxs R1
        obtain ⟨A, c, hq, hc⟩ : ∃ A c, a.eval x = .slice A xs.length c ∧ xs.length ≤ c := by
          generalize a.eval x = q at R2
          cases R2 with | sl _ _ _ A c _ _ _ hc => exact ⟨A, c, rfl, hc⟩
        rw [hq] at R2
        split at h
        · rename_i l hh hl hhh
          split at h
          · split at h
            · rename_i h0
              split at h
              · rename_i h1
                split at h
                · rename_i h2
                  have h0 : 0 ≤ l := h0
                  have h1 : l ≤ hh := h1
                  have h2 : hh ≤ (xs.length : Int) := h2
                  have hb := run_bounds (P := P) (isS := true) (len := xs.length) (cap := c) S hl hhh h0 h1 h2 hc
                  refine op_pure (exe _ ?_) h S' ⟨R2.sub l.toNat hh.toNat c (by omega) (by omega) (by omega), rfl⟩ hK
                  intro w'
                  rw [hq]
                  simp only [Instr.sliceAt, Instr.slice, Sem.run_bind, run_und hu, Result.andThen_ok, Option.map_none, hb w', run_size hie, hsz, Sem.run_pure]
                · cases h
              · cases h
            · cases h
          · rename_i xm
            split at h
            · cases h
            · rename_i xh
              split at h
              · rename_i m hm
                split at h
                · rename_i h0
                  split at h
                  · rename_i h1
                    split at h
                    · rename_i h2
                      split at h
                      · rename_i h3
                        have h0 : 0 ≤ l := h0
                        have h1 : l ≤ hh := h1
                        have h2 : hh ≤ (xs.length : Int) := h2
                        have hb := run_bounds3 (P := P) (len := xs.length) (cap := c) S hl hhh hm h0 h1 h2 hc h3
                        have R3 := R2.sub l.toNat hh.toNat hh.toNat (by omega) (by omega) (Nat.le_refl _)
                        have hlen := take_drop_len (show List (G.D t) from xs) l.toNat hh.toNat (show hh.toNat ≤ List.length xs by omega)
                        refine op_pure (exe _ ?_) h S' ⟨⟨R3, ⟨_, by rw [hlen]⟩⟩, rfl⟩ hK
                        intro w'
                        rw [hq]
                        simp only [Instr.sliceAt, Instr.slice, Sem.run_bind, run_und hu, Result.andThen_ok, Option.map_some, hb w', run_size hie, hsz, Sem.run_pure]
                      · cases h
                    · cases h
                  · cases h
                · cases h
              · cases h
        · cases h
      · cases h
    · cases h
  · cases h

theorem capK_ok (S : Sat N W w0 Z pl L a w) : ∀ {xs : List Operand} {is : List Nat}, capK L xs = some is → (∀ i ∈ is, i < L.nx ∧ ∃ b, pl i = .pointer (some ⟨b, 0, none⟩)) ∧ xs.map a.eval = is.map pl
  | [], is, h => by simp only [capK, Option.some.injEq] at h; subst h; exact ⟨fun i hi => absurd hi List.not_mem_nil, rfl⟩
  | x :: xs, is, h => by
    simp only [capK] at h
    split at h
    · rename_i i hx
      split at h
      · rename_i l hl
        injection h with h
        subst h
        obtain ⟨k1, k2⟩ := capK_ok S hl
        obtain ⟨⟨h1, b, hb, hv⟩, _⟩ := evalO_ok S hx
        refine ⟨fun j hj => ?_, by rw [List.map_cons, List.map_cons, k2, hv, hb]⟩
        rcases List.mem_cons.1 hj with hj | hj
        · rw [hj]; exact ⟨h1, b, hb⟩
        · exact k1 j hj
      · cases h
    · cases h
theorem op_makeFunc {f : FuncId} {fst caps : Array Operand} (ho : o.op = .makeFunc (.func f) fst caps) (h : semOp E o L K = some r) (S : Sat E.N W w0 Z pl L a w) (hK : Then E W w0 K r next) : o.wp P a w next Q := by
  simp only [semOp, ho] at h
  split at h
  · rename_i hfst
    split at h
    · rename_i is his
      obtain ⟨k1, k2⟩ := capK_ok S his
      have hf : fst = #[] := by cases fst; simpa using hfst
      subst hf
      refine op_value (u := .func (.func f) #[] (is.map pl).toArray) ?_ h S ⟨⟨k1, rfl⟩, rfl⟩ hK
      unfold execOp
      rw [ho]
      refine run_v _ ?_
      simp only [Instr.makeFunc, List.map_toArray, List.map_nil, Sem.run_pure]
      congr 2
      rw [← k2]
      cases caps
      simp
    · cases h
  · cases h

theorem foldl_set : ∀ (us : List Value) (k off : Nat) (arr : List Value), off + k + us.length ≤ arr.length → (us.zipIdx k).foldl (fun (cs : Array Value) (p : Value × Nat) => cs.setIfInBounds (off + p.2) p.1) arr.toArray = (RX.setAt arr (off + k) us).toArray
  | [], k, off, arr, _ => by
    have : RX.setAt arr (off + k) [] = arr := by
      apply List.ext_getElem?
      intro j
      rw [setAt_get _ _ _ _ (by simpa using by assumption), if_neg (by simp <;> omega)]
    rw [this]; rfl
  | u :: us, k, off, arr, h => by
    simp only [List.zipIdx_cons, List.foldl_cons, List.setIfInBounds_toArray]
    rw [foldl_set us (k + 1) off (arr.set (off + k) u) (by rw [List.length_set]; simp only [List.length_cons] at h; omega)]
    congr 1
    apply List.ext_getElem?
    intro j
    simp only [List.length_cons] at h
    rw [setAt_get _ _ _ _ (by rw [List.length_set]; omega), setAt_get _ _ _ _ (by simp only [List.length_cons]; omega), List.length_cons]
    by_cases h1 : j = off + k
    · subst h1
      rw [if_neg (by omega), if_pos (by omega), List.getElem?_set_self (by omega), Nat.sub_self]
      rfl
    · by_cases h2 : off + (k + 1) ≤ j ∧ j < off + (k + 1) + us.length
      · rw [if_pos h2, if_pos (by omega), show j - (off + k) = (j - (off + (k + 1))) + 1 by omega, List.getElem?_cons_succ]
      · rw [if_neg h2, if_neg (by omega), List.getElem?_set_ne (by omega)]
theorem fold_set (us : Array Value) (off : Nat) (arr : List Value) (h : off + us.toList.length ≤ arr.length) : us.zipIdx.foldl (fun (cs : Array Value) (p : Value × Nat) => cs.setIfInBounds (off + p.2) p.1) arr.toArray = (RX.setAt arr off us.toList).toArray := by
  rw [← Array.foldl_toList, Array.toList_zipIdx]
  exact foldl_set us.toList 0 off arr (by simpa using h)
theorem buildK_ok (S : Sat N W w0 Z pl L a w) {fl : List (Nat × Nat)} : ∀ {ps : List (Nat × Operand)} {ls ls' : List (Leaf G)} {cs : List Value}, buildK L fl ps ls = some ls' → LsOK Z w pl L.nx ls cs → (∀ f d n, nth fl f = some (d, n) → d + n ≤ ls.length) →
    ∃ cs', Instr.fill (fl.toArray[·]?) cs.toArray (ps.map fun (p : Nat × Operand) => (p.1, a.eval p.2)) = some cs'.toArray ∧ LsOK Z w pl L.nx ls' cs'
  | [], ls, ls', cs, h, hl, _ => by simp only [buildK, Option.some.injEq] at h; subst h; exact ⟨cs, rfl, hl⟩
  | (i, x) :: ps, ls, ls', cs, h, hl, hf => by
    simp only [buildK] at h
    split at h
    · rename_i off n hfl
      split at h
      · rename_i s hx
        split at h
        · rename_i hn
          rw [len_eq] at hn
          have hn := Nat.eq_of_beq_eq_true hn
          have hv := (evalO_ok S hx).cells
          have hvl := hv.length
          have hcl := hl.length
          have hle := hf i off n hfl
          obtain ⟨cs', k1, k2⟩ := buildK_ok S h (hl.setAt hv (by omega)) (fun f d n hh => by rw [setAt_length]; exact hf f d n hh)
          refine ⟨cs', ?_, k2⟩
          rw [List.map_cons, Instr.fill]
          have e1 : fl.toArray[i]? = some (off, n) := by rw [List.getElem?_toArray, ← nth_eq]; exact hfl
          have e2 : (a.eval x).cells.size = n := by rw [← Array.length_toList, hvl, hn]
          simp only [e1]
          rw [if_neg (by rw [e2]; simp only [ne_eq, not_true_eq_false, decide_false, Bool.false_or, decide_eq_true_eq, List.size_toArray]; omega)]
          rw [fold_set _ off cs (by rw [hvl]; omega)]
          exact k1
        · cases h
      · cases h
    · cases h
theorem op_build (ht : TabOK P G) {T : TypeId} {ps : Array (Nat × Operand)} (ho : o.op = .build T ps) (h : semOp E o L K = some r) (S : Sat E.N W w0 Z pl L a w) (hK : Then E W w0 K r next) : o.pu P a w next := by
  simp only [semOp, ho] at h
  split at h
  · rename_i ti hti
    have tk := ht T ti hti
    split at h
    · rename_i hagg
      split at h
      · rename_i ls hls
        split at h
        · rename_i ls' hb
          have hz : zls (G := G) ti.leaves ≠ none := by rw [hls]; exact Option.some_ne_none _
          obtain ⟨i, hi, hsz, hzr⟩ := tk.size
          obtain ⟨fs, hu, hpl⟩ := tk.bld hagg
          have hc := zval_cells tk.one hz
          obtain ⟨z1, z2⟩ := zls_ok (Z := Z) (w := w) (pl := pl) (nx := L.nx) hls
          obtain ⟨cs', k1, k2⟩ := buildK_ok S hb z1 (fun f d n hh => by obtain ⟨_, _, _, _, _, q, _⟩ := tk.flds f d n hh; rw [z2]; exact q)
          refine op_pure (u := .agg cs'.toArray) (fun w' => ?_) h S ⟨cs', rfl, k2⟩ hK
          unfold execOp
          rw [ho]
          refine run_v _ ?_
          have hcc : (zval ti).cells = (ti.leaves.map zv).toArray := by rw [← hc]
          have hps : (ps.map fun (p : Nat × Operand) => (p.1, a.eval p.2)).toList = ps.toList.map fun (p : Nat × Operand) => (p.1, a.eval p.2) := Array.toList_map
          simp only [Instr.build, Sem.run_bind, run_zero hi (hzr hz), Result.andThen_ok, run_und hu, Array.mapM_eq_mapM_toList, Sem.run_map]
          have := run_places (P := P) w' fs.toList ti.flds hpl
          have h2 : (fs.toList.mapM fun f => (do pure (f.offset, ← Go.sizeOf f.type) : Sem (Nat × Nat))).run P w' = .ok ti.flds w' := this
          rw [h2]
          simp only [Result.andThen_ok, hcc]
          rw [hps, k1]
          rfl
        · cases h
      · cases h
    · cases h
  · cases h

/-- The elements of a literal. -/
theorem elemsK_ok (hs : SigOK G) {t : Ty} : ∀ {ps : List (Nat × Operand)} {j : Nat} {L L' : St G} {xs : List (G.D t)} {Z : Nat → Nat → Prop}, elemsK t j ps L = some (xs, L') → Sat N W w0 Z pl L a w →
    ∃ Z' vs, MStep W w0 w Z pl L Z' pl L' ∧ RowC G Z' w t xs vs ∧ xs.length = ps.length ∧
      ∀ (pre post : List Value), pre.length = j * G.csz t → vs.length ≤ post.length →
        Instr.fill (fun i => some (i * G.csz t, G.csz t)) (pre ++ post).toArray (ps.map fun (p : Nat × Operand) => (p.1, a.eval p.2)) = some (pre ++ vs ++ post.drop vs.length).toArray
  | [], j, L, L', xs, Z, h, S => by
    simp only [elemsK, Option.some.injEq, Prod.mk.injEq] at h
    obtain ⟨rfl, rfl⟩ := h
    exact ⟨Z, [], .refl S.mem, rfl, rfl, fun pre post _ _ => by simp [Instr.fill]⟩
  | (i, x) :: ps, j, L, L', xs, Z, h, S => by
    simp only [elemsK] at h
    split at h
    · rename_i hij
      have hij := Nat.eq_of_beq_eq_true hij
      subst hij
      split at h
      · rename_i s hx
        split at h
        · rename_i v L1 hv
          split at h
          · rename_i y hy
            split at h
            · rename_i ys L2 hys
              simp only [Option.some.injEq, Prod.mk.injEq] at h
              obtain ⟨rfl, rfl⟩ := h
              obtain ⟨Z1, T1, ty, R1⟩ := svTV_ok hs hv S.mem (evalO_ok S hx)
              have S1 := T1.sat S
              obtain ⟨Z2, vs, T2, R2, hlen, hfill⟩ := elemsK_ok hs hys S1
              have R1' := (RepC.cast hy R1).mono T2.ext.hZ T2.ext.hw
              have hcl : (a.eval x).cells.toList.length = G.csz t := R1'.length hs
              refine ⟨Z2, (a.eval x).cells.toList ++ vs, T1.trans T2, ⟨_, vs, rfl, hcl, R1', R2⟩, by simp [hlen], fun pre post hp hpo => ?_⟩
              rw [List.length_append] at hpo
              rw [List.map_cons, Instr.fill]
              simp only
              have hsz : (a.eval x).cells.size = G.csz t := by rw [← hcl]; exact Array.length_toList.symm
              rw [if_neg (by rw [hsz]; simp only [ne_eq, not_true_eq_false, decide_false, Bool.false_or, decide_eq_true_eq, List.size_toArray, List.length_append]; omega)]
              rw [fold_set _ (i * G.csz t) (pre ++ post) (by rw [hcl, List.length_append]; omega)]
              have e1 : RX.setAt (pre ++ post) (i * G.csz t) (a.eval x).cells.toList = (pre ++ (a.eval x).cells.toList) ++ post.drop (a.eval x).cells.toList.length := by
                have := setAt_skip pre post (a.eval x).cells.toList 0
                rw [Nat.add_zero, hp] at this
                rw [this]
                have h3 : post = post.take (a.eval x).cells.toList.length ++ post.drop (a.eval x).cells.toList.length := (List.take_append_drop _ _).symm
                have h4 := setAt_append (post.take (a.eval x).cells.toList.length) (post.drop (a.eval x).cells.toList.length) (a.eval x).cells.toList (by rw [List.length_take]; omega)
                rw [← h3] at h4
                rw [h4, List.append_assoc]
              rw [e1]
              have := hfill (pre ++ (a.eval x).cells.toList) (post.drop (a.eval x).cells.toList.length) (by rw [List.length_append, hp, hcl, Nat.add_mul, Nat.one_mul]) (by rw [List.length_drop]; omega)
              rw [this, List.drop_drop, List.length_append]
              simp only [List.append_assoc]
            · cases h
          · cases h
        · cases h
      · cases h
    · cases h
/-- The run of a literal. -/
theorem run_lit (ht : TabOK P G) {T : TypeId} {n : Nat} {ps : Array (Nat × Operand)} (ho : o.op = .buildSlice T n ps) {e : TypeId} {t : Ty} {l1 : List LTy} {l2 : List (Nat × Nat)} {l3 : Bool} (hT : G.tab T = some ⟨l1, l2, l3, some (.sl e t)⟩) (hbig : n * G.csz t ≤ 16777216) {vs : List Value}
    (hfill : ∀ post : List Value, post.length = n * G.csz t → Instr.fill (fun i => some (i * G.csz t, G.csz t)) post.toArray (ps.toList.map fun (p : Nat × Operand) => (p.1, a.eval p.2)) = some vs.toArray) :
    (execOp a.eval o).run P w = .ok (.value (.slice (some ⟨w.heap.size, 0, none⟩) n n)) (w.alloc (.cells vs.toArray e)) := by
  obtain ⟨hu, i, z, hie, hsz, hzr, hzs, hpos, _, hcap⟩ := (ht T _ hT).sl e t rfl
  unfold execOp
  rw [ho]
  refine run_v _ ?_
  have hps : (ps.map fun (p : Nat × Operand) => (p.1, a.eval p.2)).toList = ps.toList.map fun (p : Nat × Operand) => (p.1, a.eval p.2) := Array.toList_map
  simp only [Instr.buildSlice, Sem.run_bind, run_und hu, Result.andThen_ok, run_size hie, hsz]
  rw [if_neg (by omega)]
  have hf := hfill ((Array.range (n * G.csz t)).map (z.cells[· % z.cells.size]!)).toList (by simp)
  have hf' : Instr.fill (fun i => some (i * G.csz t, G.csz t)) (Array.map (fun x => z.cells[x % z.cells.size]!) (Array.range (n * G.csz t))) (Array.map (fun (x : Nat × Operand) => (x.1, a.eval x.2)) ps).toList = some vs.toArray := by
    rw [hps]; rw [Array.toArray_toList] at hf; exact hf
  by_cases h0 : n * G.csz t = 0
  · rw [if_pos h0]
    have e0 : Array.map (fun x => (#[] : Array Value)[x % (#[] : Array Value).size]!) (Array.range (n * G.csz t)) = Array.map (fun x => z.cells[x % z.cells.size]!) (Array.range (n * G.csz t)) := by rw [h0]; simp
    rw [Sem.run_bind]
    simp only [Sem.run_pure, Result.andThen_ok]
    rw [e0, hf']
    rfl
  · rw [if_neg h0, Sem.run_bind, run_zero hie hzr]
    simp only [Result.andThen_ok]
    rw [Sem.run_bind]
    simp only [Sem.run_pure, Result.andThen_ok]
    rw [hf']
    rfl
/-- A row that owns what it leads to, made. -/
theorem op_buildT (hs : SigOK G) (ht : TabOK P G) {T : TypeId} {n : Nat} {ps : Array (Nat × Operand)} (ho : o.op = .buildSlice T n ps) {e : TypeId} {t : Ty} {l1 : List LTy} {l2 : List (Nat × Nat)} {l3 : Bool} (hT : G.tab T = some ⟨l1, l2, l3, some (.sl e t)⟩)
    (h : buildT E o e t n ps.toList L K = some r) (S : Sat E.N W w0 Z pl L a w) (hK : Then E W w0 K r next) : o.wp P a w next Q := by
  -- a new row, of what is detached
  have fin : ∀ (xs : List (G.D t)) (vs : List Value) (tm : List (Nat × DV G)) (ob : List (Nat × Ob G)) (nx : Nat) (f : Nat → List Nat) (D : List Nat), xs.length = n → n ≤ maxLen → Sat E.N W w0 Z pl ⟨tm, ob, nx⟩ a w → TrOK W w0.heap.size Z pl ob nx w f → Det W w0.heap.size Z pl ob w f D → OwnR G w t xs vs D → vs.length = n * G.csz t →
      (execOp a.eval o).run P w = .ok (.value (.slice (some ⟨w.heap.size, 0, none⟩) n n)) (w.alloc (.cells vs.toArray e)) → (newOb (.tr e t xs) ⟨tm, ob, nx⟩ fun i L' => out E o (.sv (.one (.aref i))) L' K) = some r → o.wp P a w next Q := by
    intro xs vs tm ob nx f D hn hnm S1 T1 hD hO hvl hrun h
    simp only [newOb] at h
    let v : Value := .slice (some ⟨w.heap.size, 0, none⟩) n n
    have hpl : upd pl nx v nx = v := upd_same _ _ _
    have hold : ∀ k, k < w.heap.size → (w.alloc (.cells vs.toArray e)).heap[k]? = w.heap[k]? := fun k hk => Below.heap_alloc w _ _ hk
    have hrow : (w.alloc (.cells vs.toArray e)).ownsRow 0 e (G.csz t) (upd pl nx v nx) xs.length vs := by
      rw [hpl, hn]
      have := World.ownsRow_lit (e := e) (size := G.csz t) w vs.toArray n (Nat.zero_le _) hnm (by rw [List.size_toArray, hvl])
      simpa using this
    have hO1 : OwnR G (w.alloc (.cells vs.toArray e)) t xs vs D := hO.mono fun k hk => hold k (hD.mem k hk).2.2.2.2
    have M0 := S1.mem
    have X0 := (Ext.of_chg (Z := Z) (pl := pl) (nx := nx) (w' := w.alloc (.cells vs.toArray e)) (fun b i hz => hold b (M0.zlt b i hz))).upd rfl v
    have hfr : Fr W w0.heap.size w (w.alloc (.cells vs.toArray e)) := Fr.of_grown (World.grownBy_alloc w _ none) M0.fr.size (fun k hk => by cases hk)
    have K1 := M0.keep X0 (fun o b k hg hl hk => ⟨hold k (M0.blt hg hl hk), M0.zfar o b k hg hl hk⟩) (fun b i hz => Nat.lt_of_lt_of_le (M0.zlt b i hz) hfr.size) (fun _ _ h => .inl h) hfr ⟨f, T1, fun o k hk => ⟨hold k (T1.lt o k hk), T1.zfar o k hk⟩⟩
    have T2 := T1.keep (pl' := upd pl nx v) (nx' := nx + 1) (w' := w.alloc (.cells vs.toArray e)) (Z' := Z) M0.lt (Nat.le_succ _) X0.hp (fun o b k hg hl hk => hold k (M0.blt hg hl hk)) (fun o k hk => ⟨hold k (T1.lt o k hk), T1.zfar o k hk⟩) hfr.size
    have hnone : ∀ b, get ob nx = some b → False := fun b hb => Nat.lt_irrefl _ (M0.lt nx b hb)
    have T3 := T2.set nx D (fun b hb => (hnone b hb).elim) hD.nd (fun k hk => by
      obtain ⟨a1, a2, a3, a4, a5⟩ := hD.mem k hk
      exact .inr ⟨a1, fun o' b hgb hl hb => a2 o' b hgb hl (by rw [← X0.hp o' (M0.lt o' b hgb)]; exact hb), a3, a4, Nat.lt_of_lt_of_le a5 hfr.size⟩)
    have T4 := T3.put nx (.tr e t xs) (by
      show ∃ vs, _ ∧ OwnR G _ t xs vs (if nx = nx then D else f nx)
      rw [if_pos rfl]
      exact ⟨vs, hrow, hO1⟩) (fun _ k hk o' hm => by
      rw [hpl] at hk
      injection hk with hk
      subst hk
      have hm : w.heap.size ∈ (if o' = nx then D else f o') := hm
      split at hm
      · exact Nat.lt_irrefl _ (hD.mem _ hm).2.2.2.2
      · exact Nat.lt_irrefl _ (T1.lt o' _ hm))
    have M : Mem W w0 Z (upd pl nx v) ((nx, .tr e t xs) :: ob) (nx + 1) (w.alloc (.cells vs.toArray e)) := K1.add nx (.tr e t xs) (Nat.lt_succ_self _) ⟨vs, hrow⟩ (fun _ k hk => by
      rw [hpl] at hk
      injection hk with hk
      subst hk
      refine ⟨.inl M0.fr.size, fun j hz => Nat.lt_irrefl _ (M0.zlt _ j hz), fun o' b' ho' hg' hl' hk' => ?_⟩
      rw [upd_far pl v ho'] at hk'
      exact Nat.lt_irrefl _ (M0.blt hg' hl' hk')) ⟨_, T4⟩
    exact op_value hrun h (S1.at (L' := ⟨tm, _, nx + 1⟩) X0 M rfl) ⟨⟨Nat.lt_succ_self _, hpl.symm⟩, rfl⟩ hK
  unfold buildT at h
  split at h
  · rename_i hps
    split at h
    · rename_i hn
      have hn := Nat.eq_of_beq_eq_true hn
      subst hn
      cases L with
      | mk tm ob nx =>
      obtain ⟨f, T0⟩ := S.mem.tr
      refine fin [] [] tm ob nx f [] rfl (Nat.zero_le _) S T0 Det.nil (.nil t) (by simp) (run_lit ht ho hT (by simp) fun post hp => ?_) h
      have : post = [] := List.eq_nil_of_length_eq_zero (by simpa using hp)
      subst this
      rw [hps]; simp [Instr.fill]
    · cases h
  · rename_i j x hps
    split at h
    · rename_i ls hj hn hbig hx
      have hj := Nat.eq_of_beq_eq_true hj
      have hn := Nat.eq_of_beq_eq_true hn
      have hbig := ble_iff.1 hbig
      subst hj hn
      split at h
      · rename_i ls' L1 gs habs
        split at h
        · rename_i v L2 hv
          split at h
          · rename_i y hy
            obtain ⟨hgs, h⟩ := gdK_some h
            cases L with
            | mk tm ob nx =>
            obtain ⟨f, T0⟩ := S.mem.tr
            obtain ⟨cs, hcs, hls⟩ := evalO_ok S hx
            obtain ⟨fps, f1, l1, l2, lv, M1, T1, D1, _, _⟩ := absLs_ok ls habs hgs S.mem T0 Det.nil hls
            obtain ⟨tm1, ob1, nx1⟩ := L1
            have l1 : tm1 = tm := l1
            have l2 : nx1 = nx := l2
            subst l1 l2
            rw [List.nil_append] at D1
            obtain ⟨_, _, hC⟩ := svTV_own hs hv (us := cs) (fps := fps) lv
            have := castTo_eq hy
            subst this
            have hcl : cs.length = G.csz t := OwnC.length hs hC
            have hO : OwnR G w t [y] cs fps.flatten := by
              have := OwnR.cons t y [] cs [] fps.flatten [] hcl hC (.nil t)
              simpa using this
            refine fin [y] cs tm1 ob1 nx1 f1 fps.flatten rfl (by simp [maxLen]) (S.at (L' := ⟨tm1, ob1, nx1⟩) (Ext.refl _ _ _ _) M1 rfl) T1 D1 hO (by rw [hcl, Nat.one_mul]) (run_lit ht ho hT (by rw [Nat.one_mul]; exact hbig) fun post hp => ?_) h
            rw [hps, List.map_cons, List.map_nil, Instr.fill]
            simp only
            have hcc : (a.eval x).cells.toList = cs := by rw [hcs]; simp [Value.cells]
            have hsz : (a.eval x).cells.size = G.csz t := by rw [← hcl, ← hcc]; exact Array.length_toList.symm
            rw [Nat.one_mul] at hp
            rw [if_neg (by rw [hsz]; simp only [ne_eq, not_true_eq_false, decide_false, Bool.false_or, decide_eq_true_eq, List.size_toArray]; omega)]
            rw [fold_set _ (0 * G.csz t) post (by rw [hcc]; omega), hcc]
            have := setAt_append post [] cs (by omega)
            rw [List.append_nil, List.append_nil] at this
            rw [Nat.zero_mul, this]
            simp [Instr.fill]
          · cases h
        · cases h
      · cases h
    · cases h
  · cases h
theorem op_buildSlice (hs : SigOK G) (ht : TabOK P G) {T : TypeId} {n : Nat} {ps : Array (Nat × Operand)} (ho : o.op = .buildSlice T n ps) (h : semOp E o L K = some r) (S : Sat E.N W w0 Z pl L a w) (hK : Then E W w0 K r next) : o.wp P a w next Q := by
  simp only [semOp, ho] at h
  split at h
  · rename_i e t hT
    obtain ⟨hu, i, z, hie, hsz, hzr, hzs, hpos, _, hcap⟩ := (ht T _ hT).sl e t rfl
    split at h
    · exact op_buildT hs ht ho hT h S hK
    split at h
    · rename_i xs L' hel
      split at h
      · rename_i hn
        rw [len_eq] at hn
        have hn := Nat.eq_of_beq_eq_true hn
        split at h
        · rename_i hbig
          have hbig := ble_iff.1 hbig
          obtain ⟨Z', vs, T1, R1, hlen, hfill⟩ := elemsK_ok hs hel S
          have S1 := T1.sat S
          have hvl := R1.length
          rw [hn] at hvl
          have hf := hfill [] ((Array.range (n * G.csz t)).map (z.cells[· % z.cells.size]!)).toList (by simp) (by simp [hvl])
          have hd : (((Array.range (n * G.csz t)).map (z.cells[· % z.cells.size]!)).toList).drop vs.length = [] := List.drop_eq_nil_of_le (by simp [hvl])
          rw [hd, List.nil_append, List.nil_append, List.append_nil] at hf
          cases L' with
          | mk tm ob nx =>
          simp only [newOb] at h
          let v : Value := .slice (some ⟨w.heap.size, 0, none⟩) n n
          have hpl : upd pl nx v nx = v := upd_same _ _ _
          have X := (Ext.of_chg (Z := Z') (pl := pl) (nx := nx) (fun b i hz => Below.heap_alloc w (.cells vs.toArray e) b (S1.mem.zlt b i hz))).upd rfl v
          have hnm : n ≤ maxLen := by
            have : n * G.csz t ≤ 16777216 := hbig
            have : n ≤ n * G.csz t := Nat.le_mul_of_pos_right n hpos
            simp only [maxLen]; omega
          obtain ⟨M, X⟩ := S1.mem.newP (w' := w.alloc (.cells vs.toArray e)) (.arr e t xs) (.cells vs.toArray e) v rfl (Fr.of_grown (World.grownBy_alloc w _ none) S1.mem.fr.size (fun k hk => by cases hk)) (fun k hk => Below.heap_alloc w _ _ hk)
            ⟨vs, by
              rw [hpl, hn]
              have := World.ownsRow_lit (e := e) (size := G.csz t) w vs.toArray n (Nat.zero_le _) hnm (by rw [List.size_toArray, hvl])
              simpa using this, R1.mono X.hZ X.hw⟩
          refine op_value ?_ h (S1.at X M rfl) ⟨⟨Nat.lt_succ_self _, hpl.symm⟩, rfl⟩ hK
          unfold execOp
          rw [ho]
          refine run_v _ ?_
          have hps : (ps.map fun (p : Nat × Operand) => (p.1, a.eval p.2)).toList = ps.toList.map fun (p : Nat × Operand) => (p.1, a.eval p.2) := Array.toList_map
          simp only [Instr.buildSlice, Sem.run_bind, run_und hu, Result.andThen_ok, run_size hie, hsz]
          rw [if_neg (by have : n * G.csz t ≤ 16777216 := hbig; omega)]
          have hf' : Instr.fill (fun i => some (i * G.csz t, G.csz t)) (Array.map (fun x => z.cells[x % z.cells.size]!) (Array.range (n * G.csz t))) (Array.map (fun (x : Nat × Operand) => (x.1, a.eval x.2)) ps).toList = some vs.toArray := by
            rw [hps]; rw [Array.toArray_toList] at hf; exact hf
          by_cases h0 : n * G.csz t = 0
          · rw [if_pos h0]
            have e0 : Array.map (fun x => (#[] : Array Value)[x % (#[] : Array Value).size]!) (Array.range (n * G.csz t)) = Array.map (fun x => z.cells[x % z.cells.size]!) (Array.range (n * G.csz t)) := by rw [h0]; simp
            rw [Sem.run_bind]
            simp only [Sem.run_pure, Result.andThen_ok]
            rw [e0, hf']
            rfl
          · rw [if_neg h0, Sem.run_bind, run_zero hie hzr]
            simp only [Result.andThen_ok]
            rw [Sem.run_bind]
            simp only [Sem.run_pure, Result.andThen_ok]
            rw [hf']
            rfl
        · cases h
      · cases h
    · cases h
  · cases h
end Go.Proofs.YtmcbhnbemhfifaaDoor.RX
