/- A function: its contract, of its evaluation. Conditions: SigOK, TabOK, the contracts of what is called, the places told by patterns. -/
import Derived.Test.YtmcbhnbemhfifaaDoorRx19
namespace Go.Proofs.YtmcbhnbemhfifaaDoor.RX
open Go Go.RowKit
set_option autoImplicit false
variable {G : Sig} {P : Program} {W : Rights} {w0 w w' : World} {Z Z' : Nat → Nat → Prop} {pl pl' : Nat → Value} {N : Nat} {L : St G} {a : Act}

def resM (tmps : Array Value) : ResultVar → Sem Value
  | .tmp t => pure (tmps.getD t undef)
  | .cell t T => do loadVar T (← asAddr (tmps.getD t undef))
theorem resK_ok (ht : TabOK P G) (S : Sat N W w0 Z pl L a w) : ∀ {rs : List ResultVar} {j : Nat} {ds : List (Nat × DV G)}, resK L j rs = some ds →
    ∃ vals : List Value, (rs.mapM (resM a.tmps)).run P w = .ok vals w ∧ vals.length = rs.length ∧ ds.map (·.1) = List.range' j rs.length ∧ ∀ t d, get ds t = some d → j ≤ t ∧ DVOK Z w pl L.nx d (vals.getD (t - j) undef)
  | [], j, ds, h => by simp only [resK, Option.some.injEq] at h; subst h; exact ⟨[], rfl, rfl, rfl, fun t d hg => by simp [get] at hg⟩
  | rv :: rs, j, ds, h => by
    have step : ∀ (s : SV G) (u : Value) (l : List (Nat × DV G)), (resM a.tmps rv).run P w = .ok u w → SVOK Z w pl L.nx s u → resK L (j + 1) rs = some l → ds = (j, .sv s) :: l →
        ∃ vals : List Value, ((rv :: rs).mapM (resM a.tmps)).run P w = .ok vals w ∧ vals.length = (rv :: rs).length ∧ ds.map (·.1) = List.range' j (rv :: rs).length ∧ ∀ t d, get ds t = some d → j ≤ t ∧ DVOK Z w pl L.nx d (vals.getD (t - j) undef) := by
      intro s u l h1 h2 h3 h4
      subst h4
      obtain ⟨vals, k1, k2, k3, k4⟩ := resK_ok ht S h3
      refine ⟨u :: vals, ?_, by simp [k2], by simp only [List.map_cons, k3, List.length_cons, List.range'_succ], fun t d hg => ?_⟩
      · rw [List.mapM_cons, Sem.run_bind, h1]
        simp only [Result.andThen_ok]
        rw [Sem.run_bind, k1]
        rfl
      · rw [get_cons] at hg
        split at hg
        · rename_i e
          injection hg with hg
          subst e hg
          rw [Nat.sub_self]
          exact ⟨Nat.le_refl _, h2⟩
        · obtain ⟨m1, m2⟩ := k4 t d hg
          refine ⟨by omega, ?_⟩
          rw [show t - j = (t - (j + 1)) + 1 by omega, List.getD_cons_succ]
          exact m2
    cases rv with
    | tmp t =>
      simp only [resK] at h
      split at h
      · rename_i s hs
        split at h
        · rename_i l hl
          injection h with h
          exact step s _ l rfl (S.tm t _ hs) hl h.symm
        · cases h
      · cases h
    | cell t T =>
      simp only [resK] at h
      split at h
      · rename_i i off ti hx hti
        have tk := ht T ti hti
        split at h
        · rename_i ro ls hg
          split at h
          · rename_i hle
            rw [len_eq, len_eq] at hle
            have hle := ble_iff.1 hle
            split at h
            · rename_i s hsl
              rw [len_eq] at hsl
              split at h
              · rename_i l hl
                injection h with h
                obtain ⟨⟨_, b, hb, hv⟩, _⟩ := S.tm t _ hx
                obtain ⟨b', T', cs, k1, k2, k3⟩ := S.mem.ob i _ hg
                rw [hb] at k1
                injection k1 with k1
                injection k1 with k1
                injection k1 with k1
                subst k1
                have hlen := k3.length
                obtain ⟨u, u1, u2, u3, _⟩ := svLs_ok hsl ((k3.drop off).take ti.leaves.length)
                obtain ⟨u', v1, v2, v3⟩ := run_loadAt (w := w) ti tk (b := b) (off := off) (cs := (cs.drop off).take ti.leaves.length) (fun j v hj => by
                  rw [List.getElem?_take] at hj
                  split at hj
                  · rw [List.getElem?_drop] at hj
                    exact row_cells k2 _ _ hj
                  · cases hj) (by rw [List.length_take, List.length_drop]; omega)
                have : u' = u := by
                  cases hagg : ti.agg with
                  | true => rw [v2 hagg, u2 hagg]
                  | false => have := (v3 hagg).symm.trans (u3 hagg); injection this
                subst this
                refine step s u' l ?_ u1 hl h.symm
                show ((do loadVar T (← asAddr (a.tmps.getD t undef))) : Sem Value).run P w = _
                rw [hv]
                have v1' := v1
                unfold Instr.loadAt at v1'
                simp only [Instr.sureAddr, Sem.run_bind, Sem.run_pure, Result.andThen_ok] at v1'
                simp only [asAddr, Sem.run_bind, Sem.run_pure, Result.andThen_ok]
                exact v1'
              · cases h
            · cases h
          · cases h
        · cases h
      · cases h
theorem results_run {fn : Func} {tmps : Array Value} {vals : List Value} (h : (fn.results.toList.mapM (resM tmps)).run P w = .ok vals w) : (results fn tmps).run P w = .ok (if _h : vals.toArray.size = 1 then vals.toArray[0] else .tuple vals.toArray) w := by
  unfold results
  rw [Sem.run_bind]
  have e : (fn.results.mapM (fun (x : ResultVar) => match x with
    | .tmp t => (pure (tmps.getD t undef) : Sem Value)
    | .cell a t => do loadVar t (← asAddr (tmps.getD a undef)))).run P w = (Result.ok vals.toArray w : Result (Array Value)) := by
    rw [Array.mapM_eq_mapM_toList, Sem.run_map]
    have : (fun (x : ResultVar) => match x with
      | .tmp t => (pure (tmps.getD t undef) : Sem Value)
      | .cell a t => do loadVar t (← asAddr (tmps.getD a undef))) = resM tmps := by
      funext x
      cases x <;> rfl
    rw [this, h]
    rfl
  erw [e]
  rfl
theorem fn_ok (hs : SigOK G) (ht : TabOK P G) (hm : P.follows .mixedOrders = true) {fid : FuncId} {fn : Func} {body : Code} (hf : P.funcs[fid]? = some fn) (hb : fn.body = some body) (hname : (fn.name == "runtime.NumGoroutine") = false)
    (c : Ct G) (E : Nat → Env G (HL G.S c.ots)) (k : Nat) (hN : ∀ j, (E j).N = fn.ntmps) (hk : ∀ j, (E j).k = j) (hpre : ∀ j, (E j).pre = fixOf 0 c.ip.objs) (hl : ∀ j, (E j).loops = (E 0).loops) (hj : ∀ j, (E j).joins = (E 0).joins) (ho : ∀ j, (E j).ords = (E 0).ords) (hords : ordsB G (E 0).ords body = true)
    (hct : ∀ j, j ≤ k → ∀ f c', (E j).ct f = some c' → c'.Holds P f) (hgood : AllGood E (ptsOf E body (fun _ => retK fn c))) (hF : ∀ h, c.F h = semF c (E k) fn body h)
    (hsz : c.ip.tmps.length ≤ fn.ntmps) (hrs : c.rp.tmps.length = fn.results.toList.length) (wf : okIO c.ip.objs c.rp.objs = true) (keys : keysOK 0 c.rp.tmps = true) (brw : c.br = true → brOK c = true) : c.Holds P fid := by
  refine ⟨wf, keys, brw, fun Wr Z pl w args h r hFr hargs htm M => .inr ⟨?_, ?_⟩⟩
  · simp only [callFunc, Sem.run_bind, run_program, Result.andThen_ok, hf]
    rw [if_neg (by rw [hname]; decide), hb]
    rfl
  · refine calls_of_wp hf hb ?_
    rw [hF] at hFr
    let W : Rights := ⟨Wr, Z, fixOf 0 c.ip.objs, pl⟩
    have F : Fam P W E := ⟨fun j => by rw [hN, hN], hk, hpre, hl, hj, ho⟩
    have S : Sat (E 0).N W w Z pl (instP c.ip (ofHL c.its h)) { tmps := args ++ Array.replicate (fn.ntmps - args.size) undef, defers := [] } w := by
      refine ⟨?_, rfl, fun t d hg => ?_, M⟩
      · rw [hN]; simp only [Array.size_append, Array.size_replicate]; omega
      · have := htm t d hg
        have e : (args ++ Array.replicate (fn.ntmps - args.size) undef).getD t undef = args.getD t undef := by
          rw [Array.getD_eq_getD_getElem?, Array.getD_eq_getD_getElem?, Array.getElem?_append]
          split
          · rfl
          · rename_i hlt
            rw [Array.getElem?_eq_none (xs := args) (by omega), Array.getElem?_replicate]
            split <;> rfl
        show DVOK _ _ _ _ _ ((args ++ Array.replicate (fn.ntmps - args.size) undef).getD t undef)
        rw [e]
        exact this
    refine semC_ok (W := W) hs ht hm F r body k hct (fun _ => retK fn c) _ _ _ w Z pl hFr S hgood hords (fun ch a d v w h => by cases d <;> exact h) ?_
    intro k' _ e L' a' w' Z' pl' h' S'
    have fin : (match resK L' 0 fn.results.toList with
      | some ds => match closeAll L' with
        | ⟨_, ob, nx⟩ => match wkDs ob c.rp.tmps ds with
          | (ds', gs) => gdK gs (retM c ds' ob nx)
      | none => none) = some r → a'.defers = [] ∧ ∃ v, (results fn a'.tmps).run P w' = .ok v w' ∧ ∃ v', Ending.returned v = .returned v' ∧ ∃ Z' pr,
      (∀ t d, get (instP c.rp (ofHL c.ots r)).tmps t = some d → DVOK Z' w' pr (instP c.rp (ofHL c.ots r)).nx d (compV c.rp.tmps.length v' t)) ∧
      (c.rp.tmps.length = 1 ∨ ∃ vs : List Value, v' = .tuple vs.toArray ∧ vs.length = c.rp.tmps.length) ∧
      Mem W w Z' pr (instP c.rp (ofHL c.ots r)).objs (instP c.rp (ofHL c.ots r)).nx w' := by
      intro h'
      split at h'
      · rename_i ds hds
        obtain ⟨vals, r1, r2, r3, r4⟩ := resK_ok ht S' hds
        have hnx := (closeAll_tm L').2
        have S2 := S'.closeAll
        generalize closeAll L' = LC at h' hnx S2
        cases LC with
        | mk tm ob nx =>
        have hnx : nx = L'.nx := hnx
        simp only at h'
        obtain ⟨hgs, h'⟩ := gdK_some h'
        simp only [retM] at h'
        have M2 : Mem W w Z' pl' ob nx w' := S2.mem
        split at h'
        · rename_i m hm
          obtain ⟨Z2, pl2, H⟩ := matchP_ok hs hm (show Mem W w Z' pl' ob nx w' from S2.mem) (idRen_lt (fun j hj => (S2.mem.fx j hj).1)) (val := fun t => vals.getD t undef)
            (wkDs_ok M2 hgs (val := fun t => vals.getD t undef) fun t d hg => by have := (r4 t d hg).2; rw [Nat.sub_zero] at this; rw [hnx]; exact this)
          obtain ⟨m1, m2⟩ := Matched.inst H
          have e := toHL_ofHL h'
          refine ⟨S'.defers, _, results_run r1, _, rfl, Z2, renF m.ren pl2, ?_, ?_, by rw [e]; exact m1⟩
          · rw [e]
            intro t d hg
            have hd := m2 t d hg
            have hkeys : (instP c.rp m.out).tmps.map (·.1) = List.range' 0 c.rp.tmps.length := by
              have : (instP c.rp m.out).tmps = (iTmps (fun j => j) c.rp.tmps m.out).1 := rfl
              rw [this, iTmps_keys, keysOK_ok keys]
            have hlt : t < c.rp.tmps.length := by
              have hm := List.mem_map_of_mem (f := fun x => x.1) (get_mem hg)
              rw [hkeys, List.mem_range'_1] at hm
              omega
            have hvl : vals.length = c.rp.tmps.length := by rw [r2, hrs]
            unfold compV
            split
            · rename_i h1
              rw [dif_pos (by rw [List.size_toArray, hvl, h1])]
              have ht0 : t = 0 := by omega
              subst ht0
              rw [show vals.getD 0 undef = vals.toArray[0]'(by rw [List.size_toArray]; omega) from by simp [List.getD, show 0 < vals.length by omega]] at hd
              exact hd
            · rename_i h1
              rw [dif_neg (by rw [List.size_toArray, hvl]; exact h1)]
              simp only
              rw [show vals.toArray.getD t undef = vals.getD t undef from by simp [Array.getD_eq_getD_getElem?, List.getD_eq_getElem?_getD]]
              exact hd
          · by_cases h1 : c.rp.tmps.length = 1
            · exact .inl h1
            · refine .inr ⟨vals, ?_, by rw [r2, hrs]⟩
              rw [dif_neg (by rw [List.size_toArray, r2, ← hrs]; exact h1)]
        · cases h'
      · cases h'
    cases e with
    | nrm => exact fin h'
    | exit i => cases h'
    | ret => exact fin h'
end Go.Proofs.YtmcbhnbemhfifaaDoor.RX
