/- Operations, one by one: rows made with a length; conversions. Conditions: SigOK, TabOK. -/
import Derived.Test.YtmcbhnbemhfifaaDoorRx13
import Derived.Laws.OwnMore
import Derived.Laws.IdiomStrings
namespace Go.Proofs.YtmcbhnbemhfifaaDoor.RX
open Go Go.RowKit
set_option autoImplicit false
variable {G : Sig} {R : Type} {P : Program} {W : Rights} {w0 w w' : World} {Z Z' : Nat → Nat → Prop} {pl pl' : Nat → Value} {N : Nat}
variable {E : Env G R} {o : Oper} {L : St G} {K : St G → Option R} {r : R} {a : Act} {next : Act → World → Prop} {Q : Exit → Act → World → Prop}

theorem run_nil_bytes (A : Option Addr) (c : Nat) : (Conv.bytesToString (.slice A 0 c)).run P w = .ok (.string (strOf [])) w := by
  cases A with
  | none => rfl
  | some b => exact run_bytesToString w b 0 c [] (by rfl)
theorem row_string (xs : List Int) (A : Option Addr) (c : Nat) (hcell : xs.length = 0 ∨ ∃ b off, A = some ⟨b, off, none⟩ ∧ ∃ vs, RowC G Z w (.int .u8) xs vs ∧ ∀ (j : Nat) (v : Value), vs[j]? = some v → w.cell? ⟨b, off + j, none⟩ = some v) :
    (Conv.bytesToString (.slice A xs.length c)).run P w = .ok (.string (strOf xs)) w := by
  rcases hcell with h0 | ⟨b, off, rfl, vs, hR, hcl⟩
  · have hn : xs = [] := List.eq_nil_of_length_eq_zero h0
    subst hn
    exact run_nil_bytes A c
  · have hvs : ∀ (xs : List Int) (vs : List Value), RowC G Z w (.int .u8) xs vs → vs = xs.map (Value.int .u8) := by
      intro xs
      induction xs with
      | nil => intro vs h; exact h
      | cons x xs ih =>
        rintro vs ⟨cs, vs', rfl, _, h1, h2⟩
        cases h1
        rw [ih vs' h2]
        rfl
    have hvs := hvs xs vs hR
    subst hvs
    have hl := run_loadCells_list (P := P) w ⟨b, off, none⟩ (List.map (Value.int .u8) xs) (fun j v hj => by rw [add_at]; exact hcl j v hj)
    simp only [List.length_map] at hl
    exact run_bytesToString w _ _ c _ hl
theorem op_convert_any (hs : SigOK G) {T T' : TypeId} {x : Operand} (ht : TabOK P G) (ho : o.op = .convert T T' x) (h : semOp E o L K = some r) (S : Sat E.N W w0 Z pl L a w) (hK : Then E W w0 K r next) : o.wp P a w next Q := by
  have h0 := h
  simp only [semOp, ho] at h
  split at h
  · rename_i k n hx
    split at h
    · rename_i e1 e2
      exact rd_wp (pu_rd (op_convert ht ⟨_, _, _, _, e1⟩ ho h0 S hK))
    · cases h
  · rename_i s hx
    have e := str_val (evalO_ok S hx)
    split at h
    · rename_i _ _ _ _ _ _ e1 e2
      have i1 := (ht T _ e1).str rfl
      have i2 := (ht T' _ e2).str rfl
      exact rd_wp (op_read (run_conv ho (u := .string s) (by rw [e]; simp [convert, run_und i1, run_und i2])) h S (val_str _) hK)
    · rename_i el e1 e2
      split at h
      · rename_i e3
        have i1 := (ht T _ e1).str rfl
        have i3 := (ht el _ e3).int .u8 rfl
        obtain ⟨i2, _⟩ := (ht T' _ e2).sl el (.int .u8) rfl
        have hrun := Lib.run_convert_string_bytes (P := P) w T T' el s i1 i2 i3
        have hsz := Lib.bytesWorld_size w el s
        have old := Lib.bytesWorld_at_old w el s
        have M := S.mem
        have X : Ext Z w pl L.nx (fun b i => Z b i ∨ b = w.heap.size) (Lib.bytesWorld w el s) pl L.nx :=
          ⟨Nat.le_refl _, fun _ _ => rfl, fun _ _ h => .inl h, fun b i hz => Lib.bytesWorld_old w el s ⟨b, i, none⟩ (M.zlt b i hz)⟩
        have hbase : w0.heap.size ≤ w.heap.size := M.fr.size
        have F : Fr W w0.heap.size w (Lib.bytesWorld w el s) := by
          refine ⟨?_, ?_, ?_, by rw [hsz]; omega, fun b hb _ => old b (by omega), fun b cs T fr hb _ hc => ⟨cs, by rw [old b (by omega)]; exact hc, rfl, fun _ _ => rfl⟩⟩ <;>
            simp [Lib.bytesWorld, World.freeze, World.alloc, World.drew, -World.alloc_eq, -World.drew_eq]
        have M' := M.keep X (fun o b k hg hl hk => ⟨old k (M.blt hg hl hk), fun i hz => hz.elim (M.zfar o b k hg hl hk i) (fun h => by have := M.blt hg hl hk; omega)⟩)
          (fun b i hz => hz.elim (fun h => by have := M.zlt b i h; omega) (fun h => by omega)) (fun b i hz => hz.elim .inl (fun h => .inr (.inl (by omega)))) F
          (M.tr.elim fun f T => ⟨f, T, fun o k hk => ⟨old k (T.lt o k hk), fun i hz => hz.elim (T.zfar o k hk i) (fun h => by have := T.lt o k hk; omega)⟩⟩)
        refine op_value (run_conv ho (by rw [e]; exact hrun)) h (S.at X M' rfl) ⟨?_, rfl⟩ hK
        exact bytes_rep w el s Z
      · cases h
    · cases h
  · rename_i l n1 n2 hx
    have hu := evalO_ok S hx
    split at h
    · rename_i el _ _ _ e1 e2
      have i2 := (ht T' _ e2).str rfl
      obtain ⟨i1, _⟩ := (ht T _ e1).sl el (.int .u8) rfl
      split at h
      · rename_i e3
        have i3 := (ht el _ e3).int .u8 rfl
        split at h
        · rename_i e' t' xs hro
          split at h
          · rename_i ys hc
            have hc := castTo_eq hc
            have h1 : (⟨.sl e' t', xs⟩ : TV G) = ⟨.sl el (.int .u8), ys⟩ := hc
            injection h1 with h1 h2
            injection h1 with h1 h3
            subst h1 h3
            have h2 := eq_of_heq h2
            subst h2
            obtain ⟨A, c, hq, hcell⟩ := row_reads hs S hu hro
            refine rd_wp (op_read (u := .string (strOf xs)) (run_conv ho ?_) h S (val_str _) hK)
            have hq : a.eval x = .slice A (List.length xs) c := hq
            rw [hq, run_convert_bytes_string w T T' e' A _ c i1 i3 i2]
            exact row_string (G := G) (Z := Z) xs A c hcell
          · cases h
        · cases h
      · cases h
    · cases h
  · cases h

theorem madeCells_rows (z : Array Value) (s : Nat) (hz : z.size = s) (hp : 0 < s) : ∀ n : Nat, (madeCells z (n * s)).toList = (List.replicate n z.toList).flatten := by
  intro n
  unfold madeCells
  rw [Array.toList_map, Array.toList_range]
  induction n with
  | zero => simp
  | succ n ih =>
    rw [Nat.succ_mul, List.range_add, List.map_append, ih, List.replicate_succ', List.flatten_append, List.flatten_cons, List.flatten_nil, List.append_nil, List.map_map]
    congr 1
    subst hz
    refine List.ext_getElem (by simp) fun i h1 h2 => ?_
    have hi : i < z.size := by simpa using h1
    simp [Nat.mul_add_mod, Nat.mod_eq_of_lt hi, hi, Nat.add_mod]
theorem RowC.replicate {t : Ty} {x : G.D t} {cs : List Value} (hl : cs.length = G.csz t) (h : RepC G Z w t x cs) : ∀ n : Nat, RowC G Z w t (List.replicate n x) (List.replicate n cs).flatten
  | 0 => rfl
  | n + 1 => ⟨cs, (List.replicate n cs).flatten, by rw [List.replicate_succ, List.flatten_cons], hl, h, RowC.replicate hl h n⟩
theorem ownLsB_ok {nx : Nat} : ∀ {ls : List (Leaf G)} {us : List Value}, ownLsB ls = true → LsOK Z w pl nx ls us → ∃ fps, LvO w ls us fps ∧ fps.flatten = []
  | [], us, _, hu => ⟨[], ⟨hu, rfl⟩, rfl⟩
  | l :: ls, _, h, ⟨u, us, e, h1, h2⟩ => by
    subst e
    have go : ownLsB ls = true → LfO w l u [] → ∃ fps, LvO w (l :: ls) (u :: us) fps ∧ fps.flatten = [] := by
      intro hb hl
      obtain ⟨fps, k1, k2⟩ := ownLsB_ok hb h2
      exact ⟨[] :: fps, ⟨u, us, [], fps, rfl, rfl, hl, k1⟩, by rw [List.flatten_cons, k2]; rfl⟩
    have h0 := h1.1
    cases l with
    | val t x =>
      have h0 : RepC G Z w t x [u] := h0
      cases t with
      | int k => exact go h ⟨by cases h0; exact .int k _, h1.2⟩
      | bool => exact go h ⟨by cases h0; exact .bool _, h1.2⟩
      | str => exact go h ⟨by cases h0; exact .str _, h1.2⟩
      | _ => cases h
    | kb b => exact go h ⟨h0, rfl⟩
    | nils => exact go h ⟨h0, rfl⟩
    | _ => cases h
theorem OwnR.replicate {t : Ty} {x : G.D t} {cs : List Value} (hl : cs.length = G.csz t) (h : OwnC G w t x cs []) : ∀ n : Nat, OwnR G w t (List.replicate n x) (List.replicate n cs).flatten []
  | 0 => .nil t
  | n + 1 => by
    have := OwnR.cons t x _ cs _ [] [] hl h (OwnR.replicate hl h n)
    rw [List.replicate_succ, List.replicate_succ, List.flatten_cons]
    simpa using this
theorem op_makeSlice (hs : SigOK G) (ht : TabOK P G) {T : TypeId} {l c : Operand} (ho : o.op = .makeSlice T l c) (h : semOp E o L K = some r) (S : Sat E.N W w0 Z pl L a w) (hK : Then E W w0 K r next) : o.wp P a w next Q := by
  simp only [semOp, ho] at h
  split at h
  · rename_i n m hn hm
    obtain ⟨kl, hel⟩ := intOf_ok S hn
    obtain ⟨kc, hec⟩ := intOf_ok S hm
    split at h
    · rename_i e t hT
      obtain ⟨hu, i, z, hie, hsz, hzr, hzs, hpos, hcb, hcap⟩ := (ht T _ hT).sl e t rfl
      split at h
      · rename_i te hte
        have tk := ht e te hte
        split at h
        · rename_i ls hls
          split at h
          · rename_i s hsv
            split at h
            · rename_i v L' hv
              split at h
              · rename_i x hx
                split at h
                · rename_i hnm
                  subst hnm
                  split at h
                  · rename_i h0
                    split at h
                    · rename_i hn1
                      have hz0 : zls (G := G) te.leaves ≠ none := by rw [hls]; exact Option.some_ne_none _
                      obtain ⟨i', hi', _, hzr'⟩ := tk.size
                      have : i' = i := Option.some.inj (hi'.symm.trans hie)
                      subst this
                      have hzz : z = zval te := Option.some.inj (hzr.symm.trans (hzr' hz0))
                      have hzc := zval_cells tk.one hz0
                      obtain ⟨u, q1, q2, q3, _⟩ := svLs_ok (Z := Z) (w := w) (pl := pl) (nx := L.nx) hsv (zls_ok hls).1
                      obtain ⟨Z', T1, _, R1⟩ := svTV_ok hs hv S.mem q1
                      have R1 := R1.cast hx
                      have hcu : u.cells.toList = (zval te).cells.toList := by
                        rw [hzc]
                        cases hag : te.agg with
                        | true => rw [q2 hag]; rfl
                        | false =>
                          have e1 := q3 hag
                          rw [e1]
                          have : u.oneCell' = true := by
                            rw [hag] at hsv
                            simp only [svLs] at hsv
                            split at hsv
                            · injection hsv with hsv; subst hsv; exact q1.2
                            · cases hsv
                          exact cells_one this
                      rw [hcu, ← hzz] at R1
                      have S1 := T1.sat S
                      obtain ⟨k, rfl⟩ := Int.eq_ofNat_of_zero_le h0
                      have hk : k ≤ G.cap e := by omega
                      have hbytes : i'.bytes * k ≤ 281474976710656 := by
                        have : i'.bytes * k ≤ G.cap e * i'.bytes := by rw [Nat.mul_comm (G.cap e)]; exact Nat.mul_le_mul_left _ hk
                        omega
                      obtain ⟨w1, hr, own, gr⟩ := run_make_full (P := P) w 0 T e i' z (G.csz t) hu hie hzr hsz kl kc k hbytes (Nat.le_trans hk hcap) (Nat.zero_le _)
                      cases L' with
                      | mk tm ob nx =>
                      simp only [newOb] at h
                      let v' : Value := .slice (some ⟨w.heap.size, 0, none⟩) k k
                      have hpl : upd pl nx v' nx = v' := upd_same _ _ _
                      have old : ∀ b, b < w.heap.size → w1.heap[b]? = w.heap[b]? := fun b hb => gr.block b hb (fun h => by cases h)
                      have X := (Ext.of_chg (Z := Z') (pl := pl) (nx := nx) (fun b i hz => old b (S1.mem.zlt b i hz))).upd rfl v'
                      have hrun : (execOp a.eval o).run P w = .ok (.value v') w1 := by
                        unfold execOp
                        rw [ho]
                        refine run_v _ ?_
                        rw [hel, hec]
                        exact hr
                      split at h
                      · rename_i hfz hown
                        have q1' : LsOK Z w pl L.nx ls (zval te).cells.toList := by
                          rw [← hcu]
                          have := q1.cells
                          cases hag : te.agg with
                          | true => rw [hag] at hsv; simp only [svLs, Option.some.injEq] at hsv; subst hsv; exact this
                          | false =>
                            rw [hag] at hsv
                            simp only [svLs] at hsv
                            split at hsv
                            · injection hsv with hsv; subst hsv; exact this
                            · cases hsv
                        obtain ⟨fps, f1, f2⟩ := ownLsB_ok hown q1'
                        have hsl : s.ls = ls := by
                          cases hag : te.agg with
                          | true => rw [hag] at hsv; simp only [svLs, Option.some.injEq] at hsv; subst hsv; rfl
                          | false =>
                            rw [hag] at hsv
                            simp only [svLs] at hsv
                            split at hsv
                            · cases hsv; rfl
                            · cases hsv
                        obtain ⟨_, _, hC⟩ := svTV_own hs hv (w := w) (us := (zval te).cells.toList) (fps := fps) (by rw [hsl]; exact f1)
                        have := castTo_eq hx
                        subst this
                        rw [f2, ← hzz] at hC
                        have hRow : OwnR G w t (List.replicate k x) (madeCells z.cells (k * G.csz t)).toList [] := by
                          rw [madeCells_rows _ _ hzs hpos]
                          exact OwnR.replicate (by rw [Array.length_toList]; exact hzs) hC k
                        have hRow1 := hRow.mono (w' := w1) (fun k hk => by cases hk)
                        have hown1 : w1.ownsRow 0 e (G.csz t) (upd pl nx v' nx) (List.replicate k x).length (madeCells z.cells (k * G.csz t)).toList := by rw [hpl, List.length_replicate]; exact own
                        obtain ⟨M, X⟩ := S1.mem.new (w' := w1) (.tr e t (List.replicate k x)) (.cells #[] e) v' rfl (Fr.of_grown gr S1.mem.fr.size (fun k hk => by cases hk)) old
                          ⟨_, hown1⟩ (fun f T hn => by
                            have T1 := (T.kill nx).set nx [] (fun b hb => by rw [get_same] at hb; cases hb; trivial) List.nodup_nil (fun k hk => by cases hk)
                            refine ⟨_, (T1.put nx (.tr e t (List.replicate k x)) ?_ (fun _ k hk o' hm => ?_)).congr (fun n => by simp only [get_cons]; split <;> rfl)⟩
                            · show ∃ vs, _ ∧ OwnR G w1 t _ vs (if nx = nx then [] else f nx)
                              rw [if_pos rfl]
                              exact ⟨_, hown1, hRow1⟩
                            · rw [hpl] at hk
                              injection hk with hk
                              subst hk
                              have hm : w.heap.size ∈ (if o' = nx then [] else f o') := hm
                              split at hm
                              · cases hm
                              · exact hn o' hm)
                        exact op_value hrun h (S1.at X M rfl) ⟨⟨Nat.lt_succ_self _, hpl.symm⟩, rfl⟩ hK
                      · cases h
                      have hRow : RowC G Z' w t (List.replicate k x) (madeCells z.cells (k * G.csz t)).toList := by
                        rw [madeCells_rows _ _ hzs hpos]
                        exact RowC.replicate (by rw [Array.length_toList]; exact hzs) R1 k
                      obtain ⟨M, X⟩ := S1.mem.newP (w' := w1) (.arr e t (List.replicate k x)) (.cells #[] e) v' rfl (Fr.of_grown gr S1.mem.fr.size (fun k hk => by cases hk)) old
                        ⟨_, by rw [hpl, List.length_replicate]; exact own, hRow.mono X.hZ X.hw⟩
                      exact op_value hrun h (S1.at X M rfl) ⟨⟨Nat.lt_succ_self _, hpl.symm⟩, rfl⟩ hK
                    · cases h
                  · cases h
                · cases h
              · cases h
            · cases h
          · cases h
        · cases h
      · cases h
    · cases h
  · cases h
end Go.Proofs.YtmcbhnbemhfifaaDoor.RX
