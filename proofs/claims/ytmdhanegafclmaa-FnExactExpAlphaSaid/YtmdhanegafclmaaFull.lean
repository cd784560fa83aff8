/- A slice that was cut to its own length ('xs[:n:n]') and is then appended to: it is either what came in, full, or a row of the call's own (Kd.G); the first append makes it the latter. No condition. -/
import Derived.Test.YtmdhanegafclmaaWWords
import Derived.Test.YtmdhanegafclmaaWLast
import Derived.Test.YtmdhanegafclmaaWZeros
import Derived.ArgAppend
import Derived.Deep.RegionLawGrows
namespace Go.Proofs.YtmdhanegafclmaaW.PrintWords
open Go.RowKit
namespace Kd
section
variable {α : Type} {d : Kd α} {e : Nat} {w w1 : World} {base : Nat} {ok : Nat → Prop} {v : Value} {xs : List α}
/-- What came in, with no room behind it, or a row of one's own. -/
def G (d : Kd α) (e : Nat) (w : World) (base : Nat) (ok : Nat → Prop) (v : Value) (xs : List α) : Prop :=
  d.R e w base ok v xs ∨ ∃ A, v = .slice A xs.length xs.length ∧ d.C w A xs.length xs
theorem G_of_R (h : d.R e w base ok v xs) : G d e w base ok v xs := .inl h
theorem G_came {A : Option Addr} (h : d.C w A xs.length xs) : G d e w base ok (.slice A xs.length xs.length) xs := .inr ⟨A, rfl, h⟩
theorem G_below (h : G d e w base ok v xs) (hb : Below w.heap.size w w1) : G d e w1 base ok v xs := by
  rcases h with h | ⟨A, rfl, h⟩
  · exact .inl (R_below h hb)
  · exact .inr ⟨A, rfl, C_below h hb⟩
theorem G_alloc (h : G d e w base ok v xs) (o : Obj) : G d e (w.alloc o) base ok v xs := G_below h (below_alloc (Below.refl _ _) o)
theorem G_drew (h : G d e w base ok v xs) : G d e w.drew base ok v xs := G_below h (below_drew (Below.refl _ _))
theorem G_drewN (h : G d e w base ok v xs) (m : Nat) : G d e (w.drewN m) base ok v xs := G_below h (pw_below_drewN (Below.refl _ _) m)
theorem G_slice (h : G d e w base ok v xs) : ∃ A c, v = .slice A xs.length c := by
  rcases h with h | ⟨A, rfl, _⟩
  · exact R_slice h
  · exact ⟨A, _, rfl⟩
theorem G_reads' {A : Option Addr} {n c : Nat} (h : G d e w base ok (.slice A n c) xs) : n = xs.length ∧ n ≤ c ∧ d.C w A xs.length xs := by
  rcases h with h | ⟨A', he, h⟩
  · exact R_reads' h
  · injection he with h1 h2 h3
    subst h1 h2 h3
    exact ⟨rfl, Nat.le_refl _, h⟩
/-- The cells of a row that is read, one behind the other. -/
theorem C_cells (hKM : ∀ (W W' : World) (b : Nat) (okp : Nat → Prop) (x : α) (c : List Value), d.K W x c → d.M W' b okp x c) {A : Option Addr} (h : d.C w A xs.length xs) :
    ∃ inner : List Value, inner.length = xs.length * d.sz ∧ (∀ b, A = some b → ∀ j u, inner[j]? = some u → w.cell? (b.add j) = some u) ∧ ∀ (W' : World) (b : Nat) (okp : Nat → Prop), Reps (d.M W' b okp) d.sz xs inner := by
  rcases Nat.eq_zero_or_pos xs.length with h0 | h0
  · obtain rfl : xs = [] := List.eq_nil_of_length_eq_zero h0
    exact ⟨[], by simp, fun b _ j u hu => by simp at hu, fun _ _ _ => Reps.none _ _⟩
  · obtain ⟨ad, rfl, hc⟩ := h.2.2 h0
    have key : ∀ n, n ≤ xs.length → ∃ inner : List Value, inner.length = n * d.sz ∧ (∀ j u, inner[j]? = some u → w.cell? (ad.add j) = some u) ∧ ∀ (W' : World) (b : Nat) (okp : Nat → Prop), Reps (d.M W' b okp) d.sz (xs.take n) inner := by
      intro n
      induction n with
      | zero => exact fun _ => ⟨[], by simp, fun j u hu => by simp at hu, fun _ _ _ => by simpa using Reps.none _ _⟩
      | succ n ih =>
        intro hn
        obtain ⟨inner, hl, hcell, hr⟩ := ih (by omega)
        obtain ⟨c, hcl, hK, hcc⟩ := hc n xs[n] (List.getElem?_eq_getElem (by omega))
        refine ⟨inner ++ c, by rw [List.length_append, hl, hcl, Nat.add_mul, Nat.one_mul], fun j u hu => ?_, fun W' b okp => ?_⟩
        · rcases Nat.lt_or_ge j inner.length with hj | hj
          · rw [List.getElem?_append_left hj] at hu
            exact hcell j u hu
          · rw [List.getElem?_append_right hj] at hu
            have := hcc (j - inner.length) u hu
            rwa [hl, show n * d.sz + (j - n * d.sz) = j from by omega] at this
        · rw [List.take_succ_eq_append_getElem (by omega)]
          exact (hr W' b okp).snoc (hKM _ _ _ _ _ _ hK) hcl
    obtain ⟨inner, hl, hcell, hr⟩ := key xs.length (Nat.le_refl _)
    rw [List.take_length] at hr
    exact ⟨inner, hl, fun b hb => by injection hb with hb; subst hb; exact hcell, hr⟩
end
section
variable {P : Program} {ops : Array Oper} {o : Oper} {a : Act} {Q : Exit → Act → World → Prop} {Kc : Act → World → Prop} {α : Type}
theorem G_append_step (d : Kd α) (hKM : ∀ (W W' : World) (b : Nat) (okp : Nat → Prop) (x : α) (c : List Value), d.K W x c → d.M W' b okp x c) {w0 W : World} (base : Nat) (hw : Region.wanted o (yielded ops a.tmps) = true) (s x : Operand) (t e : TypeId) (z : Value) (bytes : Nat)
    (ho : o.op = .call { callee := .builtin .append, args := #[s, x], argTypes := #[t, t] })
    (ht : P.underlying t = some (.slice e)) (hinfo : (P.info? e).map (fun i => (i.zero, i.size, i.bytes)) = some (some z, d.sz, bytes)) (hz : z.cells.size = d.sz) (hs0 : 0 < d.sz) (hb0 : 0 < bytes)
    (v : Value) (xs : List α) (p : α) (cs : List Value) (ok okp : Nat → Prop) (hs : a.eval s = v) (hx : a.eval x = .slice (some ⟨W.heap.size, 0, none⟩) 1 1) (hp : d.M W base okp p cs) (hokp : ∀ k, okp k → ok k ∧ some k ≠ v.ownBlock) (hfresh : ∀ k, W.heap.size ≤ k → ok k)
    (HO : G d e W base ok v xs) (HB : Below base w0 W) (hbase : base ≤ W.heap.size) (hl : (xs.length + 1) * bytes ≤ 140737488355328) (hgd : o.guard = none)
    (h : ∀ v1 w1 row, G d e w1 base ok v1 (xs ++ [p]) → Below base w0 w1 → W.grownBy w1 row → (∀ {g t' : Nat} {cells : Array Value}, W.heap[g]? = some (.cells cells t' (0, 0)) → e ≠ t' → some g ≠ row) → Kc (a.put o.dst v1) w1) :
    if Region.wanted o (yielded ops a.tmps) = true then Oper.wp P o a (W.alloc (.cells cs.toArray e)) Kc Q else Kc (a.put o.dst undef) (W.alloc (.cells cs.toArray e)) := by
  rcases HO with HO | ⟨A, rfl, HC⟩
  · exact R_append_step d base hw s x t e z bytes ho ht hinfo hz hs0 hb0 v xs p cs ok okp hs hx hp hokp hfresh HO HB hbase hl
      (fun v1 w1 h1 h2 h3 _ => h v1 w1 v.ownBlock (.inl h1) h2 h3 (fun hb hne => R_ne HO hb hne))
  · obtain ⟨inner, hil, hic, hir⟩ := C_cells hKM HC
    obtain ⟨i0, hi, hzz⟩ := Option.map_eq_some_iff.1 hinfo
    simp only [Prod.mk.injEq] at hzz
    obtain ⟨hz0, hz1, hz2⟩ := hzz
    have hlen : xs.length + 1 ≤ 140737488355328 := Nat.le_trans (Nat.le_mul_of_pos_right _ hb0) hl
    have hcl : cs.length = d.sz := d.K_len (d.K_of_M hp)
    have hnew := heap_alloc_new W (.cells cs.toArray e)
    refine step_append_grows hgd s x t ho e i0 z d.sz bytes ht hi hz0 hz1 hz2 hz hs0 A xs.length xs.length inner hs
      (fun hA => ?_) hil (fun b hb j u hu => ?_) ⟨W.heap.size, 0, none⟩ 1 1 cs hx (by rw [hcl]; simp) (by simpa using World.news_of_block (cs := cs.toArray) (t := e) (fr := (0, 0)) hnew) (d.K_one (d.K_of_M hp)) (by omega)
      (by simp only [maxLen]; omega) hl (fun v1 w1 hown hg => ?_)
    · rcases Nat.eq_zero_or_pos xs.length with h0 | h0
      · exact ⟨h0, h0⟩
      · obtain ⟨ad, h1, _⟩ := HC.2.2 h0
        rw [hA] at h1
        cases h1
    · have := hic b hb j u hu
      exact (World.cell?_alloc_lt W (.cells cs.toArray e) (b.add j) (World.block_lt_of_cell? W _ this)).trans this
    · have hg0 : W.grownBy w1 none := World.grownBy.trans (World.grownBy_alloc W (.cells cs.toArray e) none) hg
      have hbl : Below base w0 w1 := HB.grown hg0 hbase (fun k hk => by cases hk)
      have hown' : w1.ownsRow W.heap.size e d.sz v1 (xs.length + 1) (inner ++ cs) := own_weaken hown (by simp)
      have hR : d.R e w1 base ok v1 (xs ++ [p]) := by
        refine ⟨fun k hk => hfresh k (own_base hown' k hk), inner ++ cs, ?_, ?_⟩
        · rw [List.length_append, List.length_singleton]
          exact own_weaken hown' hbase
        · refine (hir w1 base _).snoc ?_ hcl
          exact hKM _ _ _ _ _ _ (d.K_of_M hp)
      exact h v1 w1 none (.inl hR) hbl hg0 (fun _ _ he => by cases he)
end
/-- 'xs[:n:n]', n its length: the same address, no room behind it. -/
theorem full_run {P : Program} (t e : TypeId) {z : Value} {size bytes : Nat} (ht : P.underlying t = some (.slice e)) (hinfo : (P.info? e).map (fun i => (i.zero, i.size, i.bytes)) = some (some z, size, bytes)) (A : Option Addr) (n c : Nat) (hc : n ≤ c) :
    ∀ W : World, (Instr.slice t (.slice A n c) none (some (.int .i64 (n : Int))) (some (.int .i64 (n : Int)))).run P W = .ok (.slice A n n) W := by
  intro W
  obtain ⟨i0, hi, _⟩ := Option.map_eq_some_iff.1 hinfo
  have hel : P.elem t = e := by simp [Program.elem, ht]
  have hu : P.underlying t = some (.slice (P.elem t)) := by rw [hel]; exact ht
  rw [run_slice_hm W t A n c hu .i64 .i64 (n : Int) (n : Int) (by omega) (by omega) (by omega), hel]
  have ha : A.map (·.add (0 * i0.size)) = A := by
    cases A with
    | none => rfl
    | some a => simp [Addr.add]
  simp [sizeOf, typeInfo, hi, sliced, Result.andThen]
  intro _
  cases A with
  | none => rfl
  | some a => simp [Addr.add]
end Kd
end Go.Proofs.YtmdhanegafclmaaW.PrintWords
