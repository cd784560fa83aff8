/- PureDraw of the seat's texts, cut down by prune.py to what the theorem comes to. -/
import Derived.Test.YtmdhanegafclmaaZfPFnExpFindx11
import Derived.Test.YtmdhanegafclmaaZfPk
namespace Go.Proofs.Ytmdhanegafclmaa.Pure
open Go.RowKit Go.Proofs.Ytmdhanegafclmaa.PFnExpFind Go.Proofs.YtmdhanegafclmaaW.PrintWords Go.Proofs.YtmdhanegafclmaaW.PrintLast Go.Proofs.YtmdhanegafclmaaW.Pk
set_option linter.unusedVariables false
set_option linter.unusedSimpArgs false
theorem xor_ok {x y : Int} (hx0 : 0 ≤ x) (hx : x < 4611686018427387904) (hy0 : 0 ≤ y) (hy : y < 4611686018427387904) : 0 ≤ Go.bits .xor .i64 x y := by
 obtain ⟨a, rfl⟩ := Int.eq_ofNat_of_zero_le hx0
 obtain ⟨b, rfl⟩ := Int.eq_ofNat_of_zero_le hy0
 have h : a ^^^ b < 2 ^ 62 := Nat.xor_lt_two_pow (by omega) (by omega)
 have ha : (BitVec.ofInt 64 (a : Int)).toNat = a := by rw [BitVec.toNat_ofInt]; omega
 have hb : (BitVec.ofInt 64 (b : Int)).toNat = b := by rw [BitVec.toNat_ofInt]; omega
 unfold Go.bits
 rw [i64_w]
 show 0 ≤ wrap64 ((BitVec.ofInt 64 (a : Int) ^^^ BitVec.ofInt 64 (b : Int)).toNat : Int)
 rw [BitVec.toNat_xor, ha, hb, wrap64_eq (by omega) (by omega)]
 omega
def Rdr (b : List Int) : Prop := b.length ≤ 2000 ∧ ∀ x ∈ b, 0 ≤ x ∧ x ≤ 255
theorem Rdr.rd {b : List Int} (h : Rdr b) (i : Int) : 0 ≤ Go.Proofs.YtmdhanegafclmaaW.PrintWords.rd b i ∧ Go.Proofs.YtmdhanegafclmaaW.PrintWords.rd b i ≤ 255 := by
 unfold Go.Proofs.YtmdhanegafclmaaW.PrintWords.rd
 rw [List.getD_eq_getElem?_getD]
 cases hi : b[i.toNat]? with
 | none => simp
 | some x => exact h.2 x (List.mem_of_getElem? hi)
theorem pick_ok {b : List Int} (hb : Rdr b) (p n : Int) (h0 : 0 ≤ p) (hp : p ≤ 1099511627776) : ∃ r, Ev (fun k => spec_l1Rd_pick.f k b p n) (r, p + 1) ∧ 0 ≤ r ∧ (1 ≤ n → r < n) ∧ (n < 1 → r = 0) := by
 have hw1 : wrap64 (p + 1) = p + 1 := wrap64_eq (by omega) (by omega)
 have hw2 : wrap64 (p + 1 - 1) = p := by rw [wrap64_eq (by omega) (by omega)]; omega
 by_cases hn : n < 1
 ·refine ⟨0, ?_, by omega, by omega, fun _ => rfl⟩
  simp only [spec_l1Rd_pick.f, if_pos hn, hw1]
  refine Ev.shift ?_
  simp only [spec_l1Rd_pick.j0, if_true]
  exact Ev.now _
 have hn0 : ¬ n = 0 := by omega
 by_cases hl : (b.length : Int) = 0
 ·refine ⟨0, ?_, by omega, by omega, fun _ => rfl⟩
  simp only [spec_l1Rd_pick.f, if_neg hn, hw1]
  refine Ev.shift ?_
  simp only [spec_l1Rd_pick.j0, hl, beq_self_eq_true, if_true]
  exact Ev.now _
 have hl' : ((b.length : Int) == 0) = false := by simpa using hl
 have hL : (0 : Int) < (b.length : Int) := by omega
 by_cases hlt : p < (b.length : Int)
 ·apply Exists.intro
  refine ⟨?_, ?_, ?_, fun h => absurd h hn⟩
  ·simp only [spec_l1Rd_pick.f, if_neg hn, hw1]
   refine Ev.shift ?_
   simp only [spec_l1Rd_pick.j0, hl', Bool.false_eq_true, if_false, hw2, if_pos hlt, if_pos h0, if_neg hn0]
   exact Ev.now _
  ·obtain ⟨h1, h2⟩ := hb.rd p
   rw [wrap64_eq (by omega) (by omega)]
   exact Int.tmod_nonneg _ h1
  ·intro _
   exact Int.tmod_lt_of_pos _ (by omega)
 ·have ht0 : ∀ x : Int, 0 ≤ x → 0 ≤ Int.tmod x (b.length : Int) := fun x hx => Int.tmod_nonneg _ hx
  have ht1 : ∀ x : Int, Int.tmod x (b.length : Int) < (b.length : Int) := fun x => Int.tmod_lt_of_pos _ hL
  have hw7 : wrap64 (p * 7) = p * 7 := wrap64_eq (by omega) (by omega)
  have hw73 : wrap64 (p * 7 + 3) = p * 7 + 3 := wrap64_eq (by omega) (by omega)
  have hd0 : 0 ≤ Int.tdiv p (b.length : Int) := Int.tdiv_nonneg h0 (by omega)
  have hd1 : Int.tdiv p (b.length : Int) ≤ p := Int.tdiv_le_self _ h0
  apply Exists.intro
  refine ⟨?_, ?_, ?_, fun h => absurd h hn⟩
  ·simp only [spec_l1Rd_pick.f, if_neg hn, hw1]
   refine Ev.shift ?_
   simp only [spec_l1Rd_pick.j0, hl', Bool.false_eq_true, if_false, hw2, if_neg hlt, if_neg hl, if_pos (ht0 p h0), if_pos (ht1 p), hw7, hw73, if_pos (ht0 (p * 7 + 3) (by omega)), if_pos (ht1 (p * 7 + 3)), if_neg hn0]
   exact Ev.now _
  ·refine Int.tmod_nonneg _ ?_
   obtain ⟨a0, a1⟩ := hb.rd (Int.tmod p (b.length : Int))
   obtain ⟨c0, c1⟩ := hb.rd (Int.tmod (p * 7 + 3) (b.length : Int))
   generalize Go.Proofs.YtmdhanegafclmaaW.PrintWords.rd b (Int.tmod p (b.length : Int)) = A at a0 a1 ⊢
   generalize Go.Proofs.YtmdhanegafclmaaW.PrintWords.rd b (Int.tmod (p * 7 + 3) (b.length : Int)) = C at c0 c1 ⊢
   generalize Int.tdiv p (b.length : Int) = D at hd0 hd1 ⊢
   rw [wrap64_eq (x := A) (by omega) (by omega), wrap64_eq (x := C) (by omega) (by omega), wrap64_eq (x := A * 131) (by omega) (by omega), wrap64_eq (x := C * 1117) (by omega) (by omega), wrap64_eq (x := A * 131 + C * 1117) (by omega) (by omega), wrap64_eq (x := p * 29) (by omega) (by omega), wrap64_eq (x := A * 131 + C * 1117 + p * 29) (by omega) (by omega), wrap64_eq (x := D) (by omega) (by omega), wrap64_eq (x := D * 53) (by omega) (by omega), wrap64_eq (x := A * 131 + C * 1117 + p * 29 + D * 53) (by omega) (by omega)]
   generalize hX : A * 131 + C * 1117 + p * 29 + D * 53 = X
   have e0 : 0 ≤ Int.tdiv X 64 := Int.tdiv_nonneg (by omega) (by omega)
   have e1 : Int.tdiv X 64 ≤ X := Int.tdiv_le_self _ (by omega)
   rw [wrap64_eq (x := Int.tdiv X 64) (by omega) (by omega)]
   exact xor_ok (by omega) (by omega) e0 (by omega)
  ·intro _
   exact Int.tmod_lt_of_pos _ (by omega)
theorem of_ok {b : List Int} (hb : Rdr b) (p : Int) (l : List ByteArray) (h0 : 0 ≤ p) (hp : p ≤ 1099511627776) (hl : l ≠ []) : ∃ s, Ev (fun k => spec_l1Rd_of.f k b p l) (s, p + 1) ∧ s ∈ l := by
 obtain ⟨r, hr, r0, r1, _⟩ := pick_ok hb p (l.length : Int) h0 hp
 have hlen : 1 ≤ (l.length : Int) := by have := List.length_pos_iff.2 hl; omega
 have h1 := r1 hlen
 refine ⟨rdOf ByteArray.empty l r, ?_, ?_⟩
 ·simp only [spec_l1Rd_of.f]
  refine Ev.bind hr ?_
  simp only [if_pos r0, if_pos h1]
  exact Ev.now _
 ·unfold rdOf
  rw [List.getD_eq_getElem?_getD, List.getElem?_eq_getElem (show r.toNat < l.length by omega)]
  exact List.getElem_mem _
theorem id_loop {b : List Int} (hb : Rdr b) (t : ByteArray) (n : Int) : ∀ (m : Nat) (i p : Int) (s : List Int), i + m = 3 → 0 ≤ i → (s.length : Int) ≤ i → 0 ≤ p → p + m ≤ 1099511627776 →
  ∃ s', Ev (fun k => spec_l8Id.l0 k i b p 1 t s n) (1, t, s', n, ([] : List S35), p + m) ∧ s'.length ≤ 3 := by
 intro m
 induction m with
 | zero =>
  intro i p s hi h0 hs _ _
  refine ⟨s, Ev.shift ?_, by omega⟩
  simp only [spec_l8Id.l0, if_neg (show ¬ i < 3 by omega)]
  simpa using Ev.now _
 | succ m ih =>
  intro i p s hi h0 hs hp0 hp
  obtain ⟨r, hr, _, _, _⟩ := pick_ok hb p 3 hp0 (by omega)
  have hw : wrap64 (i + 1) = i + 1 := wrap64_eq (by omega) (by omega)
  have hp' : p + ((m + 1 : Nat) : Int) = p + 1 + m := by omega
  by_cases hr0 : r = 0
  ·obtain ⟨s', h, h2⟩ := ih (i + 1) (p + 1) (s ++ [i]) (by omega) (by omega) (by simp; omega) (by omega) (by omega)
   refine ⟨s', Ev.shift ?_, h2⟩
   simp only [spec_l8Id.l0, if_pos (show i < 3 by omega)]
   refine Ev.bind hr ?_
   simp only [if_pos hr0, if_pos (show s.length < 17592186044416 by omega), hw, hp']
   exact h
  ·obtain ⟨s', h, h2⟩ := ih (i + 1) (p + 1) s (by omega) (by omega) (by omega) (by omega) (by omega)
   refine ⟨s', Ev.shift ?_, h2⟩
   simp only [spec_l8Id.l0, if_pos (show i < 3 by omega)]
   refine Ev.bind hr ?_
   simp only [if_neg hr0, hw, hp']
   exact h
theorem id_ok {b : List Int} (hb : Rdr b) (p : Int) (h0 : 0 ≤ p) (hp : p + 5 ≤ 1099511627776) :
  ∃ t s n, Ev (fun k => spec_l8Id.f k b p) (1, t, s, n, ([] : List S35), p + 5) ∧ s.length ≤ 3 := by
 obtain ⟨t, ht, _⟩ := of_ok hb p (([(⟨#[97]⟩ : ByteArray), (⟨#[98]⟩ : ByteArray), (⟨#[99]⟩ : ByteArray), (⟨#[101, 108, 115, 101]⟩ : ByteArray)] : List ByteArray)) h0 (by omega) (by simp)
 obtain ⟨n, hn, _, _, _⟩ := pick_ok hb (p + 1) 9 (by omega) (by omega)
 obtain ⟨s, hs, h2⟩ := id_loop hb t n 3 0 (p + 1 + 1) [] (by omega) (by omega) (by simp) (by omega) (by omega)
 refine ⟨t, s, n, ?_, h2⟩
 simp only [spec_l8Id.f]
 refine Ev.bind ht ?_
 refine Ev.bind hn ?_
 rw [show p + 5 = p + 1 + 1 + ((3 : Nat) : Int) by omega]
 exact hs
inductive Sm (n : Nat) : S35 → Prop
 | mk (x : S35) (h2 : x.f2.length ≤ n) (h4 : x.f4.length ≤ n) (hk : ∀ y ∈ x.f4, Sm n y) : Sm n x
theorem mk35 (x : S35) : (⟨x.f0, x.f1, x.f2, x.f3, x.f4⟩ : S35) = x := by cases x; rfl
theorem Sm.mono {n m : Nat} (hnm : n ≤ m) {x : S35} (h : Sm n x) : Sm m x := by
 induction h with
 | mk x h2 h4 hk ih => exact .mk x (by omega) (by omega) ih
def steps : Nat → Nat
 | 0 => 9
 | d + 1 => 3 * steps d + 9
theorem form_l0 {b : List Int} (hb : Rdr b) (d : Nat) (hd : d ≤ 1048576)
  (ih : ∀ p : Int, 0 ≤ p → p + steps d ≤ 1099511627776 → ∃ (x : S35) (p' : Int), Ev (fun k => spec_l8Form.f k b p (d : Int)) (x.f0, x.f1, x.f2, x.f3, x.f4, p') ∧ p ≤ p' ∧ p' ≤ p + steps d ∧ Sm 10 x)
  (t : ByteArray) (n : Int) : ∀ (m : Nat) (p : Int) (ks : List S35), m ≤ 3 → 0 ≤ p → p + m * steps d + 5 ≤ 1099511627776 → ks.length + m ≤ 3 → (∀ y ∈ ks, Sm 10 y) →
  ∃ (ks' : List S35) (p' : Int), Ev (fun k => spec_l8Form.l0 k ((d : Int) + 1) (m : Int) b p 4 t n ks) (4, t, ([] : List Int), n, ks', p') ∧ p ≤ p' ∧ p' ≤ p + m * steps d + 5 ∧ ks'.length ≤ 4 ∧ ∀ y ∈ ks', Sm 10 y := by
 intro m
 induction m with
 | zero =>
  intro p ks _ h0 hp hl hk
  obtain ⟨u, s, q, hi, hs⟩ := id_ok hb p h0 (by omega)
  refine ⟨ks ++ [⟨1, u, s, q, []⟩], p + 5, Ev.shift ?_, by omega, by omega, by simp; omega, ?_⟩
  ·simp only [spec_l8Form.l0, if_neg (show ¬ (((0 : Nat) : Int) > 0) by omega)]
   refine Ev.bind hi ?_
   simp only [if_pos (show ks.length < 1759218604441 by omega)]
   exact Ev.now _
  ·intro y hy
   rcases List.mem_append.1 hy with hy | hy
   ·exact hk y hy
   ·rw [List.mem_singleton.1 hy]
    exact .mk _ (by show s.length ≤ 10; omega) (by simp) (by simp)
 | succ m ihm =>
  intro p ks hm h0 hp hl hk
  have hmul : ((m + 1 : Nat) : Int) * (steps d : Int) = (m : Int) * steps d + steps d := by rw [Int.natCast_succ, Int.add_mul, Int.one_mul]
  have hmul0 : 0 ≤ (m : Int) * (steps d : Int) := Int.mul_nonneg (by omega) (by omega)
  obtain ⟨x, p1, hx, hp1, hp2, hsm⟩ := ih p h0 (by omega)
  obtain ⟨ks', p', h, h1, h2, h3, h4⟩ := ihm p1 (ks ++ [x]) (by omega) (by omega) (by omega) (by simp; omega) (fun y hy => by
   rcases List.mem_append.1 hy with hy | hy
   ·exact hk y hy
   ·rw [List.mem_singleton.1 hy]; exact hsm)
  refine ⟨ks', p', Ev.shift ?_, by omega, by omega, h3, h4⟩
  have hw1 : wrap64 ((d : Int) + 1 - 1) = d := by rw [wrap64_eq (by omega) (by omega)]; omega
  have hw2 : wrap64 (((m + 1 : Nat) : Int) - 1) = m := by rw [wrap64_eq (by omega) (by omega)]; omega
  simp only [spec_l8Form.l0, if_pos (show ((m + 1 : Nat) : Int) > 0 by omega), hw1, hw2]
  refine Ev.bind hx ?_
  simp only [if_pos (show ks.length < 1759218604441 by omega), mk35]
  exact h
theorem form_l1 {b : List Int} (hb : Rdr b) (d : Nat) (hd : d ≤ 1048576)
  (ih : ∀ p : Int, 0 ≤ p → p + steps d ≤ 1099511627776 → ∃ (x : S35) (p' : Int), Ev (fun k => spec_l8Form.f k b p (d : Int)) (x.f0, x.f1, x.f2, x.f3, x.f4, p') ∧ p ≤ p' ∧ p' ≤ p + steps d ∧ Sm 10 x)
  (t : ByteArray) (n : Int) : ∀ (m : Nat) (p : Int) (ks : List S35), m ≤ 3 → 0 ≤ p → p + m * steps d ≤ 1099511627776 → ks.length + m ≤ 3 → (∀ y ∈ ks, Sm 10 y) →
  ∃ (ks' : List S35) (p' : Int), Ev (fun k => spec_l8Form.l1 k ((d : Int) + 1) (m : Int) b p 3 t n ks) (3, t, ([] : List Int), n, ks', p') ∧ p ≤ p' ∧ p' ≤ p + m * steps d ∧ ks'.length ≤ 4 ∧ ∀ y ∈ ks', Sm 10 y := by
 intro m
 induction m with
 | zero =>
  intro p ks _ h0 hp hl hk
  refine ⟨ks, p, Ev.shift ?_, by omega, by omega, by omega, hk⟩
  simp only [spec_l8Form.l1, if_neg (show ¬ (((0 : Nat) : Int) > 0) by omega)]
  exact Ev.now _
 | succ m ihm =>
  intro p ks hm h0 hp hl hk
  have hmul : ((m + 1 : Nat) : Int) * (steps d : Int) = (m : Int) * steps d + steps d := by rw [Int.natCast_succ, Int.add_mul, Int.one_mul]
  have hmul0 : 0 ≤ (m : Int) * (steps d : Int) := Int.mul_nonneg (by omega) (by omega)
  obtain ⟨x, p1, hx, hp1, hp2, hsm⟩ := ih p h0 (by omega)
  obtain ⟨ks', p', h, h1, h2, h3, h4⟩ := ihm p1 (ks ++ [x]) (by omega) (by omega) (by omega) (by simp; omega) (fun y hy => by
   rcases List.mem_append.1 hy with hy | hy
   ·exact hk y hy
   ·rw [List.mem_singleton.1 hy]; exact hsm)
  refine ⟨ks', p', Ev.shift ?_, by omega, by omega, h3, h4⟩
  have hw1 : wrap64 ((d : Int) + 1 - 1) = d := by rw [wrap64_eq (by omega) (by omega)]; omega
  have hw2 : wrap64 (((m + 1 : Nat) : Int) - 1) = m := by rw [wrap64_eq (by omega) (by omega)]; omega
  simp only [spec_l8Form.l1, if_pos (show ((m + 1 : Nat) : Int) > 0 by omega), hw1, hw2]
  refine Ev.bind hx ?_
  simp only [if_pos (show ks.length < 1759218604441 by omega), mk35]
  exact h
theorem form_ok {b : List Int} (hb : Rdr b) : ∀ (d : Nat), d ≤ 1048576 → ∀ p : Int, 0 ≤ p → p + steps d ≤ 1099511627776 → ∃ (x : S35) (p' : Int), Ev (fun k => spec_l8Form.f k b p (d : Int)) (x.f0, x.f1, x.f2, x.f3, x.f4, p') ∧ p ≤ p' ∧ p' ≤ p + steps d ∧ Sm 10 x := by
 have leafs : ∀ (a1 r p : Int), 0 ≤ p → p + 8 ≤ 1099511627776 → 0 ≤ r → r < 4 → ∃ (x : S35) (p' : Int), Ev (fun k => if r = 0 then (spec_l8Form.j0 k a1 r (r == 0) b p) else (spec_l8Form.j0 k a1 r (r == 1) b p)) (x.f0, x.f1, x.f2, x.f3, x.f4, p') ∧ p ≤ p' ∧ p' ≤ p + 5 ∧ Sm 10 x := by
  intro a1 r p h0 hp hr0 hr4
  obtain ⟨u, s, q, hi, hs⟩ := id_ok hb p h0 (by omega)
  rcases (by omega : r = 0 ∨ r = 1 ∨ r = 2 ∨ r = 3) with rfl | rfl | rfl | rfl
  ·refine ⟨⟨1, u, s, q, []⟩, p + 5, ?_, by omega, by omega, .mk _ (by show s.length ≤ 10; omega) (by simp) (by simp)⟩
   simp only [if_true]
   refine Ev.shift ?_
   simp only [spec_l8Form.j0, show ((0 : Int) == 0) = true from rfl, if_true]
   refine Ev.bind hi ?_
   exact Ev.now _
  ·refine ⟨⟨1, u, s, q, []⟩, p + 5, ?_, by omega, by omega, .mk _ (by show s.length ≤ 10; omega) (by simp) (by simp)⟩
   simp only [show ¬ ((1 : Int) = 0) from by decide, if_false]
   refine Ev.shift ?_
   simp only [spec_l8Form.j0, show ((1 : Int) == 1) = true from rfl, if_true]
   refine Ev.bind hi ?_
   exact Ev.now _
  ·obtain ⟨v, hv, _⟩ := of_ok hb p (([(⟨#[49]⟩ : ByteArray), (⟨#[35, 116]⟩ : ByteArray), (⟨#[34, 115, 34]⟩ : ByteArray), (⟨#[45, 55]⟩ : ByteArray)] : List ByteArray)) h0 (by omega) (by simp)
   refine ⟨⟨2, v, [], 0, []⟩, p + 1, ?_, by omega, by omega, .mk _ (by simp) (by simp) (by simp)⟩
   simp only [show ¬ ((2 : Int) = 0) from by decide, if_false]
   refine Ev.shift ?_
   simp only [spec_l8Form.j0, show ((2 : Int) == 1) = false from rfl, Bool.false_eq_true, if_false, if_true]
   refine Ev.bind hv ?_
   exact Ev.now _
  ·refine ⟨⟨3, ⟨#[]⟩, [], 0, []⟩, p, ?_, by omega, by omega, .mk _ (by simp) (by simp) (by simp)⟩
   simp only [show ¬ ((3 : Int) = 0) from by decide, if_false]
   refine Ev.shift ?_
   simp only [spec_l8Form.j0, show ((3 : Int) == 1) = false from rfl, Bool.false_eq_true, if_false, show ¬ ((3 : Int) = 2) from by decide, if_true]
   exact Ev.now _
 intro d
 induction d with
 | zero =>
  intro _ p h0 hp
  simp only [steps] at hp
  have hp : p + 9 ≤ 1099511627776 := by omega
  obtain ⟨r, hr, r0, r1, _⟩ := pick_ok hb p 4 h0 (by omega)
  obtain ⟨x, p', h, h1, h2, h3⟩ := leafs ((0 : Nat) : Int) r (p + 1) (by omega) (by omega) r0 (r1 (by omega))
  refine ⟨x, p', Ev.shift ?_, by omega, by simp only [steps]; omega, h3⟩
  simp only [spec_l8Form.f, spec_l8Least.f, show (((0 : Nat) : Int) < 1) from by decide, if_true, Option.bind_some, show wrap64 (4 + wrap64 (3 * ((0 : Nat) : Int))) = 4 from by unfold wrap64; decide]
  exact Ev.bind hr h
 | succ d ih =>
  intro hd p h0 hp
  have ih := ih (by omega)
  simp only [steps] at hp
  have hst : ((3 * steps d + 9 : Nat) : Int) = 3 * (steps d : Int) + 9 := by omega
  rw [hst] at hp
  obtain ⟨r, hr, r0, r1, _⟩ := pick_ok hb p 7 h0 (by omega)
  have hr7 := r1 (by omega)
  have hnl : ¬ (((d + 1 : Nat) : Int) < 1) := by omega
  have hd1 : ((d + 1 : Nat) : Int) = (d : Int) + 1 := by omega
  have start : ∀ (x : S35) (p' : Int), Ev (fun k => if r = 0 then (spec_l8Form.j0 k ((d : Int) + 1) r (r == 0) b (p + 1)) else (spec_l8Form.j0 k ((d : Int) + 1) r (r == 1) b (p + 1))) (x.f0, x.f1, x.f2, x.f3, x.f4, p') →
    Ev (fun k => spec_l8Form.f k b p ((d + 1 : Nat) : Int)) (x.f0, x.f1, x.f2, x.f3, x.f4, p') := by
   intro x p' h
   refine Ev.shift ?_
   rw [hd1] at hnl ⊢
   simp only [spec_l8Form.f, spec_l8Least.f, if_neg hnl, Option.bind_some, show wrap64 (4 + wrap64 (3 * 1)) = 7 from by unfold wrap64; decide]
   exact Ev.bind hr h
  by_cases h4 : r < 4
  ·obtain ⟨x, p', h, h1, h2, h3⟩ := leafs ((d : Int) + 1) r (p + 1) (by omega) (by omega) r0 h4
   exact ⟨x, p', start x p' h, by omega, by simp only [steps]; omega, h3⟩
  by_cases h5 : r = 4
  ·obtain ⟨q, hq, q0, q1, _⟩ := pick_ok hb (p + 1) 2 (by omega) (by omega)
   have q2 := q1 (by omega)
   obtain ⟨ks, p', h, g1, g2, g3, g4⟩ := form_l0 hb d (by omega) ih ⟨#[]⟩ 0 (1 + q).toNat (p + 1 + 1) [] (by omega) (by omega) (by
    have : (((1 + q).toNat : Nat) : Int) ≤ 2 := by omega
    have := Int.mul_le_mul_of_nonneg_right this (show (0 : Int) ≤ (steps d : Int) by omega)
    omega) (by simp; omega) (by simp)
   have hb1 : (((1 + q).toNat : Nat) : Int) * (steps d : Int) ≤ 2 * (steps d : Int) := Int.mul_le_mul_of_nonneg_right (by omega) (by omega)
   refine ⟨⟨4, ⟨#[]⟩, [], 0, ks⟩, p', start _ _ ?_, by omega, by simp only [steps]; omega, .mk _ (by simp) (by show ks.length ≤ 10; omega) g4⟩
   subst h5
   simp only [show ¬ ((4 : Int) = 0) from by decide, if_false]
   refine Ev.shift ?_
   simp only [spec_l8Form.j0, show ((4 : Int) == 1) = false from rfl, Bool.false_eq_true, if_false, show ¬ ((4 : Int) = 2) from by decide, show ¬ ((4 : Int) = 3) from by decide, if_true]
   refine Ev.bind hq ?_
   rw [show wrap64 (1 + q) = (((1 + q).toNat : Nat) : Int) by rw [wrap64_eq (by omega) (by omega)]; omega]
   exact h
  ·obtain ⟨q, hq, q0, q1, _⟩ := pick_ok hb (p + 1) 4 (by omega) (by omega)
   have q2 := q1 (by omega)
   have hb1 : ((q.toNat : Nat) : Int) * (steps d : Int) ≤ 3 * (steps d : Int) := Int.mul_le_mul_of_nonneg_right (by omega) (by omega)
   obtain ⟨ks, p', h, g1, g2, g3, g4⟩ := form_l1 hb d (by omega) ih ⟨#[]⟩ 0 q.toNat (p + 1 + 1) [] (by omega) (by omega) (by omega) (by simp; omega) (by simp)
   refine ⟨⟨3, ⟨#[]⟩, [], 0, ks⟩, p', start _ _ ?_, by omega, by simp only [steps]; omega, .mk _ (by simp) (by show ks.length ≤ 10; omega) g4⟩
   have n0 : ¬ r = 0 := by omega
   have n1 : (r == 1) = false := by simpa using (show ¬ r = 1 by omega)
   simp only [if_neg n0, n1]
   refine Ev.shift ?_
   simp only [spec_l8Form.j0, Bool.false_eq_true, if_false, if_neg (show ¬ r = 2 by omega), if_neg (show ¬ r = 3 by omega), if_neg h5]
   refine Ev.bind hq ?_
   rw [show q = ((q.toNat : Nat) : Int) by omega]
   exact h
theorem rd35 (pre suf : List S35) (x : S35) : rd_T35 (pre ++ x :: suf) (pre.length : Int) = x := by
 unfold rd_T35; rw [Int.toNat_natCast]; exact getD_mid _ _ _ _
theorem copies_loop (suf : List S35) (hk : ∀ y ∈ suf, Ev (fun k => spec_l1Copy.f k y.f0 y.f1 y.f2 y.f3 y.f4) (y.f0, y.f1, y.f2, y.f3, y.f4)) : ∀ (pre : List S35), (pre ++ suf).length ≤ 1048576 →
  Ev (fun k => spec_l1Copies.l0 k (pre ++ suf) pre (pre.length : Int)) (pre ++ suf) := by
 induction suf with
 | nil =>
  intro pre _
  refine Ev.shift ?_
  simp only [spec_l1Copies.l0, if_neg (mid_not_lt pre)]
  simpa using Ev.now _
 | cons s suf ih =>
  intro pre hn
  refine Ev.shift ?_
  simp only [spec_l1Copies.l0, if_pos (mid_lt pre suf s), if_pos (Int.natCast_nonneg pre.length), rd35, next_i pre suf s (by omega)]
  refine Ev.bind (hk s (by simp)) ?_
  simp only [if_pos (show pre.length < 1759218604441 by simp at hn; omega), mk35]
  rw [mid_assoc pre suf s]
  exact ih (fun y hy => hk y (List.mem_cons_of_mem _ hy)) (pre ++ [s]) (by simpa using hn)
theorem copy_ok {n : Nat} (hn : n ≤ 1048576) {x : S35} (h : Sm n x) : Ev (fun k => spec_l1Copy.f k x.f0 x.f1 x.f2 x.f3 x.f4) (x.f0, x.f1, x.f2, x.f3, x.f4) := by
 induction h with
 | mk x h2 h4 hk ih =>
  refine Ev.shift ?_
  simp only [spec_l1Copy.f, Option.bind_some, List.length_nil, Nat.zero_add, if_pos (show x.f2.length < 17592186044416 by omega), List.nil_append]
  refine Ev.bind (Ev.shift ?_) (Ev.now _)
  exact copies_loop x.f4 ih [] (by simp; omega)
theorem spoil_loop (b : List Int) (p : Int) (n : Nat) (hn : 1 ≤ n) : ∀ (m : Nat) (x : S35), m ≤ 1048576 → Sm n x → ∃ (y : S35), Ev (fun k => spec_l8Spoil.l0 k (m : Int) b p x.f0 x.f1 x.f2 x.f3 x.f4) (y.f0, y.f1, y.f2, y.f3, y.f4, p) ∧ Sm n y := by
 intro m
 induction m with
 | zero =>
  intro x _ hx
  refine ⟨x, Ev.shift ?_, hx⟩
  simp only [spec_l8Spoil.l0, if_neg (show ¬ (((0 : Nat) : Int) > 0) by omega)]
  exact Ev.now _
 | succ m ih =>
  intro x hm hx
  obtain ⟨y, h, hy⟩ := ih ⟨3, ⟨#[]⟩, [], 0, [x]⟩ (by omega) (.mk _ (by simp) (by simpa using hn) (fun z hz => by rw [List.mem_singleton.1 hz]; exact hx))
  refine ⟨y, Ev.shift ?_, hy⟩
  have hw2 : wrap64 (((m + 1 : Nat) : Int) - 1) = m := by rw [wrap64_eq (by omega) (by omega)]; omega
  simp only [spec_l8Spoil.l0, if_pos (show ((m + 1 : Nat) : Int) > 0 by omega), hw2, mk35]
  exact h
theorem spoil_ok {b : List Int} (hb : Rdr b) {n : Nat} (hn1 : 1 ≤ n) (hn : n < 1048576) (p : Int) (h0 : 0 ≤ p) (hp : p + 2 ≤ 1099511627776) {x : S35} (hx : Sm n x) :
  ∃ (y : S35) (p' : Int), Ev (fun k => spec_l8Spoil.f k b p x.f0 x.f1 x.f2 x.f3 x.f4) (y.f0, y.f1, y.f2, y.f3, y.f4, p') ∧ p ≤ p' ∧ p' ≤ p + 2 ∧ Sm (n + 1) y := by
 have hc := copy_ok (by omega) hx
 obtain ⟨r, hr, r0, r1, _⟩ := pick_ok hb p 6 h0 (by omega)
 have r6 := r1 (by omega)
 cases hx with
 | mk _ h2 h4 hk =>
 have hk' : ∀ y ∈ x.f4, Sm (n + 1) y := fun y hy => (hk y hy).mono (by omega)
 have start : ∀ (g : Nat → Option (Int × ByteArray × List Int × Int × List S35 × Int)) (R), (∀ k, spec_l8Spoil.f k b p x.f0 x.f1 x.f2 x.f3 x.f4 = (spec_l1Copy.f k x.f0 x.f1 x.f2 x.f3 x.f4).bind fun _ => g k) → Ev g R → Ev (fun k => spec_l8Spoil.f k b p x.f0 x.f1 x.f2 x.f3 x.f4) R := by
  intro g R he hg
  exact Ev.congr he (Ev.bind hc hg)
 rcases (by omega : r = 0 ∨ r = 1 ∨ r = 2 ∨ r = 3 ∨ r = 4 ∨ r = 5) with rfl | rfl | rfl | rfl | rfl | rfl
 ·obtain ⟨q, hq, q0, q1, _⟩ := pick_ok hb (p + 1) 7 (by omega) (by omega)
  refine ⟨⟨wrap64 (q - 1), x.f1, x.f2, x.f3, x.f4⟩, p + 1 + 1, ?_, by omega, by omega, .mk _ (by show x.f2.length ≤ _; omega) (by show x.f4.length ≤ _; omega) hk'⟩
  simp only [spec_l8Spoil.f]
  refine Ev.bind hc (Ev.bind hr ?_)
  simp only [if_true]
  exact Ev.bind hq (Ev.now _)
 ·obtain ⟨v, hv, _⟩ := of_ok hb (p + 1) (([(⟨#[]⟩ : ByteArray), (⟨#[120]⟩ : ByteArray), (⟨#[49]⟩ : ByteArray), (⟨#[97, 32, 98]⟩ : ByteArray), (⟨#[40]⟩ : ByteArray), (⟨#[46]⟩ : ByteArray)] : List ByteArray)) (by omega) (by omega) (by simp)
  refine ⟨⟨x.f0, v, x.f2, x.f3, x.f4⟩, p + 1 + 1, ?_, by omega, by omega, .mk _ (by show x.f2.length ≤ _; omega) (by show x.f4.length ≤ _; omega) hk'⟩
  simp only [spec_l8Spoil.f]
  refine Ev.bind hc (Ev.bind hr ?_)
  simp only [show ¬ ((1 : Int) = 0) from by decide, if_false, if_true]
  exact Ev.bind hv (Ev.now _)
 ·obtain ⟨q, hq, q0, q1, _⟩ := pick_ok hb (p + 1) 3 (by omega) (by omega)
  have q3 := q1 (by omega)
  refine ⟨⟨x.f0, x.f1, x.f2 ++ [rd [(-1), 0, 7] q], x.f3, x.f4⟩, p + 1 + 1, ?_, by omega, by omega, .mk _ (by simp; omega) (by show x.f4.length ≤ _; omega) hk'⟩
  simp only [spec_l8Spoil.f]
  refine Ev.bind hc (Ev.bind hr ?_)
  simp only [show ¬ ((2 : Int) = 0) from by decide, show ¬ ((2 : Int) = 1) from by decide, if_false, if_true, Option.bind_some]
  refine Ev.bind hq ?_
  simp only [if_pos q0, if_pos (show q < ((([(-1), 0, 7] : List Int).length : Nat) : Int) from q3), if_pos (show x.f2.length < 17592186044416 by omega)]
  exact Ev.now _
 ·obtain ⟨q, hq, q0, q1, _⟩ := pick_ok hb (p + 1) 3 (by omega) (by omega)
  have q3 := q1 (by omega)
  refine ⟨⟨x.f0, x.f1, x.f2, rd [(-1), 0, 5] q, x.f4⟩, p + 1 + 1, ?_, by omega, by omega, .mk _ (by show x.f2.length ≤ _; omega) (by show x.f4.length ≤ _; omega) hk'⟩
  simp only [spec_l8Spoil.f]
  refine Ev.bind hc (Ev.bind hr ?_)
  simp only [show ¬ ((3 : Int) = 0) from by decide, show ¬ ((3 : Int) = 1) from by decide, show ¬ ((3 : Int) = 2) from by decide, if_false, if_true, Option.bind_some]
  refine Ev.bind hq ?_
  simp only [if_pos q0, if_pos (show q < ((([(-1), 0, 5] : List Int).length : Nat) : Int) from q3)]
  exact Ev.now _
 ·refine ⟨⟨x.f0, x.f1, x.f2, x.f3, x.f4 ++ [⟨3, ⟨#[]⟩, [], 0, []⟩]⟩, p + 1, ?_, by omega, by omega, .mk _ (by show x.f2.length ≤ _; omega) (by simp; omega) (fun y hy => ?_)⟩
  ·simp only [spec_l8Spoil.f]
   refine Ev.bind hc (Ev.bind hr ?_)
   simp only [show ¬ ((4 : Int) = 0) from by decide, show ¬ ((4 : Int) = 1) from by decide, show ¬ ((4 : Int) = 2) from by decide, show ¬ ((4 : Int) = 3) from by decide, if_false, if_true, if_pos (show x.f4.length < 1759218604441 by omega)]
   exact Ev.now _
  ·rcases List.mem_append.1 hy with hy | hy
   ·exact hk' y hy
   ·rw [List.mem_singleton.1 hy]; exact .mk _ (by simp) (by simp) (by simp)
 ·obtain ⟨q, hq, q0, q1, _⟩ := pick_ok hb (p + 1) 3 (by omega) (by omega)
  have q3 := q1 (by omega)
  obtain ⟨y, h, hy⟩ := spoil_loop b (p + 1 + 1) (n + 1) (by omega) (57 + q).toNat x (by omega) (.mk _ (by omega) (by omega) hk')
  refine ⟨y, p + 1 + 1, ?_, by omega, by omega, hy⟩
  simp only [spec_l8Spoil.f]
  refine Ev.bind hc (Ev.bind hr ?_)
  simp only [show ¬ ((5 : Int) = 0) from by decide, show ¬ ((5 : Int) = 1) from by decide, show ¬ ((5 : Int) = 2) from by decide, show ¬ ((5 : Int) = 3) from by decide, show ¬ ((5 : Int) = 4) from by decide, if_false]
  refine Ev.bind hq ?_
  rw [show wrap64 (wrap64 (60 + q) - 3) = (((57 + q).toNat : Nat) : Int) by rw [wrap64_eq (x := 60 + q) (by omega) (by omega), wrap64_eq (by omega) (by omega)]; omega]
  exact h
theorem any_ok {b : List Int} (hb : Rdr b) (p : Int) (h0 : 0 ≤ p) (hp : p ≤ 1000000000000) : ∃ (x : S35) (p' : Int), Ev (fun k => spec_l8Any.f k b p) (x.f0, x.f1, x.f2, x.f3, x.f4, p') ∧ p ≤ p' ∧ p' ≤ p + 10000 ∧ Sm 11 x := by
 obtain ⟨x, p1, hx, h1, h2, hs⟩ := form_ok hb 3 (by omega) p h0 (by simp only [steps]; omega)
 have h9 : steps 3 = 360 := by decide
 have h2 : p1 ≤ p + 360 := by omega
 obtain ⟨r, hr, r0, r1, _⟩ := pick_ok hb p1 20 (by omega) (by omega)
 by_cases hr0 : r = 0
 ·obtain ⟨y, p', hy, g1, g2, g3⟩ := spoil_ok hb (n := 10) (by omega) (by omega) (p1 + 1) (by omega) (by omega) hs
  refine ⟨y, p', ?_, by omega, by omega, g3⟩
  simp only [spec_l8Any.f]
  refine Ev.bind hx (Ev.bind hr ?_)
  simp only [if_pos hr0]
  exact Ev.bind hy (Ev.now _)
 ·refine ⟨x, p1 + 1, ?_, by omega, by omega, hs.mono (by omega)⟩
  simp only [spec_l8Any.f]
  refine Ev.bind hx (Ev.bind hr ?_)
  simp only [if_neg hr0]
  exact Ev.now _
theorem open_ok (l : List Int) (hw : ∀ x ∈ l, (Lit.int .u8 x).wf = true) : ∃ b, spec_l1Open.f l = some (b, 0) ∧ Rdr b := by
 have hw' : ∀ x ∈ l, 0 ≤ x ∧ x ≤ 255 := fun x hx => by
  have := hw x hx
  simpa [Lit.wf, IntKind.min, IntKind.max, IntKind.signed, IntKind.bits] using this
 by_cases h : (l.length : Int) > 2000
 ·refine ⟨l.take 2000, ?_, by simp; omega, fun x hx => hw' x (List.mem_of_mem_take hx)⟩
  simp only [spec_l1Open.f, if_pos h, if_pos (show 2000 ≤ (l.length : Int) by omega)]
 ·refine ⟨l, ?_, by omega, hw'⟩
  simp only [spec_l1Open.f, if_neg h]
end Go.Proofs.Ytmdhanegafclmaa.Pure
