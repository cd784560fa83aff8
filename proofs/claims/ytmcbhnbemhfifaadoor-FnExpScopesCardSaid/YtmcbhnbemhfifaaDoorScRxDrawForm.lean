/- What is drawn as a form: one that is not large. No condition beyond bytes and a bound on the place. -/
import Derived.Test.YtmcbhnbemhfifaaDoorScRxForm
namespace Go.Proofs.YtmcbhnbemhfifaaDoor.RX
open Go K
set_option autoImplicit false
set_option linter.unusedVariables false
set_option linter.unusedSimpArgs false
/-- The reader goes on, at most so far. -/
def On (b : List Int) (p n : Int) (q : List Int × Int) : Prop := q.1 = b ∧ p ≤ q.2 ∧ q.2 ≤ p + n
theorem id_ok {b : List Int} {p : Int} (hb : Rdr b) (h0 : 0 ≤ p) (hp : p ≤ 1000000000000) : Evs (fun k => spec_l8Id.f k b p) (fun r => On b p 5 r.2 ∧ wid r.1 ≤ 10) := by
  simp only [spec_l8Id.f]
  refine Evs.bind (of_ok _ hb h0 (by omega) (by decide)) fun r ⟨h1, h2⟩ => ?_
  have hs : r.1.size ≤ 4 := by
    simp only [List.mem_cons, List.not_mem_nil, or_false] at h2
    rcases h2 with h | h | h | h <;> rw [h] <;> decide
  rw [h1]
  refine Evs.bind (pick_ok 9 hb (by show 0 ≤ p + 1; omega) (by show p + 1 ≤ _; omega)) fun q ⟨h3, h4, _⟩ => ?_
  rw [h3]
  refine goUp 3 (P := fun i => 0 ≤ i → i ≤ 3 → ∀ (p' : Int) (a : List Int), (a.length : Int) ≤ i → p' = p + 2 + i → Evs (fun k => spec_l8Id.l3 k i b p' 1 r.1 q.1 [] a) (fun r => On b p 5 r.2 ∧ wid r.1 ≤ 10)) ?_ ?_ 0 (by omega) (by omega) _ [] (by simp) (by show p + 1 + 1 = _; omega)
  · intro i hi _ hi3 p' a ha hp'
    refine Evs.shift ?_
    simp (disch := omega) only [spec_l8Id.l3, if_neg]
    refine Evs.now ⟨⟨rfl, ?_, ?_⟩, ?_⟩
    · show p ≤ p'; omega
    · show p' ≤ p + 5; omega
    · rw [wid_c]; simp only [wids]; omega
  · intro i hi ih h0i _ p' a ha hp'
    refine Evs.shift ?_
    simp (disch := omega) only [spec_l8Id.l3, if_pos]
    refine Evs.bind (pick_ok 3 hb (by omega) (by omega)) fun s ⟨h5, h6, _⟩ => ?_
    rw [h5]
    refine Evs.ite (fun _ => ?_) (fun _ => ?_)
    · simp (disch := omega) only [if_pos, List.length_singleton, w64]
      exact ih (by omega) (by omega) _ _ (by simp; omega) (by show p' + 1 = _; omega)
    · simp (disch := omega) only [w64]
      exact ih (by omega) (by omega) _ _ (by omega) (by show p' + 1 = _; omega)
def lim : Nat → Int
  | 0 => 10
  | d + 1 => 4 * lim d + 4
def steps : Nat → Int
  | 0 => 9
  | d + 1 => 3 * steps d + 9
theorem lim_ge (d : Nat) : 10 ≤ lim d ∧ 9 ≤ steps d := by
  induction d with
  | zero => decide
  | succ d ih => simp only [lim, steps]; omega
theorem wids_le {n : Int} (l : List TExpForm) (h : ∀ y ∈ l, wid y ≤ n) : wids l ≤ (l.length : Int) * n := by
  induction l with
  | nil => simp [wids]
  | cons y l ih =>
    have h1 := h y (by simp)
    have h2 := ih (fun z hz => h z (List.mem_cons_of_mem _ hz))
    simp only [wids, List.length_cons, Int.natCast_add, Int.add_mul]
    omega
def FormAt (b : List Int) (d : Nat) : Prop := ∀ p : Int, 0 ≤ p → p + steps d ≤ 1000000000000 → Evs (fun k => spec_l8Form.f k (d : Int) b p) (fun r => On b p (steps d) r.2 ∧ wid r.1 ≤ lim d)
theorem form_l12 {b : List Int} (hb : Rdr b) (d : Nat) (hd : d ≤ 1000) (ih : FormAt b d) (p0 : Int) (h00 : 0 ≤ p0) (hp0 : p0 + 3 * steps d + 9 ≤ 1000000000000) : ∀ (n : Int) (p : Int) (a : List TExpForm), p0 ≤ p → n ≤ 2 → 0 ≤ n →
    (a.length : Int) + n ≤ 2 → wids a ≤ (a.length : Int) * lim d → p ≤ p0 + 2 + (2 - n) * steps d → Evs (fun k => spec_l8Form.l12 k ((d : Int) + 1) n b p 4 ByteArray.empty [] 0 a) (fun r => On b p0 (steps (d + 1)) r.2 ∧ wid r.1 ≤ lim (d + 1)) := by
  have hl := lim_ge d
  intro n
  refine goDown (P := fun n => ∀ (p : Int) (a : List TExpForm), p0 ≤ p → n ≤ 2 → 0 ≤ n → (a.length : Int) + n ≤ 2 → wids a ≤ (a.length : Int) * lim d → p ≤ p0 + 2 + (2 - n) * steps d → Evs (fun k => spec_l8Form.l12 k ((d : Int) + 1) n b p 4 ByteArray.empty [] 0 a) (fun r => On b p0 (steps (d + 1)) r.2 ∧ wid r.1 ≤ lim (d + 1))) ?_ ?_ n
  · intro i hi p a h1 h2 h3 h4 h5 h6
    obtain rfl : i = 0 := by omega
    refine Evs.shift ?_
    simp (disch := omega) only [spec_l8Form.l12, if_neg, spec_l8Form.d15]
    refine Evs.bind (id_ok hb (by omega) (by omega)) fun r ⟨⟨g1, g2, g3⟩, g4⟩ => ?_
    simp (disch := omega) only [if_pos, List.length_singleton, eTExpForm_eq]
    refine Evs.now ⟨⟨g1, by show _ ≤ r.2.2; omega, by show r.2.2 ≤ _; simp only [steps]; omega⟩, ?_⟩
    rw [wid_c, wids_append, wids_one]
    have h9 : (a.length : Int) * lim d ≤ 2 * lim d := Int.mul_le_mul_of_nonneg_right (by omega) (by omega)
    simp only [lim, List.length_nil, show ByteArray.empty.size = 0 from rfl]
    omega
  · intro i hi ihi p a h1 h2 h3 h4 h5 h6
    refine Evs.shift ?_
    have e : (2 - (i - 1)) * steps d = (2 - i) * steps d + steps d := by rw [show 2 - (i - 1) = (2 - i) + 1 by omega, Int.add_mul, Int.one_mul]
    have h8 : (2 - i) * steps d ≤ 1 * steps d := Int.mul_le_mul_of_nonneg_right (by omega) (by omega)
    simp (disch := omega) only [spec_l8Form.l12, if_pos, spec_l8Form.d14b, w64, Int.add_sub_cancel]
    refine Evs.bind (ih p (by omega) (by omega)) fun r ⟨⟨g1, g2, g3⟩, g4⟩ => ?_
    simp (disch := omega) only [if_pos, List.length_singleton, eTExpForm_eq]
    rw [g1]
    refine ihi _ _ (by omega) (by omega) (by omega) (by simp; omega) ?_ (by omega)
    rw [wids_append, wids_one, List.length_append, List.length_singleton, Int.natCast_add, Int.add_mul]
    omega
theorem form_l19 {b : List Int} (hb : Rdr b) (d : Nat) (hd : d ≤ 1000) (ih : FormAt b d) (p0 : Int) (h00 : 0 ≤ p0) (hp0 : p0 + 3 * steps d + 9 ≤ 1000000000000) : ∀ (n : Int) (p : Int) (a : List TExpForm), p0 ≤ p → n ≤ 3 → 0 ≤ n →
    (a.length : Int) + n ≤ 3 → wids a ≤ (a.length : Int) * lim d → p ≤ p0 + 2 + (3 - n) * steps d → Evs (fun k => spec_l8Form.l19 k ((d : Int) + 1) n b p 3 ByteArray.empty [] 0 a) (fun r => On b p0 (steps (d + 1)) r.2 ∧ wid r.1 ≤ lim (d + 1)) := by
  have hl := lim_ge d
  intro n
  refine goDown (P := fun n => ∀ (p : Int) (a : List TExpForm), p0 ≤ p → n ≤ 3 → 0 ≤ n → (a.length : Int) + n ≤ 3 → wids a ≤ (a.length : Int) * lim d → p ≤ p0 + 2 + (3 - n) * steps d → Evs (fun k => spec_l8Form.l19 k ((d : Int) + 1) n b p 3 ByteArray.empty [] 0 a) (fun r => On b p0 (steps (d + 1)) r.2 ∧ wid r.1 ≤ lim (d + 1))) ?_ ?_ n
  · intro i hi p a h1 h2 h3 h4 h5 h6
    obtain rfl : i = 0 := by omega
    refine Evs.shift ?_
    simp (disch := omega) only [spec_l8Form.l19, if_neg]
    refine Evs.now ⟨⟨rfl, by show _ ≤ p; omega, by show p ≤ _; simp only [steps]; omega⟩, ?_⟩
    rw [wid_c]
    have h9 : (a.length : Int) * lim d ≤ 3 * lim d := Int.mul_le_mul_of_nonneg_right (by omega) (by omega)
    simp only [lim, List.length_nil, show ByteArray.empty.size = 0 from rfl]
    omega
  · intro i hi ihi p a h1 h2 h3 h4 h5 h6
    refine Evs.shift ?_
    have e : (3 - (i - 1)) * steps d = (3 - i) * steps d + steps d := by rw [show 3 - (i - 1) = (3 - i) + 1 by omega, Int.add_mul, Int.one_mul]
    have h8 : (3 - i) * steps d ≤ 2 * steps d := Int.mul_le_mul_of_nonneg_right (by omega) (by omega)
    simp (disch := omega) only [spec_l8Form.l19, if_pos, spec_l8Form.d21b, w64, Int.add_sub_cancel]
    refine Evs.bind (ih p (by omega) (by omega)) fun r ⟨⟨g1, g2, g3⟩, g4⟩ => ?_
    simp (disch := omega) only [if_pos, List.length_singleton, eTExpForm_eq]
    rw [g1]
    refine ihi _ _ (by omega) (by omega) (by omega) (by simp; omega) ?_ (by omega)
    rw [wids_append, wids_one, List.length_append, List.length_singleton, Int.natCast_add, Int.add_mul]
    omega
theorem form_ok {b : List Int} (hb : Rdr b) : ∀ d : Nat, d ≤ 100 → FormAt b d := by
  intro d
  have leaf : ∀ (B : Nat → Option (TExpForm × List Int × Int)) (d : Nat) (p : Int) (x : Int), 0 ≤ p → p + steps d ≤ 1000000000000 → 0 ≤ x →
      (x = 4 ∨ 4 < x → Evs (fun k => spec_l8Form.j4b k (spec_l8Form.f k) (spec_l8Form.l12 k) (spec_l8Form.l19 k) (d : Int) x false b (p + 1)) (fun r => On b p (steps d) r.2 ∧ wid r.1 ≤ lim d)) →
      Evs (fun k => if x = 0 then spec_l8Form.j4b k (spec_l8Form.f k) (spec_l8Form.l12 k) (spec_l8Form.l19 k) (d : Int) x true b (p + 1) else spec_l8Form.j4b k (spec_l8Form.f k) (spec_l8Form.l12 k) (spec_l8Form.l19 k) (d : Int) x (decide (x = 1)) b (p + 1)) (fun r => On b p (steps d) r.2 ∧ wid r.1 ≤ lim d) := by
    intro _ d p x h0 hp hx h4
    have hl := lim_ge d
    have hid : Evs (fun k => (spec_l8Id.f k b (p + 1)).bind fun r1 => some (eTExpForm r1.1, r1.2.1, r1.2.2)) (fun r => On b p (steps d) r.2 ∧ wid r.1 ≤ lim d) := by
      refine Evs.bind (id_ok hb (by omega) (by omega)) fun r ⟨⟨g1, g2, g3⟩, g4⟩ => ?_
      exact Evs.now ⟨⟨g1, by show _ ≤ r.2.2; omega, by show r.2.2 ≤ _; omega⟩, by show wid (eTExpForm r.1) ≤ _; rw [eTExpForm_eq]; omega⟩
    by_cases x0 : x = 0
    · simp only [if_pos x0, spec_l8Form.j4b, if_true]
      exact hid
    by_cases x1 : x = 1
    · subst x1
      simp only [if_neg x0, spec_l8Form.j4b, decide_true, if_true]
      exact hid
    simp only [if_neg x0, decide_eq_false x1]
    by_cases x2 : x = 2
    · subst x2
      simp only [spec_l8Form.j4b, if_true, Bool.false_eq_true, if_false]
      refine Evs.bind (of_ok _ hb (by omega) (by omega) (by decide)) fun r ⟨h1, h2⟩ => ?_
      rw [h1]
      have hs : r.1.size ≤ 4 := by
        simp only [List.mem_cons, List.not_mem_nil, or_false] at h2
        rcases h2 with h | h | h | h <;> rw [h] <;> decide
      refine Evs.now ⟨⟨rfl, by show _ ≤ p + 1 + 1; omega, by show p + 1 + 1 ≤ _; omega⟩, ?_⟩
      rw [wid_c]; simp only [wids, List.length_nil]; omega
    by_cases x3 : x = 3
    · subst x3
      simp (disch := decide) only [spec_l8Form.j4b, if_pos, if_neg, Bool.false_eq_true, if_false]
      refine Evs.now ⟨⟨rfl, by show _ ≤ p + 1; omega, by show p + 1 ≤ _; omega⟩, ?_⟩
      rw [wid_c]; simp only [wids, List.length_nil, show ByteArray.empty.size = 0 from rfl]; omega
    · exact h4 (by omega)
  have start : ∀ (d : Nat) (p : Int), 0 ≤ p → p + steps d ≤ 1000000000000 → d ≤ 100 → (∀ x : Int, 0 ≤ x → x = 4 ∨ 4 < x → (1 ≤ (d : Int)) → Evs (fun k => spec_l8Form.j4b k (spec_l8Form.f k) (spec_l8Form.l12 k) (spec_l8Form.l19 k) (d : Int) x false b (p + 1)) (fun r => On b p (steps d) r.2 ∧ wid r.1 ≤ lim d)) →
      Evs (fun k => spec_l8Form.f k (d : Int) b p) (fun r => On b p (steps d) r.2 ∧ wid r.1 ≤ lim d) := by
    intro d p h0 hp hd h4
    have hl := lim_ge d
    refine Evs.shift ?_
    simp only [spec_l8Form.f, spec_l8Least.f]
    by_cases hd1 : (d : Int) < 1
    · obtain rfl : d = 0 := by omega
      simp (disch := omega) only [if_pos, Option.bind_some, w64, Int.natCast_zero, Int.mul_zero, Int.add_zero]
      refine Evs.bind (pick_ok 4 hb h0 (by omega)) fun r ⟨g1, g2, g3, _⟩ => ?_
      have := g3 (by omega)
      rw [g1]
      exact leaf (fun _ => none) 0 p r.1 h0 hp g2 (by omega)
    · simp (disch := omega) only [if_neg, Option.bind_some, w64, Int.mul_one]
      refine Evs.bind (pick_ok _ hb h0 (by omega)) fun r ⟨g1, g2, g3, _⟩ => ?_
      rw [g1]
      exact leaf (fun _ => none) d p r.1 h0 hp g2 (fun h => h4 r.1 g2 h (by omega))
  induction d with
  | zero => intro _ p h0 hp; exact start 0 p h0 hp (by omega) (fun x _ _ h => absurd h (by decide))
  | succ d ih =>
    intro hd p h0 hp
    have hl := lim_ge d
    have hst : steps (d + 1) = 3 * steps d + 9 := rfl
    refine start (d + 1) p h0 hp hd (fun x hx h4 _ => ?_)
    have n2 : ¬ x = 2 := by omega
    have n3 : ¬ x = 3 := by omega
    rw [Int.natCast_add, Int.natCast_one]
    by_cases e : x = 4
    · simp only [spec_l8Form.j4b, Bool.false_eq_true, if_false, if_neg n2, if_neg n3, if_pos e]
      refine Evs.bind (pick_ok 2 hb (by omega) (by omega)) fun r ⟨g1, g2, g3, _⟩ => ?_
      have := g3 (by omega)
      have h8 : 0 ≤ (2 - (1 + r.1)) * steps d := Int.mul_nonneg (by omega) (by omega)
      rw [g1, w64 (by omega) (by omega)]
      exact form_l12 hb d (by omega) (ih (by omega)) p h0 (by omega) _ _ [] (by show p ≤ p + 1 + 1; omega) (by omega) (by omega) (by simp; omega) (by simp [wids]) (by show p + 1 + 1 ≤ _; omega)
    · simp only [spec_l8Form.j4b, Bool.false_eq_true, if_false, if_neg n2, if_neg n3, if_neg e]
      refine Evs.bind (pick_ok 4 hb (by omega) (by omega)) fun r ⟨g1, g2, g3, _⟩ => ?_
      have := g3 (by omega)
      have h8 : 0 ≤ (3 - r.1) * steps d := Int.mul_nonneg (by omega) (by omega)
      rw [g1]
      exact form_l19 hb d (by omega) (ih (by omega)) p h0 (by omega) _ _ [] (by show p ≤ p + 1 + 1; omega) (by omega) (by omega) (by simp; omega) (by simp [wids]) (by show p + 1 + 1 ≤ _; omega)
theorem spoil_ok {b : List Int} {p : Int} (x : TExpForm) {n : Int} (hb : Rdr b) (h0 : 0 ≤ p) (hp : p ≤ 100000000000) (hx : wid x ≤ n) (hn : n ≤ 1000000) : Evs (fun k => spec_l8Spoil.f k x b p) (fun r => On b p 2 r.2 ∧ wid r.1 ≤ n + 100) := by
  have hw := wid_mk x
  have hk := wid_parts x
  simp only [spec_l8Spoil.f, eTExpForm_eq]
  refine Evs.bind (Evs.of (copy_all x (by omega)) (P := fun r => r = (x.vSort, x.vText, x.vFrom, x.vScopes, x.vKids)) rfl) fun r hr => ?_
  subst hr
  dsimp only
  refine Evs.bind (pick_ok 6 hb h0 (by omega)) fun r ⟨g1, g2, g3, _⟩ => ?_
  rw [g1]
  have fin : ∀ (y : TExpForm) (q : Int), p ≤ q → q ≤ p + 2 → wid y ≤ n + 100 → Evs (fun _ => some (y, b, q)) (fun r => On b p 2 r.2 ∧ wid r.1 ≤ n + 100) := fun y q h1 h2 h3 => Evs.now ⟨⟨rfl, h1, h2⟩, h3⟩
  refine Evs.ite (fun _ => ?_) (fun _ => Evs.ite (fun _ => ?_) (fun _ => Evs.ite (fun _ => ?_) (fun _ => Evs.ite (fun _ => ?_) (fun _ => Evs.ite (fun _ => ?_) (fun _ => ?_)))))
  · refine Evs.bind (pick_ok 7 hb (by omega) (by omega)) fun s ⟨e1, _⟩ => ?_
    rw [e1]
    exact fin _ _ (by omega) (by omega) (by rw [wid_c]; omega)
  · refine Evs.bind (of_ok _ hb (by omega) (by omega) (by decide)) fun s ⟨e1, e2⟩ => ?_
    rw [e1]
    have hs : s.1.size ≤ 4 := by
      simp only [List.mem_cons, List.not_mem_nil, or_false] at e2
      rcases e2 with h | h | h | h | h | h <;> rw [h] <;> decide
    exact fin _ _ (by omega) (by omega) (by rw [wid_c]; omega)
  · simp only [spec_l8Spoil.d12]
    refine Evs.bind (pick_ok 3 hb (by omega) (by omega)) fun s ⟨e1, e2, e3, _⟩ => ?_
    have := e3 (by omega)
    rw [e1]
    simp (disch := first | omega | (simp; omega)) only [if_pos]
    exact fin _ _ (by omega) (by omega) (by rw [wid_c, List.length_append, List.length_singleton]; omega)
  · refine Evs.bind (pick_ok 3 hb (by omega) (by omega)) fun s ⟨e1, e2, e3, _⟩ => ?_
    have := e3 (by omega)
    rw [e1]
    simp (disch := first | omega | (simp; omega)) only [if_pos]
    exact fin _ _ (by omega) (by omega) (by rw [wid_c]; omega)
  · simp (disch := first | omega | (simp; omega)) only [if_pos]
    exact fin _ _ (by omega) (by omega) (by rw [wid_c, wids_append, wids_one, wid_c]; simp only [wids, List.length_nil, show ByteArray.empty.size = 0 from rfl]; omega)
  · refine Evs.bind (pick_ok 3 hb (by omega) (by omega)) fun s ⟨e1, e2, e3, _⟩ => ?_
    have := e3 (by omega)
    rw [e1]
    simp (disch := omega) only [w64]
    refine goDown (P := fun m => ∀ a t (sc : List Int) d ks, 0 ≤ m → m ≤ 60 → 1 + (ByteArray.size t : Int) + (sc.length : Int) + wids ks + m ≤ n + 100 → Evs (fun k => spec_l8Spoil.l4 k m b (p + 1 + 1) a t d sc ks) (fun r => On b p 2 r.2 ∧ wid r.1 ≤ n + 100)) ?_ ?_ _ _ _ _ _ _ (by omega) (by omega) (by omega)
    · intro i hi a t sc d ks h3 h1 h2
      refine Evs.shift ?_
      simp (disch := omega) only [spec_l8Spoil.l4, if_neg]
      exact fin _ _ (by omega) (by omega) (by rw [wid_c]; omega)
    · intro i hi ih a t sc d ks h3 h1 h2
      refine Evs.shift ?_
      simp (disch := omega) only [spec_l8Spoil.l4, if_pos, w64]
      exact ih _ _ _ _ _ (by omega) (by omega) (by rw [wids_one, wid_c]; simp only [List.length_nil, show ByteArray.empty.size = 0 from rfl]; omega)
theorem any_ok {b : List Int} {p : Int} (hb : Rdr b) (h0 : 0 ≤ p) (hp : p ≤ 10000000000) : Evs (fun k => spec_l8Any.f k b p) (fun r => On b p 400 r.2 ∧ wid r.1 ≤ 1000) := by
  have h9 : steps 3 = 360 := by decide
  have h8 : lim 3 = 724 := by decide
  simp only [spec_l8Any.f]
  refine Evs.bind (form_ok hb 3 (by omega) p h0 (by omega)) fun r ⟨⟨g1, g2, g3⟩, g4⟩ => ?_
  rw [g1]
  refine Evs.bind (pick_ok 20 hb (by omega) (by omega)) fun s ⟨e1, _⟩ => ?_
  rw [e1]
  simp only [eTExpForm_eq]
  refine Evs.ite (fun _ => ?_) (fun _ => Evs.now ⟨⟨rfl, by show p ≤ r.2.2 + 1; omega, by show r.2.2 + 1 ≤ _; omega⟩, by show wid r.1 ≤ _; omega⟩)
  refine Evs.bind (spoil_ok r.1 (n := 724) hb (by omega) (by omega) (by omega) (by omega)) fun s ⟨⟨g1, g2, g3⟩, g4⟩ => ?_
  exact Evs.now ⟨⟨g1, by show p ≤ s.2.2; omega, by show s.2.2 ≤ _; omega⟩, by show wid s.1 ≤ _; omega⟩
end Go.Proofs.YtmcbhnbemhfifaaDoor.RX
