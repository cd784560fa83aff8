/- Regions whose order is drawn: which orders are enough. Condition: the machine draws from all orders that the edges let through. -/
import Derived.Test.YtmcbhnbemhfifaaDoorRx18
import Derived.Orders
namespace Go.Proofs.YtmcbhnbemhfifaaDoor.RX
open Go Go.RowKit
set_option autoImplicit false

def edgesIn (m : List Nat) : List Edge → Bool
  | [] => true
  | e :: es => match Region.binds .any e with
    | false => edgesIn m es
    | true => match hasN m e.on with | true => edgesIn m es | false => false
def readyL (m : List Nat) : Nat → List Oper → List Nat
  | _, [] => []
  | j, o :: os => match hasN m j, edgesIn m o.after.toList with
    | false, true => j :: readyL m (j + 1) os
    | _, _ => readyL m (j + 1) os
/-- What can come up while operation 'i' has not. -/
def closeB (i : Nat) : List Nat → Nat → List Oper → List Nat
  | b, _, [] => b
  | b, j, o :: os => match Nat.beq j i, hasN b j, edgesIn b o.after.toList with
    | false, false, true => closeB i (j :: b) (j + 1) os
    | _, _, _ => closeB i b (j + 1) os
def closedB (i : Nat) (b : List Nat) : Nat → List Oper → Bool
  | _, [] => true
  | j, o :: os => match Nat.beq j i, hasN b j, edgesIn b o.after.toList with
    | false, false, true => false
    | _, _, _ => closedB i b (j + 1) os
def apartB (G : Sig) (all : Array Oper) (oi : Oper) (i : Nat) (m b : List Nat) : Nat → List Oper → Bool
  | _, [] => true
  | j, o :: os => match Nat.beq j i, hasN b j, hasN m j with
    | false, true, false => match oi.apart all o, Nat.ble 2 (kd G oi.op), Nat.ble 1 (kd G o.op) with
      | true, true, _ => apartB G all oi i m b (j + 1) os
      | true, _, true => apartB G all oi i m b (j + 1) os
      | _, _, _ => false
    | _, _, _ => apartB G all oi i m b (j + 1) os
/-- Operation 'i' may be taken first. -/
def takeB (G : Sig) (ops : List Oper) (m : List Nat) (i : Nat) : Bool :=
  match nth ops i with
  | some oi => match Nat.ble 1 (kd G oi.op), subN m (closeB i m 0 ops), closedB i (closeB i m 0 ops) 0 ops, apartB G ops.toArray oi i m (closeB i m 0 ops) 0 ops with
    | true, true, true, true => true
    | _, _, _, _ => false
  | none => false
/-- Of the ways, those that begin with 'i', behind it. -/
def tails (i : Nat) : List (List Nat) → List (List Nat)
  | [] => []
  | (j :: p) :: ps => match Nat.beq i j with | true => p :: tails i ps | false => tails i ps
  | [] :: ps => tails i ps
def hasNil : List (List Nat) → Bool
  | [] => false
  | [] :: _ => true
  | (_ :: _) :: ps => hasNil ps
def eachB (f : Nat → Bool) : List Nat → Bool
  | [] => true
  | i :: is => match f i with | true => eachB f is | false => false
/-- The ways are enough: every order comes to what one of them comes to. -/
def waysB (G : Sig) (ops : List Oper) : Nat → List Nat → List (List Nat) → Bool
  | 0, m, ps => match readyL m 0 ops with | [] => hasNil ps | _ :: _ => false
  | n + 1, m, ps => match readyL m 0 ops with
    | [] => hasNil ps
    | r :: rs => match ps with
      | (i :: _) :: _ => match takeB G ops m i, hasN (r :: rs) i with
        | true, true => match tails i ps with | [] => false | q :: qs => waysB G ops n (i :: m) (q :: qs)
        | _, _ => eachB (fun i => waysB G ops n (i :: m) (tails i ps)) (r :: rs)
      | _ => false

section
variable {G : Sig} {P : Program} {ops : List Oper} {Q : Exit → Act → World → Prop}
theorem hasN_if {l : List Nat} {n : Nat} : hasN l n = true ↔ n ∈ l := by
  induction l with
  | nil => simp [hasN]
  | cons k l ih =>
    unfold hasN
    split
    · rename_i h; simp [Nat.eq_of_beq_eq_true h]
    · rename_i h
      rw [ih]
      constructor
      · exact fun h => List.mem_cons_of_mem _ h
      · intro h'
        rcases List.mem_cons.1 h' with e | e
        · subst e; rw [Nat.beq_refl] at h; cases h
        · exact e
theorem edgesIn_iff {m : List Nat} {l : List Edge} : edgesIn m l = true ↔ ∀ e ∈ l, Region.binds .any e = true → e.on ∈ m := by
  induction l with
  | nil => simp [edgesIn]
  | cons e l ih =>
    unfold edgesIn
    split
    · rename_i h; rw [ih]; simp [h]
    · rename_i h
      split
      · rename_i h'; rw [ih]; simp [h, hasN_if.1 h']
      · rename_i h'
        simp only [Bool.false_eq_true, List.mem_cons, forall_eq_or_imp, h, false_iff, true_implies, not_and]
        intro h2
        rw [hasN_if.2 h2] at h'
        cases h'
theorem mem_readyL {m : List Nat} : ∀ {l : List Oper} {k j : Nat}, j ∈ readyL m k l ↔ j ∉ m ∧ k ≤ j ∧ ∃ o, l[j - k]? = some o ∧ ∀ e ∈ o.after, Region.binds .any e = true → e.on ∈ m
  | [], k, j => by simp [readyL]
  | o :: l, k, j => by
    unfold readyL
    have rest : (j ∉ m ∧ k + 1 ≤ j ∧ ∃ o, l[j - (k + 1)]? = some o ∧ ∀ e ∈ o.after, Region.binds .any e = true → e.on ∈ m) ↔ (j ∉ m ∧ k < j ∧ ∃ o', (o :: l)[j - k]? = some o' ∧ ∀ e ∈ o'.after, Region.binds .any e = true → e.on ∈ m) := by
      constructor
      · rintro ⟨h1, h2, h3⟩
        refine ⟨h1, h2, ?_⟩
        rw [show j - k = (j - (k + 1)) + 1 by omega, List.getElem?_cons_succ]
        exact h3
      · rintro ⟨h1, h2, h3⟩
        refine ⟨h1, h2, ?_⟩
        rw [show j - k = (j - (k + 1)) + 1 by omega, List.getElem?_cons_succ] at h3
        exact h3
    split
    · rename_i h1 h2
      have h1' : k ∉ m := fun h => by rw [hasN_if.2 h] at h1; cases h1
      have h2' := edgesIn_iff.1 h2
      rw [List.mem_cons, mem_readyL, rest]
      constructor
      · rintro (e | ⟨a, b, c⟩)
        · subst e
          exact ⟨h1', Nat.le_refl _, o, by simp, fun e he => h2' e (by simpa using he)⟩
        · exact ⟨a, by omega, c⟩
      · rintro ⟨a, b, c⟩
        by_cases e : j = k
        · exact .inl e
        · exact .inr ⟨a, by omega, c⟩
    · rename_i hne
      rw [mem_readyL, rest]
      constructor
      · rintro ⟨a, b, c⟩
        exact ⟨a, by omega, c⟩
      · rintro ⟨a, b, o', c1, c2⟩
        refine ⟨a, ?_, o', c1, c2⟩
        by_cases e : j = k
        · subst e
          rw [Nat.sub_self, List.getElem?_cons_zero] at c1
          injection c1 with c1
          subst c1
          refine absurd (edgesIn_iff.2 fun e he => c2 e (by simpa using he)) fun h => hne ?_ h
          cases hh : hasN m j with
          | false => rfl
          | true => exact absurd (hasN_if.1 hh) a
        · omega
theorem mem_ready0 {m : List Nat} {j : Nat} : j ∈ readyL m 0 ops ↔ j ∉ m ∧ ∃ o, ops[j]? = some o ∧ ∀ e ∈ o.after, Region.binds .any e = true → e.on ∈ m := by
  rw [mem_readyL]
  simp

/-- Operation number 'i' comes up. -/
def stepX (G : Sig) (P : Program) (ops : List Oper) (Q : Exit → Act → World → Prop) (i : Nat) (K : Act → World → Prop) (a : Act) (w : World) : Prop :=
  match ops[i]? with
  | none => K a w
  | some o => match Region.wanted o (yielded ops.toArray a.tmps) with
    | true => match kd G o.op with
      | 0 => o.wp P a w K Q
      | 1 => o.rd P a w K
      | _ => o.pu P a w K
    | false => K (a.put o.dst undef) w
def AnyX (G : Sig) (P : Program) (ops : List Oper) (Q : Exit → Act → World → Prop) : Nat → List Nat → Act → World → Prop
  | 0, m, a, w => readyL m 0 ops = [] ∧ Q .normal a w
  | n + 1, m, a, w => (readyL m 0 ops = [] → Q .normal a w) ∧ ∀ i ∈ readyL m 0 ops, stepX G P ops Q i (AnyX G P ops Q n (i :: m)) a w

theorem stepX_wp {i : Nat} {K : Act → World → Prop} {a : Act} {w : World} (h : stepX G P ops Q i K a w) : wpOp P ops.toArray Q i K a w := by
  unfold stepX at h
  unfold wpOp
  simp only [List.getElem?_toArray]
  split
  · rename_i e; rw [e] at h; exact h
  · rename_i o e
    rw [e] at h
    simp only at h
    split at h
    · rename_i hw
      rw [if_pos hw]
      split at h
      · exact .inl h
      · exact .inl (rd_wp h)
      · exact .inl (rd_wp (pu_rd h))
    · rename_i hw
      rw [if_neg (by rw [hw]; decide)]
      exact h
theorem stepX_mono {i : Nat} {K K' : Act → World → Prop} {a : Act} {w : World} (hh : ∀ a w, K a w → K' a w) (h : stepX G P ops Q i K a w) : stepX G P ops Q i K' a w := by
  unfold stepX at *
  split
  · rename_i e; rw [e] at h; exact hh _ _ h
  · rename_i o e
    rw [e] at h
    simp only at h
    split
    · rename_i hw
      rw [hw] at h
      simp only at h
      split
      · rename_i hk; rw [hk] at h; exact Oper.wp_mono hh h
      · rename_i hk; rw [hk] at h; obtain ⟨u, h1, h2⟩ := h; exact ⟨u, h1, hh _ _ h2⟩
      · rename_i hk1 hk2
        split at h
        · rename_i hk; exact absurd hk hk1
        · rename_i hk; exact absurd hk hk2
        · obtain ⟨u, h1, h2⟩ := h; exact ⟨u, h1, hh _ _ h2⟩
    · rename_i hw
      rw [hw] at h
      exact hh _ _ h

theorem AnyX_wp : ∀ (n : Nat) (m : List Nat) (listed : Array Bool) (a : Act) (w : World), listed.size = ops.length → (∀ j, listed.getD j false = hasN m j) → AnyX G P ops Q n m a w → wpAny P .any ops.toArray Q n listed a w := by
  intro n
  have rd : ∀ (m : List Nat) (listed : Array Bool), listed.size = ops.length → (∀ j, listed.getD j false = hasN m j) → ∀ j, j ∈ Region.ready .any ops.toArray listed ↔ j ∈ readyL m 0 ops := by
    intro m listed hs hl j
    rw [mem_ready, mem_ready0]
    have e1 : ∀ e : Edge, (listed.getD e.on false = true ↔ e.on ∈ m) := fun e => by rw [hl, hasN_if]
    constructor
    · rintro ⟨h1, o, h2, h3⟩
      refine ⟨fun hm => ?_, o, by simpa using h2, fun e he hb => (e1 e).1 (h3 e he hb)⟩
      have := (hl j).trans (hasN_if.2 hm)
      have hlt : j < listed.size := by
        rcases Nat.lt_or_ge j listed.size with h | h
        · exact h
        · rw [Array.getD_eq_getD_getElem?, Array.getElem?_eq_none h] at this; cases this
      rw [Array.getD_eq_getD_getElem?, Array.getElem?_eq_getElem hlt] at this h1
      simp at this h1
      rw [this] at h1
      cases h1
    · rintro ⟨h1, o, h2, h3⟩
      refine ⟨?_, o, by simpa using h2, fun e he hb => (e1 e).2 (h3 e he hb)⟩
      have hlt : j < listed.size := by rw [hs]; exact (List.getElem?_eq_some_iff.1 h2).1
      have := hl j
      rw [show hasN m j = false from by cases hh : hasN m j with | false => rfl | true => exact absurd (hasN_if.1 hh) h1] at this
      rw [Array.getD_eq_getD_getElem?, Array.getElem?_eq_getElem hlt] at this ⊢
      simpa using this
  have em : ∀ (m : List Nat) (listed : Array Bool), listed.size = ops.length → (∀ j, listed.getD j false = hasN m j) → Region.ready .any ops.toArray listed = [] → readyL m 0 ops = [] := by
    intro m listed hs hl h
    rw [List.eq_nil_iff_forall_not_mem] at h ⊢
    exact fun j hj => h j ((rd m listed hs hl j).2 hj)
  have em' : ∀ (m : List Nat) (listed : Array Bool), listed.size = ops.length → (∀ j, listed.getD j false = hasN m j) → readyL m 0 ops = [] → Region.ready .any ops.toArray listed = [] := by
    intro m listed hs hl h
    rw [List.eq_nil_iff_forall_not_mem] at h ⊢
    exact fun j hj => h j ((rd m listed hs hl j).1 hj)
  induction n with
  | zero => exact fun m listed a w hs hl h => ⟨em' m listed hs hl h.1, h.2⟩
  | succ n ih =>
    intro m listed a w hs hl h
    refine ⟨fun h0 => h.1 (em m listed hs hl h0), fun i hi => ?_⟩
    have hi' := (rd m listed hs hl i).1 hi
    refine wpOp_mono (fun a w => ih (i :: m) _ a w (by simpa using hs) fun j => ?_) (stepX_wp (h.2 i hi'))
    obtain ⟨_, o, ho, _⟩ := mem_ready0.1 hi'
    have hlt : i < listed.size := by rw [hs]; exact (List.getElem?_eq_some_iff.1 ho).1
    unfold hasN
    split
    · rename_i e
      have e := Nat.eq_of_beq_eq_true e
      subst e
      simp [hlt]
    · rename_i e
      rw [getD_set_ne false (fun h => by subst h; rw [Nat.beq_refl] at e; cases e)]
      exact hl j
theorem wp_region_X {id : Nat} {a : Act} {w : World} (hm : P.follows .mixedOrders = true) (h : AnyX G P ops Q ops.length [] a { w with drawn := w.drawn + 1 }) : (Code.region id ops.toArray true).wp P Q a w := by
  refine wp_region_any hm (AnyX_wp _ [] _ _ _ (by simp) (fun j => ?_) (by simpa using h))
  rw [Array.getD_eq_getD_getElem?, Array.getElem?_replicate]
  split <;> rfl

theorem AnyX_congr : ∀ (n : Nat) (m m' : List Nat) (a : Act) (w : World), (∀ j, j ∈ m ↔ j ∈ m') → AnyX G P ops Q n m a w → AnyX G P ops Q n m' a w := by
  intro n
  have rd : ∀ (m m' : List Nat), (∀ j, j ∈ m ↔ j ∈ m') → ∀ j, j ∈ readyL m 0 ops ↔ j ∈ readyL m' 0 ops := by
    intro m m' h j
    rw [mem_ready0, mem_ready0]
    simp only [h]
  have em : ∀ (m m' : List Nat), (∀ j, j ∈ m ↔ j ∈ m') → readyL m 0 ops = [] → readyL m' 0 ops = [] := by
    intro m m' h h0
    rw [List.eq_nil_iff_forall_not_mem] at h0 ⊢
    exact fun j hj => h0 j ((rd m m' h j).2 hj)
  induction n with
  | zero => exact fun m m' a w h H => ⟨em m m' h H.1, H.2⟩
  | succ n ih =>
    intro m m' a w h H
    refine ⟨fun h0 => H.1 (em m' m (fun j => (h j).symm) h0), fun i hi => stepX_mono (fun a w => ih _ _ a w fun j => ?_) (H.2 i ((rd m m' h i).2 hi))⟩
    simp only [List.mem_cons, h]

/-- What an operation yields, here or anywhere. -/
def YX (G : Sig) (P : Program) (ops : List Oper) (o : Oper) (v : Value) (a : Act) (w : World) : Prop :=
  (Region.wanted o (yielded ops.toArray a.tmps) = true ∧ (execOp a.eval o).run P w = .ok (.value v) w ∧ (2 ≤ kd G o.op → ∀ w', (execOp a.eval o).run P w' = .ok (.value v) w')) ∨
  (Region.wanted o (yielded ops.toArray a.tmps) = false ∧ v = undef)
theorem YX.same {o : Oper} {v : Value} {a a' : Act} {w : World} (h : YX G P ops o v a w) (he : execOp a'.eval o = execOp a.eval o) (hw : Region.wanted o (yielded ops.toArray a'.tmps) = Region.wanted o (yielded ops.toArray a.tmps)) : YX G P ops o v a' w := by
  unfold YX at *
  rw [he, hw]
  exact h
theorem YX.far {o : Oper} {v : Value} {a : Act} {w w' : World} (h : YX G P ops o v a w) (hk : 2 ≤ kd G o.op) : YX G P ops o v a w' := by
  rcases h with ⟨h1, _, h3⟩ | h
  · exact .inl ⟨h1, h3 hk w', h3⟩
  · exact .inr h
theorem YX.of_step {i : Nat} {o : Oper} {K : Act → World → Prop} {a : Act} {w : World} (hi : ops[i]? = some o) (hk : 1 ≤ kd G o.op) (h : stepX G P ops Q i K a w) : ∃ v, YX G P ops o v a w ∧ K (a.put o.dst v) w := by
  unfold stepX at h
  rw [hi] at h
  simp only at h
  split at h
  · rename_i hw
    split at h
    · rename_i h0; omega
    · rename_i h1; obtain ⟨u, k1, k2⟩ := h; exact ⟨u, .inl ⟨hw, k1, fun h => by omega⟩, k2⟩
    · obtain ⟨u, k1, k2⟩ := h; exact ⟨u, .inl ⟨hw, k1 w, fun _ => k1⟩, k2⟩
  · rename_i hw; exact ⟨undef, .inr ⟨hw, rfl⟩, h⟩
theorem YX.step {i : Nat} {o : Oper} {K : Act → World → Prop} {v : Value} {a : Act} {w : World} (hi : ops[i]? = some o) (hk : 1 ≤ kd G o.op) (hy : YX G P ops o v a w) (h : K (a.put o.dst v) w) : stepX G P ops Q i K a w := by
  unfold stepX
  rw [hi]
  simp only
  rcases hy with ⟨h1, h2, h3⟩ | ⟨h1, h2⟩
  · rw [h1]
    simp only
    split
    · rename_i h0; omega
    · exact ⟨v, h2, h⟩
    · rename_i n0 n1
      have n0 : kd G o.op ≠ 0 := n0
      have n1 : kd G o.op ≠ 1 := n1
      exact ⟨v, h3 (by omega), h⟩
  · rw [h1]
    subst h2
    exact h

theorem stepX_put {j : Nat} {oi oj : Oper} {v : Value} (hj : ops[j]? = some oj) (hap : oi.apart ops.toArray oj = true) (hsi : ∀ cs b, oi.op ≠ .select cs b) (hsj : ∀ cs b, oj.op ≠ .select cs b) (hk : 2 ≤ kd G oi.op ∨ 1 ≤ kd G oj.op)
    (hQ : ∀ c a w, Q (.panic c) (a.put oi.dst v) w → Q (.panic c) a w) {K : Act → World → Prop} {a : Act} {w : World} (hy : YX G P ops oi v a w) (h : stepX G P ops Q j K (a.put oi.dst v) w) :
    stepX G P ops Q j (fun a' w' => YX G P ops oi v a' w' ∧ K (a'.put oi.dst v) w') a w := by
  obtain ⟨h1, h2, h3⟩ := Oper.apart_spec hap
  have keep : ∀ (a : Act) (w : World), YX G P ops oi v a w → ∀ u, YX G P ops oi v (a.put oj.dst u) w := fun a w hy u =>
    hy.same (execOp_put oi hsi a oj.dst u h3) (wanted_put oi a oj.dst u h3)
  have keepD : ∀ w d, YX G P ops oi v a w → YX G P ops oi v { a with defers := d :: a.defers } w := fun w d h => h.same rfl rfl
  unfold stepX at *
  rw [hj] at *
  simp only at *
  rw [wanted_put oj a oi.dst v h1] at h
  split
  · rename_i hw
    rw [hw] at h
    simp only at h
    split
    · rename_i h0
      rw [h0] at h
      simp only at h
      have hk2 : 2 ≤ kd G oi.op := hk.resolve_right (by omega)
      unfold Oper.wp at *
      rw [execOp_put oj hsj a oi.dst v h1] at h
      generalize (execOp a.eval oj).run P w = r at *
      cases r with
      | ok n w' =>
        have hy' : ∀ w', YX G P ops oi v a w' := fun w' => hy.far hk2
        cases n <;> simp only [Oper.upon] at h ⊢
        case value u => exact ⟨keep a _ (hy' _) u, by rw [← Act.put_comm a v u h2]; exact h⟩
        case skip => exact ⟨keep a _ (hy' _) _, by rw [← Act.put_comm a v undef h2]; exact h⟩
        case defer d =>
          refine ⟨keep _ _ (keepD _ d (hy' _)) _, ?_⟩
          rw [← Act.put_comm _ v undef h2, ← Act.put_defers]
          exact h
        case enter f args =>
          refine Calls.mono h fun e w'' he => ?_
          cases e with
          | returned u => exact ⟨keep a _ (hy' _) u, by rw [← Act.put_comm a v u h2]; exact he⟩
          | panicked c => exact hQ _ _ _ he
          | outgrown => exact he
        case row row args => exact Rows.mono h fun u w'' he => ⟨keep a _ (hy' _) u, by rw [← Act.put_comm a v u h2]; exact he⟩
      | halt x w' =>
        cases x <;> simp only [Oper.upon] at h ⊢
        case panic u => exact hQ _ _ _ h
    · rename_i h0
      rw [h0] at h
      simp only at h
      obtain ⟨u, k1, k2⟩ := h
      rw [execOp_put oj hsj a oi.dst v h1] at k1
      exact ⟨u, k1, keep a _ hy u, by rw [← Act.put_comm a v u h2]; exact k2⟩
    · rename_i n0 n1
      split at h
      · rename_i h0; exact absurd h0 n0
      · rename_i h0; exact absurd h0 n1
      · obtain ⟨u, k1, k2⟩ := h
        refine ⟨u, fun w' => ?_, keep a _ hy u, by rw [← Act.put_comm a v u h2]; exact k2⟩
        have := k1 w'
        rwa [execOp_put oj hsj a oi.dst v h1] at this
  · rename_i hw
    rw [hw] at h
    simp only at h
    exact ⟨keep a _ hy _, by rw [← Act.put_comm a v undef h2]; exact h⟩
theorem AnyX_first {i : Nat} {oi : Oper} {v : Value} {B : List Nat} (hi : ops[i]? = some oi) (hk : 1 ≤ kd G oi.op) (hsel : ∀ (j : Nat) (o : Oper) cs b, ops[j]? = some o → o.op ≠ .select cs b)
    (hQ : ∀ c a w, Q (.panic c) (a.put oi.dst v) w → Q (.panic c) a w) (hB : ∀ j o, ops[j]? = some o → j ≠ i → (∀ e ∈ o.after, Region.binds .any e = true → e.on ∈ B) → j ∈ B) : ∀ (n : Nat) (m : List Nat) (a : Act) (w : World), (∀ j ∈ m, j ∈ B) →
      (∀ j oj, ops[j]? = some oj → j ≠ i → j ∈ B → j ∉ m → oi.apart ops.toArray oj = true ∧ (2 ≤ kd G oi.op ∨ 1 ≤ kd G oj.op)) → i ∈ readyL m 0 ops → YX G P ops oi v a w → AnyX G P ops Q n (i :: m) (a.put oi.dst v) w → AnyX G P ops Q (n + 1) m a w := by
  intro n
  have mono : ∀ {m : List Nat} {j k : Nat}, j ∈ readyL m 0 ops → j ≠ k → j ∈ readyL (k :: m) 0 ops := by
    intro m j k h hne
    rw [mem_ready0] at *
    obtain ⟨h1, o, h2, h3⟩ := h
    exact ⟨by simp [hne, h1], o, h2, fun e he hb => List.mem_cons_of_mem _ (h3 e he hb)⟩
  induction n with
  | zero =>
    intro m a w hm hfree hr hy H
    refine ⟨fun h => (by rw [h] at hr; cases hr), fun j hj => ?_⟩
    by_cases hji : j = i
    · subst hji; exact hy.step hi hk H
    · have := mono hj hji
      rw [H.1] at this
      cases this
  | succ n ih =>
    intro m a w hm hfree hr hy H
    refine ⟨fun h => (by rw [h] at hr; cases hr), fun j hj => ?_⟩
    by_cases hji : j = i
    · subst hji; exact hy.step hi hk H
    · have h1 := H.2 j (mono hj hji)
      obtain ⟨hjun, oj, hoj, hall⟩ := mem_ready0.1 hj
      have hjB : j ∈ B := hB j oj hoj hji fun e he hb => hm _ (hall e he hb)
      obtain ⟨f1, f2⟩ := hfree j oj hoj hji hjB hjun
      have h2 := stepX_put hoj f1 (fun cs b => hsel i oi cs b hi) (fun cs b => hsel j oj cs b hoj) f2 hQ hy h1
      refine stepX_mono (fun a' w' h3 => ih (j :: m) a' w' ?_ ?_ (mono hr (Ne.symm hji)) h3.1 ?_) h2
      · intro k hk
        rcases List.mem_cons.1 hk with e | e
        · subst e; exact hjB
        · exact hm k e
      · exact fun k ok hok hki hkB hkm => hfree k ok hok hki hkB fun h => hkm (List.mem_cons_of_mem _ h)
      · exact AnyX_congr _ _ _ _ _ (fun k => by simp only [List.mem_cons]; exact or_left_comm) h3.2

theorem closedB_ok {i : Nat} {b : List Nat} : ∀ {l : List Oper} {k : Nat}, closedB i b k l = true → ∀ j o, l[j]? = some o → k + j ≠ i → (∀ e ∈ o.after, Region.binds .any e = true → e.on ∈ b) → k + j ∈ b
  | [], k, _, j, o, ho, _, _ => by simp at ho
  | o' :: l, k, h, j, o, ho, hne, he => by
    unfold closedB at h
    cases j with
    | zero =>
      simp only [List.getElem?_cons_zero, Option.some.injEq] at ho
      subst ho
      rw [Nat.add_zero] at hne ⊢
      split at h
      · cases h
      · rename_i hn
        cases hh : hasN b k with
        | true => exact hasN_if.1 hh
        | false =>
          refine absurd (edgesIn_iff.2 fun e hm => he e (by simpa using hm)) fun h3 => hn ?_ hh h3
          cases h4 : Nat.beq k i with
          | false => rfl
          | true => exact absurd (Nat.eq_of_beq_eq_true h4) hne
    | succ j =>
      rw [List.getElem?_cons_succ] at ho
      have h' : closedB i b (k + 1) l = true := by
        split at h
        · cases h
        · exact h
      have := closedB_ok h' j o ho (by omega) he
      rwa [show k + 1 + j = k + (j + 1) by omega] at this
theorem apartB_ok {all : Array Oper} {oi : Oper} {i : Nat} {m b : List Nat} : ∀ {l : List Oper} {k : Nat}, apartB G all oi i m b k l = true → ∀ j o, l[j]? = some o → k + j ≠ i → k + j ∈ b → k + j ∉ m → oi.apart all o = true ∧ (2 ≤ kd G oi.op ∨ 1 ≤ kd G o.op)
  | [], k, _, j, o, ho, _, _, _ => by simp at ho
  | o' :: l, k, h, j, o, ho, hne, hb, hm => by
    unfold apartB at h
    cases j with
    | zero =>
      simp only [List.getElem?_cons_zero, Option.some.injEq] at ho
      subst ho
      rw [Nat.add_zero] at hne hb hm
      have e1 : Nat.beq k i = false := by
        cases h4 : Nat.beq k i with
        | false => rfl
        | true => exact absurd (Nat.eq_of_beq_eq_true h4) hne
      have e2 := hasN_if.2 hb
      have e3 : hasN m k = false := by
        cases h4 : hasN m k with
        | false => rfl
        | true => exact absurd (hasN_if.1 h4) hm
      rw [e1, e2, e3] at h
      simp only at h
      split at h
      · rename_i _ h1 h2; exact ⟨h1, .inl (ble_iff.1 h2)⟩
      · rename_i h1 h2 _; exact ⟨h1, .inr (ble_iff.1 h2)⟩
      · cases h
    | succ j =>
      rw [List.getElem?_cons_succ] at ho
      have h' : apartB G all oi i m b (k + 1) l = true := by
        split at h
        · split at h
          · exact h
          · exact h
          · cases h
        · exact h
      exact apartB_ok h' j o ho (by omega) (by rwa [show k + 1 + j = k + (j + 1) by omega]) (by rwa [show k + 1 + j = k + (j + 1) by omega])
theorem subN_ok' {l b : List Nat} (h : subN l b = true) : ∀ j ∈ l, j ∈ b := by
  induction l with
  | nil => intro j hj; cases hj
  | cons k l ih =>
    unfold subN at h
    split at h
    · rename_i hk
      intro j hj
      rcases List.mem_cons.1 hj with e | e
      · subst e; exact hasN_if.1 hk
      · exact ih h j e
    · cases h
theorem AnyX_take {i n : Nat} {m : List Nat} {a : Act} {w : World} (ht : takeB G ops m i = true) (hr : i ∈ readyL m 0 ops) (hsel : ∀ (j : Nat) (o : Oper) cs b, ops[j]? = some o → o.op ≠ .select cs b)
    (hQ : ∀ c a d v w, Q (.panic c) (a.put d v) w → Q (.panic c) a w) (h : stepX G P ops Q i (AnyX G P ops Q n (i :: m)) a w) : AnyX G P ops Q (n + 1) m a w := by
  unfold takeB at ht
  split at ht
  · rename_i oi hi
    rw [nth_eq] at hi
    split at ht
    · rename_i h1 h2 h3 h4
      have hk := ble_iff.1 h1
      obtain ⟨v, hy, hK⟩ := YX.of_step hi hk h
      refine AnyX_first (B := closeB i m 0 ops) hi hk hsel (fun c a w => hQ c a _ _ w) (fun j o ho hne he => ?_) n m a w (subN_ok' h2) (fun j oj hoj hne hb hm => ?_) hr hy hK
      · have := closedB_ok h3 j o ho (by omega) he
        rwa [Nat.zero_add] at this
      · have := apartB_ok h4 j oj hoj (by omega) (by rwa [Nat.zero_add]) (by rwa [Nat.zero_add])
        exact this
    · cases ht
  · cases ht
end
end Go.Proofs.YtmcbhnbemhfifaaDoor.RX
