/- How an argument that is a tree of structs, slices, texts and numbers is read: out of the form's own reading (DataW.trod), the kind's predicate (Kd.K) and the bounds that the reading gives. No condition beyond the reading itself. -/
import Derived.Test.YtmdhanegafclmaaWWords
import Derived.ChangeArms
import Derived.OpenShut
import Derived.ShutString
import Derived.SizedLaws
namespace Go.Proofs.YtmdhanegafclmaaW.Read
open Go.RowKit Go.Proofs.YtmdhanegafclmaaW.PrintWords

/-- What a reading at type t, of n steps at most, gives: a value of kind d with B. -/
def RdAt {α H : Type} (enc : TypeId × Value → H) (P : Program) (W : World) (d : Kd α) (B : α → Prop) (t : TypeId) (n : Nat) : Prop :=
  ∀ cs x, DataW.trod enc P W 0 (fun _ => true) true n t cs = some x → ∃ a : α, d.K W a cs ∧ B a

section
variable {α H : Type} {enc : TypeId × Value → H} {P : Program} {W : World}

theorem rd_int {t : TypeId} {k : IntKind} (ht : P.underlying t = some (.int k)) (n : Nat) : RdAt enc P W (Kd.int k) (fun a => (Lit.int k a).wf = true) t n := by
  intro cs x h
  obtain ⟨a, rfl, _, hw⟩ := DataW.trod_int ht h
  exact ⟨a, rfl, hw⟩
theorem rd_bool {t : TypeId} (ht : P.underlying t = some .bool) (n : Nat) : RdAt enc P W Kd.bool (fun _ => True) t n := by
  intro cs x h
  obtain ⟨a, rfl, _⟩ := DataW.trod_bool ht h
  exact ⟨a, rfl, trivial⟩
theorem rd_string {t : TypeId} (ht : P.underlying t = some .string) (n : Nat) : RdAt enc P W Kd.string (fun s => s.size ≤ 9223372036854775807) t n := by
  intro cs x h
  obtain ⟨a, rfl, _, hw⟩ := DataW.trod_string ht h
  exact ⟨a, rfl, hw⟩

theorem cells_get {a : Addr} {n : Nat} {cs : List Value} (h : W.cells? 0 a n = some cs) : cs.length = n ∧ ∀ j u, cs[j]? = some u → W.cell? (a.add j) = some u := by
  unfold World.cells? at h
  rw [if_pos (Nat.zero_le _)] at h
  have hl : cs.length = n := by simpa using mapM_some_length h
  refine ⟨hl, fun j u hu => ?_⟩
  have hj : j < n := by have := (List.getElem?_eq_some_iff.1 hu).1; omega
  have := mapM_some_get h j j (by simp [hj])
  rw [this, hu]

theorem choose_list {B : α → Prop} {Q : Nat → α → Prop} : ∀ n : Nat, (∀ i, i < n → ∃ a, Q i a ∧ B a) → ∃ l : List α, l.length = n ∧ (∀ i a, l[i]? = some a → Q i a) ∧ ∀ a ∈ l, B a
  | 0, _ => ⟨[], rfl, fun i a h => by simp at h, fun a h => by cases h⟩
  | n + 1, h => by
    obtain ⟨l, hl, hq, hb⟩ := choose_list (B := B) (Q := Q) n (fun i hi => h i (by omega))
    obtain ⟨a, ha, hba⟩ := h n (by omega)
    refine ⟨l ++ [a], by simp [hl], fun i b hb' => ?_, fun b hb' => ?_⟩
    · rcases Nat.lt_or_ge i n with hi | hi
      · rw [List.getElem?_append_left (by omega)] at hb'
        exact hq i b hb'
      · have hi' : i = n := by
          have := (List.getElem?_eq_some_iff.1 hb').1
          simp [hl] at this
          omega
        subst hi'
        rw [List.getElem?_append_right (by omega)] at hb'
        simp [hl] at hb'
        exact hb' ▸ ha
    · rcases List.mem_append.1 hb' with h1 | h1
      · exact hb b h1
      · simp at h1
        exact h1 ▸ hba

theorem rd_slice {d : Kd α} {B : α → Prop} {t e : TypeId} (ht : P.underlying t = some (.slice e)) (hc : P.cellsOf e = d.sz) (n : Nat) (hel : ∀ m, m < n → RdAt enc P W d B e m) :
    RdAt enc P W (Kd.slice e d) (fun l => l.length ≤ 9223372036854775807 ∧ ∀ a ∈ l, B a) t n := by
  intro cs x h
  rcases DataW.trod_slice ht h with ⟨rfl, _⟩ | ⟨ad, len, cap, elems, rest, m, rfl, rfl, _, _, hl, hm, hlen, hel', _, _⟩
  · exact ⟨[], ⟨none, 0, rfl, Nat.le_refl _, ⟨rfl, by simp, fun h => absurd h (Nat.lt_irrefl 0)⟩⟩, by simp, fun a h => by cases h⟩
  · have hm' : len ≤ 9223372036854775807 := by unfold maxLen at hm; omega
    have each : ∀ i, i < len → ∃ a : α, (∃ c, c.length = d.sz ∧ d.K W a c ∧ ∀ j u, c[j]? = some u → W.cell? (ad.add (i * d.sz + j)) = some u) ∧ B a := by
      intro i hi
      have h1 := hel' i hi
      rw [List.getElem?_eq_getElem (show i < elems.length by omega), hc, Option.bind_eq_some_iff] at h1
      obtain ⟨c, h2, h3⟩ := h1
      obtain ⟨a, hK, hB⟩ := hel m (by omega) c _ h3
      obtain ⟨hcl, hcell⟩ := cells_get h2
      exact ⟨a, ⟨c, hcl, hK, fun j u hu => by rw [← add_add]; exact hcell j u hu⟩, hB⟩
    obtain ⟨l, hll, hq, hb⟩ := choose_list len each
    refine ⟨l, ⟨some ad, cap, by rw [hll], by omega, ⟨rfl, by omega, fun _ => ⟨ad, rfl, fun j p hj => hq j p hj⟩⟩⟩, by omega, hb⟩

/-- A struct's field: where it stands among the cells. -/
theorem field_at {fs : Array Field} {cs : List Value} {xs : List (DataW H × List MemPlace)} {m : Nat} (hxl : xs.length = fs.size)
    (hf : ∀ (i : Nat) (f : Field), fs[i]? = some f → DataW.trod enc P W 0 (fun _ => true) true m f.type ((cs.drop f.offset).take (P.cellsOf f.type)) = xs[i]?)
    (i : Nat) (f : Field) (hi : fs[i]? = some f) {c : List Value} (hc : (cs.drop f.offset).take (P.cellsOf f.type) = c) : ∃ y, DataW.trod enc P W 0 (fun _ => true) true m f.type c = some y := by
  have h1 := hf i f hi
  have hlt : i < fs.size := (Array.getElem?_eq_some_iff.1 hi).1
  rw [hc, List.getElem?_eq_getElem (show i < xs.length by omega)] at h1
  exact ⟨_, h1⟩
end

theorem list1 {cs : List Value} (h : cs.length = 1) : ∃ a, cs = [a] := by
  match cs, h with
  | [a], _ => exact ⟨a, rfl⟩
theorem list_cons {cs : List Value} {n : Nat} (h : cs.length = n + 1) : ∃ a r, cs = a :: r ∧ r.length = n := by
  match cs, h with
  | a :: r, h => exact ⟨a, r, rfl, by simpa using h⟩
theorem list_nil {cs : List Value} (h : cs.length = 0) : cs = [] := List.eq_nil_of_length_eq_zero h
/-- An aggregate's cells, as an array. -/
theorem arr_of {cs : Array Value} {l : List Value} (h : cs.toList = l) : cs = l.toArray := by rw [← h]
end Go.Proofs.YtmdhanegafclmaaW.Read
