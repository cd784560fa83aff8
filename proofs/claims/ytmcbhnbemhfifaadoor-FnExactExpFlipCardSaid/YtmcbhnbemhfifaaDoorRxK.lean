/- Small plain lemmas: what a plain function comes to after enough rounds (Ev), lists read by an index, sums of 64 bits, texts. No condition of their own. -/
import Derived.Test.YtmcbhnbemhfifaaDoorRx2
namespace Go.Proofs.YtmcbhnbemhfifaaDoor.RX.K
open Go Go.Proofs.YtmcbhnbemhfifaaDoor.RX
set_option autoImplicit false
/-- From some number of rounds on it answers this. -/
def Ev {α : Type} (g : Nat → Option α) (r : α) : Prop := ∃ K, ∀ k, K ≤ k → g k = some r
section
variable {α β : Type} {r : α}
theorem Ev.now (r : α) : Ev (fun _ => some r) r := ⟨0, fun _ _ => rfl⟩
theorem Ev.of {g : Nat → Option α} (h : ∀ k, g k = some r) : Ev g r := ⟨0, fun k _ => h k⟩
theorem Ev.eq {g : Nat → Option α} {r' : α} (h : Ev g r) (e : r = r') : Ev g r' := e ▸ h
theorem Ev.bind {g : Nat → Option α} {h : Nat → α → Option β} {b : β} (hg : Ev g r) (hh : Ev (fun k => h k r) b) : Ev (fun k => (g k).bind (h k)) b := by
  obtain ⟨K, hK⟩ := hg
  obtain ⟨K', hK'⟩ := hh
  exact ⟨max K K', fun k hk => by show (g k).bind (h k) = _; rw [hK k (by omega)]; exact hK' k (by omega)⟩
theorem Ev.shift {g : Nat → Option α} (h : Ev (fun k => g (k + 1)) r) : Ev g r := by
  obtain ⟨K, hK⟩ := h
  refine ⟨K + 1, fun k hk => ?_⟩
  obtain ⟨m, rfl⟩ : ∃ m, k = m + 1 := ⟨k - 1, by omega⟩
  exact hK m (by omega)
theorem Ev.det {g : Nat → Option α} {q : α} (h : Ev g r) (h' : Ev g q) : r = q := by
  obtain ⟨K, hK⟩ := h
  obtain ⟨K', hK'⟩ := h'
  have h1 := hK (max K K') (Nat.le_max_left _ _)
  rw [hK' (max K K') (Nat.le_max_right _ _)] at h1
  exact (Option.some.inj h1).symm
theorem Ev.some {g : Nat → Option α} (h : Ev g r) : ∃ k, g k = some r := by
  obtain ⟨K, hK⟩ := h
  exact ⟨K, hK K (Nat.le_refl _)⟩
theorem Ev.congr {g h : Nat → Option α} (e : ∀ k, g k = h k) (H : Ev h r) : Ev g r := by rwa [show g = h from funext e]
theorem Ev.ite {c : Prop} [Decidable c] {g f : Nat → Option α} (h1 : c → Ev g r) (h2 : ¬ c → Ev f r) : Ev (fun k => if c then g k else f k) r := by
  by_cases h : c
  · simpa only [if_pos h] using h1 h
  · simpa only [if_neg h] using h2 h
end
/-- It answers something of which this holds. -/
def Evs {α : Type} (g : Nat → Option α) (P : α → Prop) : Prop := ∃ r, P r ∧ Ev g r
section
variable {α β : Type} {P Q : α → Prop}
theorem Evs.of {g : Nat → Option α} {r : α} (h : Ev g r) (p : P r) : Evs g P := ⟨r, p, h⟩
theorem Evs.now {r : α} (h : P r) : Evs (fun _ => Option.some r) P := ⟨r, h, Ev.now r⟩
theorem Evs.bind {g : Nat → Option α} {h : Nat → α → Option β} {S : β → Prop} (hg : Evs g P) (hh : ∀ r, P r → Evs (fun k => h k r) S) : Evs (fun k => (g k).bind (h k)) S := by
  obtain ⟨r, p, e⟩ := hg
  obtain ⟨s, q, e'⟩ := hh r p
  exact ⟨s, q, e.bind e'⟩
theorem Evs.shift {g : Nat → Option α} (h : Evs (fun k => g (k + 1)) P) : Evs g P := by
  obtain ⟨r, p, e⟩ := h
  exact ⟨r, p, e.shift⟩
theorem Evs.mono {g : Nat → Option α} (h : Evs g P) (hq : ∀ r, P r → Q r) : Evs g Q := by
  obtain ⟨r, p, e⟩ := h
  exact ⟨r, hq r p, e⟩
theorem Evs.congr {g h : Nat → Option α} (e : ∀ k, g k = h k) (H : Evs h P) : Evs g P := by rwa [show g = h from funext e]
theorem Evs.ite {c : Prop} [Decidable c] {g f : Nat → Option α} (h1 : c → Evs g P) (h2 : ¬ c → Evs f P) : Evs (fun k => if c then g k else f k) P := by
  by_cases h : c
  · simpa only [if_pos h] using h1 h
  · simpa only [if_neg h] using h2 h
end
theorem w64 {x : Int} (h0 : -9223372036854775808 ≤ x) (h1 : x ≤ 9223372036854775807) : IntKind.i64.wrap x = x := by rw [IntKind.wrap_i64]; omega
theorem w8 {x : Int} (h0 : 0 ≤ x) (h1 : x ≤ 255) : IntKind.u8.wrap x = x := by rw [IntKind.wrap_u8]; omega
theorem rdAt_at {α : Type} (d : α) (l : List α) (i : Nat) (h : i < l.length) : rdAt d l (i : Int) = l[i] := by
  simp [rdAt, List.getD_eq_getElem?_getD, h]
theorem rdAt_mem {α : Type} (d : α) (l : List α) (i : Int) (h0 : 0 ≤ i) (h : i < (l.length : Int)) : rdAt d l i ∈ l := by
  obtain ⟨n, rfl⟩ := Int.eq_ofNat_of_zero_le h0
  rw [rdAt_at d l n (by omega)]
  exact List.getElem_mem _
theorem rdAt_map {α β : Type} (f : α → β) (d : α) (e : β) (l : List α) (i : Int) (h0 : 0 ≤ i) (h : i < (l.length : Int)) : rdAt e (l.map f) i = f (rdAt d l i) := by
  obtain ⟨n, rfl⟩ := Int.eq_ofNat_of_zero_le h0
  rw [rdAt_at d l n (by omega), rdAt_at e _ n (by simp; omega)]
  simp
/-- A list gone through by an index, from a place on. -/
theorem goFrom {α : Type} (l : List α) {P : Int → List α → Prop} (h0 : P (l.length : Int) [])
    (hs : ∀ (i : Int) (x : α) (r : List α), 0 ≤ i → i < (l.length : Int) → (∀ d, rdAt d l i = x) → x ∈ l → (l.length : Int) = i + 1 + (r.length : Int) → l.drop i.toNat = x :: r → l.take (i.toNat + 1) = l.take i.toNat ++ [x] → P (i + 1) r → P i (x :: r)) :
    ∀ n : Nat, n ≤ l.length → P (n : Int) (l.drop n) := by
  intro n hn
  induction hm : l.length - n generalizing n with
  | zero =>
    have : n = l.length := by omega
    subst this
    rw [List.drop_eq_nil_of_le (Nat.le_refl _)]
    exact h0
  | succ m ih =>
    have hlt : n < l.length := by omega
    rw [List.drop_eq_getElem_cons hlt]
    have := ih (n + 1) (by omega) (by omega)
    refine hs n l[n] _ (by omega) (by omega) (fun d => rdAt_at d l n hlt) (List.getElem_mem _) (by rw [List.length_drop]; omega) ?_ ?_ (by simpa using this)
    · rw [Int.toNat_natCast]; exact List.drop_eq_getElem_cons hlt
    · rw [Int.toNat_natCast, List.take_succ_eq_append_getElem hlt]
theorem goList {α : Type} (l : List α) {P : Int → List α → Prop} (h0 : P (l.length : Int) [])
    (hs : ∀ (i : Int) (x : α) (r : List α), 0 ≤ i → i < (l.length : Int) → (∀ d, rdAt d l i = x) → x ∈ l → (l.length : Int) = i + 1 + (r.length : Int) → l.drop i.toNat = x :: r → l.take (i.toNat + 1) = l.take i.toNat ++ [x] → P (i + 1) r → P i (x :: r)) : P 0 l := goFrom l h0 hs 0 (Nat.zero_le _)
/-- A list gone through by an index from its end. -/
theorem goBack {α : Type} (l : List α) {P : Int → List α → Prop} (h0 : P (-1) [])
    (hs : ∀ (i : Int) (x : α) (r : List α), 0 ≤ i → i < (l.length : Int) → (∀ d, rdAt d l i = x) → x ∈ l → i = (r.length : Int) → l.take i.toNat = r → P (i - 1) r → P i (r ++ [x])) : P ((l.length : Int) - 1) l := by
  have key : ∀ n : Nat, n ≤ l.length → P ((n : Int) - 1) (l.take n) := by
    intro n
    induction n with
    | zero => intro _; simpa using h0
    | succ n ih =>
      intro hn
      have hlt : n < l.length := by omega
      rw [List.take_succ_eq_append_getElem hlt, show ((n + 1 : Nat) : Int) - 1 = (n : Int) by omega]
      exact hs n l[n] _ (by omega) (by omega) (fun d => rdAt_at d l n hlt) (List.getElem_mem _) (by rw [List.length_take]; omega) (by simp) (ih (by omega))
  simpa using key l.length (Nat.le_refl _)
/-- Rounds counted up. -/
theorem goUp {P : Int → Prop} (n : Int) (h0 : ∀ i, n ≤ i → P i) (hs : ∀ i, i < n → P (i + 1) → P i) (i : Int) : P i := by
  by_cases h : n ≤ i
  · exact h0 i h
  · obtain ⟨m, hm⟩ : ∃ m : Nat, n = i + m := ⟨(n - i).toNat, by omega⟩
    clear h
    induction m generalizing i with
    | zero => exact h0 i (by omega)
    | succ m ih => exact hs i (by omega) (ih (i + 1) (by omega))
/-- Rounds counted down to nought. -/
theorem goDown {P : Int → Prop} (h0 : ∀ i, i ≤ 0 → P i) (hs : ∀ i, 0 < i → P (i - 1) → P i) (i : Int) : P i := by
  obtain ⟨m, hm⟩ : ∃ m : Nat, i ≤ m := ⟨i.toNat, by omega⟩
  induction m generalizing i with
  | zero => exact h0 i (by omega)
  | succ m ih =>
    by_cases h : i ≤ 0
    · exact h0 i h
    · exact hs i (by omega) (ih (i - 1) (by omega))
theorem set_at {α : Type} (l : List α) (i : Nat) (y : α) (h : i < l.length) : l.set i y = l.take i ++ y :: l.drop (i + 1) := by
  rw [List.set_eq_take_append_cons_drop, if_pos h]
theorem mid_getD {α : Type} {l r : List α} {x d : α} {i : Int} (h : (l.length : Int) = i) : (l ++ x :: r).getD i.toNat d = x := by
  rw [show i.toNat = l.length by omega]
  simp [List.getD_eq_getElem?_getD]
theorem mid_rd {α : Type} {l r : List α} {x d : α} {i : Int} (h : (l.length : Int) = i) : rdAt d (l ++ x :: r) i = x := mid_getD h
theorem mid_set {α : Type} {l r : List α} {x y : α} {i : Int} (h : (l.length : Int) = i) : (l ++ x :: r).set i.toNat y = (l ++ [y]) ++ r := by
  rw [show i.toNat = l.length by omega]
  simp
-- ------------------------------------------------------------ texts
theorem toList_data (c : ByteArray) : c.toList = c.data.toList := by
  have hl : ∀ (i : Nat) (r : List UInt8), i ≤ c.size → ByteArray.toList.loop c i r = r.reverse ++ c.data.toList.drop i := by
    intro i r hi
    induction hd : c.size - i generalizing i r with
    | zero =>
      have : i = c.size := by omega
      subst this
      unfold ByteArray.toList.loop
      have hz : c.data.toList.drop c.size = [] := List.drop_eq_nil_of_le (by rw [Array.length_toList]; exact Nat.le_refl _)
      simp [hz]
    | succ d ih =>
      have hlt : i < c.size := by omega
      unfold ByteArray.toList.loop
      rw [if_pos hlt, ih (i + 1) (c.get! i :: r) (by omega) (by omega)]
      have hlt' : i < c.data.toList.length := by rw [Array.length_toList]; exact hlt
      rw [List.drop_eq_getElem_cons hlt']
      have : c.get! i = c.data.toList[i] := by
        show c.data[i]! = _
        rw [getElem!_pos c.data i hlt, Array.getElem_toList]
      simp [this]
  unfold ByteArray.toList
  rw [hl 0 [] (Nat.zero_le _)]
  simp
theorem toList_inj {a b : ByteArray} : a.toList = b.toList ↔ a = b := by
  refine ⟨fun h => ?_, fun h => h ▸ rfl⟩
  rw [toList_data, toList_data] at h
  cases a; cases b
  simpa using h
theorem size_toList (s : ByteArray) : s.toList.length = s.size := by rw [toList_data, Array.length_toList]; rfl
theorem bytesOf_toList (s : ByteArray) : bytesOf s = s.toList.map fun b => (b.toNat : Int) := by rw [toList_data]; rfl
theorem bytesOf_length (s : ByteArray) : (bytesOf s).length = s.size := by rw [bytesOf_toList, List.length_map, size_toList]
theorem bytesOf_inj {a b : ByteArray} : bytesOf a = bytesOf b ↔ a = b := by
  refine ⟨fun h => toList_inj.1 ?_, fun h => h ▸ rfl⟩
  rw [bytesOf_toList, bytesOf_toList] at h
  exact (List.map_inj_right (fun x y e => UInt8.toNat_inj.1 (by omega))).1 h
theorem bytesOf_append (a b : ByteArray) : bytesOf (a ++ b) = bytesOf a ++ bytesOf b := by simp [bytesOf, ByteArray.data_append]
theorem bytesOf_extract (s : ByteArray) (a b : Nat) : bytesOf (s.extract a b) = ((bytesOf s).take b).drop a := by
  unfold bytesOf
  rw [← List.map_take, ← List.map_drop]
  congr 1
  rw [ByteArray.data_extract, Array.toList_extract]
  simp [List.extract, List.drop_take]
theorem bt_rd (s : ByteArray) (i : Int) : bt s i = rdAt 0 (bytesOf s) i := by
  unfold bt rdAt bytesOf
  rw [List.getD_eq_getElem?_getD, List.getElem?_map, Array.getElem?_toList, Array.getD_eq_getD_getElem?]
  cases s.data[i.toNat]? <;> rfl
theorem byte_ok (s : ByteArray) : ∀ c ∈ bytesOf s, 0 ≤ c ∧ c ≤ 255 := by
  intro c h
  unfold bytesOf at h
  obtain ⟨b, _, rfl⟩ := List.mem_map.1 h
  have := b.toNat_lt
  omega
theorem extract_all (s : ByteArray) {b : Nat} (h : s.size ≤ b) : s.extract 0 b = s := by
  apply bytesOf_inj.1
  rw [bytesOf_extract, List.drop_zero, List.take_of_length_le (by rw [bytesOf_length]; exact h)]
/-- 'At most', as a truth. -/
def leB (a b : Int) : Bool := decide (a ≤ b)
theorem leB_t {a b : Int} (h : a ≤ b) : leB a b = true := decide_eq_true h
theorem leB_f {a b : Int} (h : ¬ a ≤ b) : leB a b = false := decide_eq_false h
theorem tmod_range {x n : Int} (hx : 0 ≤ x) (hn : 0 < n) : 0 ≤ x.tmod n ∧ x.tmod n < n := ⟨Int.tmod_nonneg _ hx, Int.tmod_lt_of_pos _ hn⟩
theorem tdiv_range {x n : Int} (hx : 0 ≤ x) (hn : 0 ≤ n) : 0 ≤ x.tdiv n ∧ x.tdiv n ≤ x := ⟨Int.tdiv_nonneg hx hn, Int.tdiv_le_self _ hx⟩
theorem xor_range {x y : Int} (hx0 : 0 ≤ x) (hx : x < 4611686018427387904) (hy0 : 0 ≤ y) (hy : y < 4611686018427387904) : 0 ≤ IntKind.i64.wrap ((BitVec.ofInt IntKind.i64.bits x ^^^ BitVec.ofInt IntKind.i64.bits y).toNat : Int) := by
  obtain ⟨a, rfl⟩ := Int.eq_ofNat_of_zero_le hx0
  obtain ⟨b, rfl⟩ := Int.eq_ofNat_of_zero_le hy0
  have h : a ^^^ b < 2 ^ 62 := Nat.xor_lt_two_pow (by omega) (by omega)
  have ha : (BitVec.ofInt 64 (a : Int)).toNat = a := by rw [BitVec.toNat_ofInt]; omega
  have hb : (BitVec.ofInt 64 (b : Int)).toNat = b := by rw [BitVec.toNat_ofInt]; omega
  show 0 ≤ IntKind.i64.wrap ((BitVec.ofInt 64 (a : Int) ^^^ BitVec.ofInt 64 (b : Int)).toNat : Int)
  rw [BitVec.toNat_xor, ha, hb, w64 (by omega) (by omega)]
  omega
end Go.Proofs.YtmcbhnbemhfifaaDoor.RX.K
