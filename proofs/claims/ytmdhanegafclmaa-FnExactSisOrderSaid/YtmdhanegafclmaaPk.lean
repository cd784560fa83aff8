/- Small plain lemmas on rounds (Ev), lists read by an index, and 64-bit sums, for the pure parts of the laws. No condition of their own. -/
import Derived.Test.YtmdhanegafclmaaWWords
namespace Go.Proofs.YtmdhanegafclmaaW.Pk
open Go.RowKit Go.Proofs.YtmdhanegafclmaaW.PrintWords

theorem Ev.shift {α : Type} {g : Nat → Option α} {r : α} (h : Ev (fun k => g (k + 1)) r) : Ev g r := by
  obtain ⟨K, hK⟩ := h
  refine ⟨K + 1, fun k hk => ?_⟩
  obtain ⟨m, rfl⟩ : ∃ m, k = m + 1 := ⟨k - 1, by omega⟩
  exact hK m (by omega)
theorem Ev.det {α : Type} {g : Nat → Option α} {r q : α} (h : Ev g r) (h' : Ev g q) : r = q := by
  obtain ⟨K, hK⟩ := h
  obtain ⟨K', hK'⟩ := h'
  have h1 := hK (max K K') (Nat.le_max_left _ _)
  have h2 := hK' (max K K') (Nat.le_max_right _ _)
  rw [h1] at h2
  exact Option.some.inj h2
theorem Ev.const {α : Type} {o : Option α} {r : α} (h : o = some r) : Ev (fun _ => o) r := ⟨0, fun _ _ => h⟩
theorem Ev.ite {α : Type} {c : Prop} [Decidable c] {g f : Nat → Option α} {r : α} (h1 : c → Ev g r) (h2 : ¬ c → Ev f r) : Ev (fun k => if c then g k else f k) r := by
  by_cases h : c
  · simpa only [if_pos h] using h1 h
  · simpa only [if_neg h] using h2 h
theorem wrap64_eq {x : Int} (h0 : -9223372036854775808 ≤ x) (h1 : x ≤ 9223372036854775807) : wrap64 x = x := by unfold wrap64; omega
theorem getD_mid {α : Type} (d : α) (pre suf : List α) (x : α) : (pre ++ x :: suf).getD pre.length d = x := by
  simp [List.getD_eq_getElem?_getD]
theorem mid_lt {α : Type} (pre suf : List α) (x : α) : ((pre.length : Nat) : Int) < (((pre ++ x :: suf).length : Nat) : Int) := by simp; omega
theorem mid_not_lt {α : Type} (pre : List α) : ¬ (((pre.length : Nat) : Int) < (((pre ++ []).length : Nat) : Int)) := by simp
theorem mid_assoc {α : Type} (pre suf : List α) (x : α) : pre ++ x :: suf = (pre ++ [x]) ++ suf := by simp
theorem len_snoc {α : Type} (pre : List α) (x : α) : (((pre ++ [x]).length : Nat) : Int) = (pre.length : Int) + 1 := by simp
theorem next_i {α : Type} (pre suf : List α) (x : α) (h : (pre ++ x :: suf).length ≤ 9223372036854775807) : wrap64 ((pre.length : Int) + 1) = (((pre ++ [x]).length : Nat) : Int) := by
  rw [len_snoc, wrap64_eq (by omega) (by simp at h; omega)]
theorem rdOf_mid {α : Type} (d : α) (pre suf : List α) (x : α) : rdOf d (pre ++ x :: suf) (pre.length : Int) = x := by
  unfold rdOf
  rw [Int.toNat_natCast]
  exact getD_mid d pre suf x
theorem rd_mid (pre suf : List Int) (x : Int) : rd (pre ++ x :: suf) (pre.length : Int) = x := by
  unfold rd
  rw [Int.toNat_natCast]
  exact getD_mid 0 pre suf x
/-- A store at the place where what is new ends. -/
theorem set_mid {α : Type} (pre suf : List α) (x y : α) : (pre ++ x :: suf).set (pre.length : Int).toNat y = (pre ++ [y]) ++ suf := by
  rw [Int.toNat_natCast]
  simp
theorem toList_inj {a b : ByteArray} (h : a.toList = b.toList) : a = b := by
  have key : ∀ c : ByteArray, c.toList = c.data.toList := fun c => by
    have hl : ∀ (i : Nat) (r : List UInt8), i ≤ c.size → ByteArray.toList.loop c i r = r.reverse ++ c.data.toList.drop i := by
      intro i r hi
      induction hd : c.size - i generalizing i r with
      | zero =>
        have : i = c.size := by omega
        subst this
        unfold ByteArray.toList.loop
        have hz : c.data.toList.drop c.size = [] := List.drop_eq_nil_of_le (by rw [Array.length_toList]; exact Nat.le_refl _)
        simp [hz]
      | succ d ih =>
        have hlt : i < c.size := by omega
        unfold ByteArray.toList.loop
        rw [if_pos hlt, ih (i + 1) (c.get! i :: r) (by omega) (by omega)]
        have hlt' : i < c.data.toList.length := by rw [Array.length_toList]; exact hlt
        rw [List.drop_eq_getElem_cons hlt']
        have : c.get! i = c.data.toList[i] := by
          show c.data[i]! = _
          rw [getElem!_pos c.data i hlt, Array.getElem_toList]
        simp [this]
    unfold ByteArray.toList
    rw [hl 0 [] (Nat.zero_le _)]
    simp
  rw [key, key] at h
  cases a
  cases b
  simpa using h
end Go.Proofs.YtmdhanegafclmaaW.Pk
