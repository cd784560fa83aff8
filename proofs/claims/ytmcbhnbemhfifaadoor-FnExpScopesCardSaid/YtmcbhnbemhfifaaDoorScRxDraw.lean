/- What the reader of a code draws: a number in its range, one of some texts. No condition beyond bytes and a bound on the place. -/
import Derived.Test.YtmcbhnbemhfifaaDoorScRxPz
namespace Go.Proofs.YtmcbhnbemhfifaaDoor.RX
open Go K
set_option autoImplicit false
set_option linter.unusedVariables false
set_option linter.unusedSimpArgs false
/-- What a reader reads: bytes. -/
def Rdr (b : List Int) : Prop := b.length ≤ 2000 ∧ ∀ x ∈ b, 0 ≤ x ∧ x ≤ 255
theorem Rdr.rd {b : List Int} (h : Rdr b) (i : Int) : 0 ≤ rdAt 0 b i ∧ rdAt 0 b i ≤ 255 := by
  unfold rdAt
  rw [List.getD_eq_getElem?_getD]
  cases hi : b[i.toNat]? with
  | none => simp
  | some x => exact h.2 x (List.mem_of_getElem? hi)
/-- Where a reader stands. -/
def At (b : List Int) (p : Int) (n : Int) : Prop := Rdr b ∧ 0 ≤ p ∧ p ≤ n
theorem pick_ok {b : List Int} {p : Int} (n : Int) (hb : Rdr b) (h0 : 0 ≤ p) (hp : p ≤ 1099511627776) :
    Evs (fun k => spec_l1Rd_pick.f k n b p) (fun r => r.2 = (b, p + 1) ∧ 0 ≤ r.1 ∧ (1 ≤ n → r.1 < n) ∧ (n < 1 → r.1 = 0)) := by
  by_cases hn : n < 1
  · simp (disch := omega) only [spec_l1Rd_pick.f, if_pos, w64]
    exact Evs.now ⟨rfl, by omega, by omega, fun _ => rfl⟩
  by_cases hl : (b.length : Int) = 0
  · simp (disch := omega) only [spec_l1Rd_pick.f, if_pos, if_neg, w64]
    exact Evs.now ⟨rfl, by omega, by omega, by omega⟩
  have hL : (0 : Int) < (b.length : Int) := by omega
  by_cases hlt : p < (b.length : Int)
  · have := hb.rd p
    simp (disch := omega) only [spec_l1Rd_pick.f, spec_l1Rd_pick.j4, if_pos, if_neg, w64, Int.add_sub_cancel]
    obtain ⟨h1, h2⟩ := tmod_range (x := rdAt 0 b p) (n := n) (by omega) (by omega)
    exact Evs.now ⟨rfl, h1, fun _ => h2, by omega⟩
  · obtain ⟨a1, a2⟩ := tmod_range (x := p) (n := (b.length : Int)) h0 hL
    obtain ⟨b1, b2⟩ := tmod_range (x := p * 7 + 3) (n := (b.length : Int)) (by omega) hL
    obtain ⟨c1, c2⟩ := hb.rd (p.tmod (b.length : Int))
    obtain ⟨d1, d2⟩ := hb.rd ((p * 7 + 3).tmod (b.length : Int))
    obtain ⟨e1, e2⟩ := tdiv_range (x := p) (n := (b.length : Int)) h0 (by omega)
    simp (disch := omega) only [spec_l1Rd_pick.f, spec_l1Rd_pick.j4, if_pos, if_neg, w64, Int.add_sub_cancel]
    refine Evs.now ⟨rfl, Int.tmod_nonneg _ ?_, fun _ => Int.tmod_lt_of_pos _ (by omega), by omega⟩
    generalize rdAt 0 b (p.tmod (b.length : Int)) = A at c1 c2 ⊢
    generalize rdAt 0 b ((p * 7 + 3).tmod (b.length : Int)) = C at d1 d2 ⊢
    generalize p.tdiv (b.length : Int) = D at e1 e2 ⊢
    obtain ⟨f1, f2⟩ := tdiv_range (x := A * 131 + C * 1117 + p * 29 + D * 53) (n := 64) (by omega) (by omega)
    simp (disch := omega) only [w64]
    exact xor_range (by omega) (by omega) f1 (by omega)
theorem of_ok {b : List Int} {p : Int} (l : List ByteArray) (hb : Rdr b) (h0 : 0 ≤ p) (hp : p ≤ 1099511627776) (hl : 1 ≤ (l.length : Int)) :
    Evs (fun k => spec_l1Rd_of.f k l b p) (fun r => r.2 = (b, p + 1) ∧ r.1 ∈ l) := by
  simp only [spec_l1Rd_of.f]
  refine Evs.bind (pick_ok (l.length : Int) hb h0 hp) fun r ⟨h1, h2, h3, _⟩ => ?_
  have := h3 hl
  simp (disch := omega) only [if_pos]
  exact Evs.now ⟨h1, rdAt_mem _ _ _ h2 this⟩
theorem open_ok (l : List Int) (hw : ∀ x ∈ l, 0 ≤ x ∧ x ≤ 255) : Evs (fun k => spec_l1Open.f k l) (fun r => Rdr r.1 ∧ r.2 = 0) := by
  by_cases h : 2000 < (l.length : Int)
  · simp (disch := omega) only [spec_l1Open.f, if_pos, List.drop_zero]
    exact Evs.now ⟨⟨by rw [List.length_take]; omega, fun x hx => hw x (List.mem_of_mem_take hx)⟩, rfl⟩
  · simp (disch := omega) only [spec_l1Open.f, if_neg]
    exact Evs.now ⟨⟨by show l.length ≤ 2000; omega, hw⟩, rfl⟩
end Go.Proofs.YtmcbhnbemhfifaaDoor.RX
