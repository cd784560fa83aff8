/- FnExactNumInt: at every int, the program's NumInt (strconv.Itoa, cut) answers what the reference's (digit by digit, and one added below nought) answers: the law's function returns true. No condition beyond the reading. -/
import Derived.Test.YtmdhanegafclmaaDoorPFnExactNumIntx2
import Derived.Test.YtmdhanegafclmaaDoorPk
namespace Go.Proofs.YtmdhanegafclmaaDoor.Pure
open Go.RowKit Go.Proofs.YtmdhanegafclmaaDoor.PFnExactNumInt Go.Proofs.YtmdhanegafclmaaDoorW.PrintWords Go.Proofs.YtmdhanegafclmaaDoorW.PrintLast Go.Proofs.YtmdhanegafclmaaDoorW.Pk
set_option linter.unusedVariables false
set_option linter.unusedSimpArgs false

/-- The decimal digits of a number, the last one ahead. -/
def rdig (u : Nat) : List Int := if u < 10 then [(u : Int)] else ((u % 10 : Nat) : Int) :: rdig (u / 10)
termination_by u
decreasing_by omega
theorem rdig_small {u : Nat} (h : u < 10) : rdig u = [(u : Int)] := by rw [rdig, if_pos h]
theorem rdig_big {u : Nat} (h : ¬ u < 10) : rdig u = ((u % 10 : Nat) : Int) :: rdig (u / 10) := by rw [rdig, if_neg h]
theorem rdig_range (u : Nat) : ∀ d ∈ rdig u, 0 ≤ d ∧ d ≤ 9 := by
  induction u using Nat.strongRecOn with
  | _ u ih =>
    intro d hd
    by_cases h : u < 10
    · rw [rdig_small h] at hd
      have := List.mem_singleton.mp hd
      omega
    · rw [rdig_big h] at hd
      rcases List.mem_cons.mp hd with rfl | hd
      · omega
      · exact ih (u / 10) (by omega) d hd
theorem rdig_len (d : Nat) : ∀ n, n < 10 ^ (d + 1) → (rdig n).length ≤ d + 1 := by
  induction d with
  | zero => intro n h; rw [rdig_small (by simpa using h)]; simp
  | succ d ih =>
    intro n h
    by_cases hn : n < 10
    · rw [rdig_small hn]; simp
    · rw [rdig_big hn, List.length_cons]
      have := ih (n / 10) (by rw [Nat.pow_succ] at h; omega)
      omega
theorem rdig_len19 {n : Nat} (h : n ≤ 9223372036854775808) : (rdig n).length ≤ 19 := rdig_len 18 n (by omega)
theorem rdig_pos (n : Nat) : 1 ≤ (rdig n).length := by
  by_cases h : n < 10
  · rw [rdig_small h]; simp
  · rw [rdig_big h]; simp
theorem rdig_last (u : Nat) : 1 ≤ u → ∃ pre lead, rdig u = pre ++ [lead] ∧ 1 ≤ lead ∧ lead ≤ 9 := by
  induction u using Nat.strongRecOn with
  | _ u ih =>
    intro h0
    by_cases h : u < 10
    · exact ⟨[], (u : Int), by rw [rdig_small h]; rfl, by omega, by omega⟩
    · obtain ⟨pre, lead, e, h1, h2⟩ := ih (u / 10) (by omega) (by omega)
      exact ⟨((u % 10 : Nat) : Int) :: pre, lead, by rw [rdig_big h, e]; rfl, h1, h2⟩
/-- A row of digits, the last one ahead, as a text. -/
def txt (l : List Int) : ByteArray := strOfNums (l.map (fun d => 48 + d)).reverse
def dec (u : Nat) : ByteArray := txt (rdig u)
theorem bdata_inj {a b : ByteArray} (h : a.data.toList = b.data.toList) : a = b := by
  cases a; cases b; simpa using h
theorem txt_size (l : List Int) : (txt l).size = l.length := by simp [txt, strOfNums_size]
theorem txt_bytes (l : List Int) (h : ∀ d ∈ l, 0 ≤ d ∧ d ≤ 9) : bytesOf (txt l) = (l.map (fun d => 48 + d)).reverse := by
  have key : ∀ m : List Int, (∀ d ∈ m, 0 ≤ d ∧ d ≤ 255) → bytesOf (strOfNums m) = m := by
    intro m
    induction m with
    | nil => intro _; rfl
    | cons x m ih =>
      intro hm
      have h1 := hm x (by simp)
      have h2 := ih (fun d hd => hm d (List.mem_cons_of_mem _ hd))
      unfold bytesOf at h2 ⊢
      rw [strOfNums_data] at h2 ⊢
      simp only [List.map_cons, List.map_map] at h2 ⊢
      rw [h2]
      have : ((UInt8.ofNat x.toNat).toNat : Int) = x := by
        rw [UInt8.toNat_ofNat']
        omega
      rw [this]
  refine key _ (fun d hd => ?_)
  rw [List.mem_reverse, List.mem_map] at hd
  obtain ⟨a, ha, rfl⟩ := hd
  have := h a ha
  omega
theorem dec_digits (u : Nat) : (dec u).data.toList = Lib.decDigits u := by
  induction u using Nat.strongRecOn with
  | _ u ih =>
    unfold dec txt at ih ⊢
    rw [strOfNums_data]
    by_cases h : u < 10
    · rw [rdig_small h, Lib.decDigits, dif_pos h]
      have e : (48 + (u : Int)).toNat = 48 + u := by omega
      simp only [List.map_cons, List.map_nil, List.reverse_cons, List.reverse_nil, List.nil_append, e]
    · have hh := ih (u / 10) (by omega)
      rw [strOfNums_data] at hh
      rw [rdig_big h, Lib.decDigits, dif_neg h]
      have e : (48 + ((u % 10 : Nat) : Int)).toNat = 48 + u % 10 := by omega
      simp only [List.map_cons, List.reverse_cons, List.map_append, List.map_nil, e, hh]
theorem bt_split {s : ByteArray} {pre suf : List Int} {c : Int} (h : bytesOf s = pre ++ c :: suf) : bt s (pre.length : Int) = c := by
  rw [← rd_bytesOf, h]
  exact rd_mid pre suf c
theorem small_ok (n : Nat) : n ≤ 9223372036854775807 → Ev (fun k => spec_l11Small.f k (n : Int)) (dec n) := by
  induction n using Nat.strongRecOn with
  | _ n ih =>
    intro hn
    refine Ev.shift ?_
    simp only [spec_l11Small.f]
    by_cases h : n < 10
    · simp only [if_pos (show (n : Int) < 10 by omega)]
      have e : dec n = strOfNums [(wrap64 (48 + (n : Int))) % 256] := by
        unfold dec txt
        rw [rdig_small h, wrap64_eq (by omega) (by omega), show (48 + (n : Int)) % 256 = 48 + (n : Int) from by omega]
        rfl
      rw [e]
      exact Ev.now _
    · simp only [if_neg (show ¬ (n : Int) < 10 by omega)]
      have e1 : wrap64 (Int.tdiv (n : Int) 10) = ((n / 10 : Nat) : Int) := by
        rw [show Int.tdiv (n : Int) 10 = ((n / 10 : Nat) : Int) from by rw [Int.tdiv_eq_ediv_of_nonneg (by omega)]; omega, wrap64_eq (by omega) (by omega)]
      have e2 : (wrap64 (48 + Int.tmod (n : Int) 10)) % 256 = 48 + ((n % 10 : Nat) : Int) := by
        rw [show Int.tmod (n : Int) 10 = ((n % 10 : Nat) : Int) from by rw [Int.tmod_eq_emod_of_nonneg (by omega)]; omega, wrap64_eq (by omega) (by omega)]
        omega
      have h1 := ih (n / 10) (by omega) (by omega)
      rw [e1, e2]
      refine Ev.bind h1 ?_
      have hl := rdig_len19 (n := n / 10) (by omega)
      simp only [Option.bind_some]
      rw [if_pos (by rw [strOfNums_size]; unfold dec; rw [txt_size]; simp; omega)]
      have e : dec (n / 10) ++ strOfNums [48 + ((n % 10 : Nat) : Int)] = dec n := by
        refine bdata_inj ?_
        unfold dec txt
        rw [rdig_big h, ByteArray.data_append, Array.toList_append, strOfNums_data, strOfNums_data, strOfNums_data]
        simp
      rw [e]
      exact Ev.now _
theorem at_mid {m : Nat} {pre suf : List Int} {d : Int} (hm : m ≤ 9223372036854775807) (h : rdig m = pre ++ d :: suf) : spec_l11At.f (dec m) (pre.length : Int) = some d := by
  have hs : (dec m).size = pre.length + 1 + suf.length := by
    unfold dec
    rw [txt_size, h, List.length_append, List.length_cons]
    omega
  have hl := rdig_len19 (n := m) (by omega)
  rw [h, List.length_append, List.length_cons] at hl
  have hb : bytesOf (dec m) = (suf.map (fun d => 48 + d)).reverse ++ (48 + d) :: (pre.map (fun d => 48 + d)).reverse := by
    unfold dec
    rw [txt_bytes _ (rdig_range m), h]
    simp
  have hbt := bt_split hb
  rw [List.length_reverse, List.length_map] at hbt
  have hr := rdig_range m d (by rw [h]; simp)
  unfold spec_l11At.f
  have e : wrap64 (wrap64 (((dec m).size : Int) - 1) - (pre.length : Int)) = (suf.length : Int) := by
    rw [hs, wrap64_eq (x := ((pre.length + 1 + suf.length : Nat) : Int) - 1) (by omega) (by omega), wrap64_eq (by omega) (by omega)]
    omega
  rw [e, hbt, if_neg (by rw [hs]; omega), if_pos (by omega), if_pos (by rw [hs]; omega)]
  congr 1
  omega
theorem at_end {m : Nat} (hm : m ≤ 9223372036854775807) (i : Int) (h : ((rdig m).length : Int) ≤ i) : spec_l11At.f (dec m) i = some 0 := by
  unfold spec_l11At.f
  rw [if_pos (by unfold dec; rw [txt_size]; omega)]
def one : ByteArray := ⟨#[49]⟩
theorem one_size : one.size = 1 := rfl
theorem one_at (i : Nat) : spec_l11At.f one (i : Int) = some (if i = 0 then 1 else 0) := by
  by_cases h : i = 0
  · subst h
    decide +kernel
  · unfold spec_l11At.f
    rw [if_pos (by rw [one_size]; omega), if_neg h]
theorem trim_dec (u : Nat) (hu : u ≤ 9223372036854775808) : Ev (fun k => spec_l11Trim.f k (dec u)) (dec u) := by
  have hl := rdig_len19 hu
  have hs : (dec u).size = (rdig u).length := by unfold dec; rw [txt_size]
  have hx : (dec u).extract 0 (dec u).size = dec u := by simp
  simp only [spec_l11Trim.f]
  refine Ev.shift ?_
  simp only [spec_l11Trim.l0]
  have e1 : wrap64 ((0 : Int) + 1) = 1 := wrap64_eq (by omega) (by omega)
  rw [e1]
  simp only [Int.le_refl, if_true, show (0 : Int).toNat = 0 from rfl, hx, if_pos (show (0 : Int) ≤ ((dec u).size : Int) by omega)]
  by_cases h : (1 : Int) < ((dec u).size : Int)
  · simp only [if_pos h, if_pos (show (0 : Int) < ((dec u).size : Int) by omega)]
    have hu1 : 1 ≤ u := by
      rcases Nat.eq_zero_or_pos u with rfl | h'
      · rw [hs, rdig_small (by omega)] at h
        simp at h
      · exact h'
    obtain ⟨pre, lead, e, h1, h2⟩ := rdig_last u hu1
    have hb : bytesOf (dec u) = [] ++ (48 + lead) :: (pre.map (fun d => 48 + d)).reverse := by
      unfold dec
      rw [txt_bytes _ (rdig_range u), e]
      simp
    have hbt := bt_split hb
    rw [show ((([] : List Int).length : Nat) : Int) = 0 from rfl] at hbt
    simp only [hbt, if_neg (show ¬ 48 + lead = 48 by omega)]
    exact Ev.now _
  · simp only [if_neg h]
    exact Ev.now _
theorem text_loop (u : Nat) (hu : u ≤ 9223372036854775808) (suf : List Int) : ∀ pre : List Int, rdig u = pre ++ suf →
    Ev (fun k => spec_l11Text.l0 k (rdig u) (List.replicate suf.length 0 ++ (pre.map (fun d => 48 + d)).reverse) (pre.length : Int)) (dec u) := by
  have hl := rdig_len19 hu
  have hp := rdig_pos u
  induction suf with
  | nil =>
    intro pre h
    rw [List.append_nil] at h
    refine Ev.shift ?_
    rw [← h]
    simp only [spec_l11Text.l0, List.length_nil, List.replicate_zero, List.nil_append, List.length_reverse, List.length_map, if_neg (show ¬ ((rdig u).length : Int) < ((rdig u).length : Int) by omega), if_neg (show ¬ (((rdig u).length : Int) = 0) by omega)]
    refine Ev.bind (trim_dec u hu) ?_
    exact Ev.now _
  | cons d suf ih =>
    intro pre h
    have hlen : (rdig u).length = pre.length + 1 + suf.length := by rw [h, List.length_append, List.length_cons]; omega
    have hr := rdig_range u d (by rw [h]; simp)
    refine Ev.shift ?_
    have e : wrap64 (wrap64 (((rdig u).length : Int) - 1) - (pre.length : Int)) = (suf.length : Int) := by
      rw [hlen, wrap64_eq (x := ((pre.length + 1 + suf.length : Nat) : Int) - 1) (by omega) (by omega), wrap64_eq (by omega) (by omega)]
      omega
    have hrd : rd (rdig u) (pre.length : Int) = d := by rw [h]; exact rd_mid pre suf d
    simp only [spec_l11Text.l0, e, hrd, if_pos (show (pre.length : Int) < ((rdig u).length : Int) by omega), if_pos (Int.natCast_nonneg pre.length), if_pos (Int.natCast_nonneg suf.length)]
    have hlt : (suf.length : Int) < ((List.replicate (d :: suf).length (0 : Int) ++ (pre.map (fun d => 48 + d)).reverse).length : Int) := by simp; omega
    simp only [if_pos hlt]
    have e2 : (wrap64 (48 + d)) % 256 = 48 + d := by rw [wrap64_eq (by omega) (by omega)]; omega
    have e3 : wrap64 ((pre.length : Int) + 1) = ((pre ++ [d]).length : Int) := by rw [wrap64_eq (by omega) (by omega)]; simp
    have e4 : (List.replicate (d :: suf).length (0 : Int) ++ (pre.map (fun d => 48 + d)).reverse).set (suf.length : Int).toNat (48 + d) = List.replicate suf.length 0 ++ ((pre ++ [d]).map (fun d => 48 + d)).reverse := by
      rw [List.length_cons, List.replicate_succ', List.append_assoc, Int.toNat_natCast]
      rw [List.set_append_right _ _ (by simp)]
      simp
    simp only [e2, e3]
    rw [e4]
    exact ih (pre ++ [d]) (by rw [h]; simp)
theorem text_ok (u : Nat) (hu : u ≤ 9223372036854775808) : Ev (fun k => spec_l11Text.f k (rdig u)) (dec u) := by
  have hl := rdig_len19 hu
  simp only [spec_l11Text.f, if_pos (Int.natCast_nonneg (rdig u).length), Int.toNat_natCast, if_pos (show (rdig u).length ≤ 281474976710656 by omega)]
  have := text_loop u hu (rdig u) [] rfl
  simpa using this
theorem add_end (m : Nat) (hm : m ≤ 9223372036854775807) (out : List Int) (i : Nat) (hi : (rdig m).length ≤ i) (res : ByteArray) (hT : Ev (fun k => spec_l11Text.f k out) res) :
    Ev (fun k => spec_l11Add.l0 k (dec m) one out 0 (i : Int)) res := by
  have hp := rdig_pos m
  have hs : (dec m).size = (rdig m).length := by unfold dec; rw [txt_size]
  refine Ev.shift ?_
  simp only [spec_l11Add.l0, hs, one_size, if_neg (show ¬ (i : Int) < ((rdig m).length : Int) by omega), if_neg (show ¬ (i : Int) < ((1 : Nat) : Int) by omega), show decide ((0 : Int) > 0) = false from rfl]
  refine Ev.shift ?_
  simp only [spec_l11Add.j1, Bool.false_eq_true, if_false]
  refine Ev.bind hT ?_
  exact Ev.now _
theorem add_step (m : Nat) (hm : m ≤ 9223372036854775807) (out : List Int) (i : Nat) (c d b : Int) (hi : i ≤ 19) (ho : out.length ≤ 100) (hc0 : 0 ≤ c) (hc : c ≤ 1) (hd0 : 0 ≤ d) (hd : d ≤ 9) (hb0 : 0 ≤ b) (hb : b ≤ 1) (ha : spec_l11At.f (dec m) (i : Int) = some d) (h1 : spec_l11At.f one (i : Int) = some b) (res : ByteArray)
    (h : Ev (fun k => spec_l11Add.l0 k (dec m) one (out ++ [(d + b + c) % 10]) ((d + b + c) / 10) ((i + 1 : Nat) : Int)) res) :
    Ev (fun k => spec_l11Add.j1 k (dec m) one out c (i : Int) true) res := by
  refine Ev.shift ?_
  have e1 : wrap64 (wrap64 (d + b) + c) = d + b + c := by rw [wrap64_eq (x := d + b) (by omega) (by omega), wrap64_eq (by omega) (by omega)]
  have e2 : Int.tmod (d + b + c) 10 = (d + b + c) % 10 := Int.tmod_eq_emod_of_nonneg (by omega)
  have e3 : wrap64 (Int.tdiv (d + b + c) 10) = (d + b + c) / 10 := by rw [Int.tdiv_eq_ediv_of_nonneg (by omega), wrap64_eq (by omega) (by omega)]
  have e4 : wrap64 ((i : Int) + 1) = ((i + 1 : Nat) : Int) := by rw [wrap64_eq (by omega) (by omega)]; omega
  simp only [spec_l11Add.j1, if_true, ha, h1, Option.bind_some, if_pos (show out.length < 17592186044416 by omega), e1, e2, e3, e4]
  exact h
theorem add_loop (m : Nat) (hm : m ≤ 9223372036854775807) (q : Nat) : ∀ (e : Nat) (pre out : List Int) (c : Int), e ≤ 1 → rdig m = pre ++ rdig q → out.length = pre.length → 0 ≤ c → c ≤ 1 → (if pre.length = 0 then 1 else 0) + c = (e : Int) →
    ∀ res, Ev (fun k => spec_l11Text.f k (out ++ rdig (q + e))) res → Ev (fun k => spec_l11Add.l0 k (dec m) one out c (pre.length : Int)) res := by
  have hs : (dec m).size = (rdig m).length := by unfold dec; rw [txt_size]
  have hl := rdig_len19 (n := m) (by omega)
  induction q using Nat.strongRecOn with
  | _ q ih =>
    intro e pre out c he hr ho hc0 hc1 hec res hT
    have hq := rdig_pos q
    have hlen := congrArg List.length hr
    rw [List.length_append] at hlen
    refine Ev.shift ?_
    simp only [spec_l11Add.l0, hs, if_pos (show (pre.length : Int) < ((rdig m).length : Int) by omega)]
    have hone := one_at pre.length
    by_cases h : q < 10
    · rw [rdig_small h] at hr hlen
      have hat := at_mid (suf := []) hm hr
      rw [List.length_singleton] at hlen
      refine add_step m hm out pre.length c (q : Int) (if pre.length = 0 then 1 else 0) (by omega) (by omega) hc0 hc1 (by omega) (by omega) (by split <;> omega) (by split <;> omega) hat hone res ?_
      have hsum : (q : Int) + (if pre.length = 0 then 1 else 0) + c = ((q + e : Nat) : Int) := by omega
      rw [hsum]
      by_cases h10 : q + e < 10
      · rw [show ((q + e : Nat) : Int) / 10 = 0 from by omega, show ((q + e : Nat) : Int) % 10 = ((q + e : Nat) : Int) from by omega]
        rw [rdig_small h10] at hT
        exact add_end m hm _ _ (by omega) res hT
      · have h9 : q + e = 10 := by omega
        rw [h9] at hT ⊢
        rw [show ((10 : Nat) : Int) / 10 = 1 from rfl, show ((10 : Nat) : Int) % 10 = 0 from rfl]
        have hat2 := at_end hm ((pre.length + 1 : Nat) : Int) (by omega)
        have hone2 := one_at (pre.length + 1)
        rw [if_neg (by omega)] at hone2
        refine Ev.shift ?_
        simp only [spec_l11Add.l0, hs, one_size, if_neg (show ¬ ((pre.length + 1 : Nat) : Int) < ((rdig m).length : Int) by omega), if_neg (show ¬ ((pre.length + 1 : Nat) : Int) < ((1 : Nat) : Int) by omega), show decide ((1 : Int) > 0) = true from rfl]
        refine add_step m hm (out ++ [0]) (pre.length + 1) 1 0 0 (by omega) (by simp; omega) (by omega) (by omega) (by omega) (by omega) (by omega) (by omega) hat2 hone2 res ?_
        rw [show ((0 : Int) + 0 + 1) % 10 = 1 from rfl, show ((0 : Int) + 0 + 1) / 10 = 0 from rfl]
        refine add_end m hm _ _ (by omega) res ?_
        have e10 : rdig 10 = [0, 1] := by rw [rdig_big (by omega), rdig_small (by omega)]; rfl
        rw [e10] at hT
        simpa using hT
    · rw [rdig_big h] at hr
      have hat := at_mid hm hr
      refine add_step m hm out pre.length c ((q % 10 : Nat) : Int) (if pre.length = 0 then 1 else 0) (by omega) (by omega) hc0 hc1 (by omega) (by omega) (by split <;> omega) (by split <;> omega) hat hone res ?_
      have hsum : ((q % 10 : Nat) : Int) + (if pre.length = 0 then 1 else 0) + c = ((q % 10 + e : Nat) : Int) := by omega
      rw [hsum]
      have := ih (q / 10) (by omega) ((q % 10 + e) / 10) (pre ++ [((q % 10 : Nat) : Int)]) (out ++ [((q % 10 + e : Nat) : Int) % 10]) (((q % 10 + e : Nat) : Int) / 10) (by omega) (by rw [hr]; simp) (by simp [ho]) (by omega) (by omega) (by simp) res (by
        rw [rdig_big (show ¬ q + e < 10 by omega)] at hT
        have e1 : (((q + e) % 10 : Nat) : Int) = ((q % 10 + e : Nat) : Int) % 10 := by omega
        have e2 : (q + e) / 10 = q / 10 + (q % 10 + e) / 10 := by omega
        rw [e1, e2] at hT
        simpa using hT)
      simpa using this
theorem add_ok (m : Nat) (hm : m ≤ 9223372036854775807) : Ev (fun k => spec_l11Add.f k (dec m) (⟨#[49]⟩ : ByteArray)) (dec (m + 1)) := by
  simp only [spec_l11Add.f]
  exact add_loop m hm m 1 [] [] 0 (by omega) rfl rfl (by omega) (by omega) rfl _ (text_ok (m + 1) (by omega))
theorem dec_first (u : Nat) : ∃ c suf, bytesOf (dec u) = [] ++ c :: suf ∧ 48 ≤ c := by
  have hp := rdig_pos u
  have hb := txt_bytes _ (rdig_range u)
  have hd : bytesOf (dec u) = (List.map (fun d => 48 + d) (rdig u)).reverse := hb
  rw [hd]
  cases h : ((rdig u).map (fun d => 48 + d)).reverse with
  | nil =>
    have := congrArg List.length h
    rw [List.length_reverse, List.length_map, List.length_nil] at this
    omega
  | cons c suf =>
    refine ⟨c, suf, rfl, ?_⟩
    have hm : c ∈ ((rdig u).map (fun d => 48 + d)).reverse := by rw [h]; simp
    rw [List.mem_reverse, List.mem_map] at hm
    obtain ⟨d, hd, rfl⟩ := hm
    have := rdig_range u d hd
    omega
theorem FnExactNumInt : laws_FnExactNumInt.Pure := by
  intro a ha
  have hb : -9223372036854775808 ≤ a ∧ a ≤ 9223372036854775807 := by
    simp [Lit.wf] at ha
    first | exact ha | (simp [IntKind.inRange, IntKind.min, IntKind.max] at ha; omega)
  refine Ev.rounds ?_
  have hEq : ∀ (b : Bool) (s : ByteArray), laws_eqNum.f b s (⟨#[49]⟩ : ByteArray) b s (⟨#[49]⟩ : ByteArray) = some true := by
    intro b s
    simp [laws_eqNum.f]
  have both : ∃ b s, Ev (fun k => spec_NumInt.f k a) (b, s, (⟨#[49]⟩ : ByteArray)) ∧ impl_NumInt.f a = some (b, s, (⟨#[49]⟩ : ByteArray)) := by
    by_cases h : a ≥ 0
    · obtain ⟨n, rfl⟩ : ∃ n : Nat, a = (n : Int) := ⟨a.toNat, by omega⟩
      refine ⟨false, dec n, ?_, ?_⟩
      · simp only [spec_NumInt.f, if_pos h]
        refine Ev.bind (small_ok n (by omega)) ?_
        exact Ev.now _
      · have ht : strconv_Itoa.f (n : Int) = some (dec n) := by
          unfold strconv_Itoa.f
          rw [if_pos hb.1, if_pos hb.2]
          congr 1
          refine bdata_inj ?_
          rw [dec_digits]
          simp [Lib.itoa]
        obtain ⟨c, suf, hc, h48⟩ := dec_first n
        have hbt := bt_split hc
        rw [show ((([] : List Int).length : Nat) : Int) = 0 from rfl] at hbt
        have hs : 0 < (dec n).size := by unfold dec; rw [txt_size]; exact rdig_pos n
        simp only [impl_NumInt.f, ht, Option.bind_some, if_pos (show 0 < ((dec n).size : Int) by omega), hbt, if_neg (show ¬ c = 45 by omega)]
    · obtain ⟨m, hm⟩ : ∃ m : Nat, a = -((m + 1 : Nat) : Int) := ⟨(-a - 1).toNat, by omega⟩
      have hm63 : m ≤ 9223372036854775807 := by omega
      refine ⟨true, dec (m + 1), ?_, ?_⟩
      · simp only [spec_NumInt.f, if_neg h]
        have e : wrap64 (-(wrap64 (a + 1))) = (m : Int) := by
          rw [wrap64_eq (x := a + 1) (by omega) (by omega), wrap64_eq (by omega) (by omega)]
          omega
        rw [e]
        refine Ev.bind (small_ok m hm63) ?_
        refine Ev.bind (add_ok m hm63) ?_
        exact Ev.now _
      · have ht : strconv_Itoa.f a = some (⟨(45 :: Lib.decDigits (m + 1)).toArray⟩ : ByteArray) := by
          unfold strconv_Itoa.f
          rw [if_pos hb.1, if_pos hb.2]
          have : Lib.itoa a = 45 :: Lib.decDigits (m + 1) := by
            unfold Lib.itoa
            rw [if_pos (by omega), show a.natAbs = m + 1 from by omega]
          rw [this]
        generalize ht' : (⟨(45 :: Lib.decDigits (m + 1)).toArray⟩ : ByteArray) = t at ht
        have hbytes : bytesOf t = [] ++ 45 :: bytesOf (dec (m + 1)) := by
          rw [← ht']
          unfold bytesOf
          rw [dec_digits]
          simp
        have hbt := bt_split hbytes
        rw [show ((([] : List Int).length : Nat) : Int) = 0 from rfl] at hbt
        have hs : t.size = 1 + (Lib.decDigits (m + 1)).length := by
          rw [← ht']
          simp [ByteArray.size]
          omega
        have hx : t.extract 1 t.size = dec (m + 1) := by
          refine bdata_inj ?_
          rw [dec_digits, ByteArray.data_extract, Array.toList_extract, ← ht']
          simp [ByteArray.size]
        simp only [impl_NumInt.f, ht, Option.bind_some, if_pos (show 0 < (t.size : Int) by omega), hbt, if_true, if_pos (show 1 ≤ (t.size : Int) by omega), hx]
  obtain ⟨b, s, h1, h2⟩ := both
  simp only [laws_FnExactNumInt.f]
  refine Ev.bind h1 ?_
  simp only [h2, Option.bind_some, hEq, if_true]
  exact Ev.now _
end Go.Proofs.YtmdhanegafclmaaDoor.Pure
