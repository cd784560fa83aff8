/- A law's row out of a contract: the call from outside. Conditions: the arguments are read. -/
import Derived.Test.YtmcbhnbemhfifaaDoorRx21
namespace Go.Proofs.YtmcbhnbemhfifaaDoor.RX
open Go Go.RowKit
set_option autoImplicit false
variable {G : Sig} {P : Program}

def oldZ (w : World) : Nat → Nat → Prop := fun b _ => b < w.heap.size
/-- No object. -/
theorem TrOK.none {G : Sig} (W : Nat → Nat → Prop) (base : Nat) (Z : Nat → Nat → Prop) (pl : Nat → Value) (nx : Nat) (w : World) : TrOK (G := G) W base Z pl [] nx w (fun _ => []) where
  rep := fun o b hg => by simp [get] at hg
  nd := fun _ => List.nodup_nil
  sep := fun _ _ _ h => by cases h
  root := fun _ _ _ _ h => by cases h
  own := fun _ _ h => by cases h
  zfar := fun _ _ h => by cases h
  lt := fun _ _ h => by cases h
theorem holds_calls {c : Ct G} {f : FuncId} (H : c.Holds P f) {fn : Func} {body : Code} (hf : P.funcs[f]? = some fn) (hb : fn.body = some body) (hname : (fn.name == "runtime.NumGoroutine") = false) (hobj : c.ip.objs = [])
    {w : World} {args : Array Value} {h : HL G.S c.its} {r : HL G.S c.ots} (hF : c.F h = some r) (hargs : args.size = c.ip.tmps.length)
    (hv : ∀ t d, get (instP c.ip (ofHL c.its h)).tmps t = some d → DVOK (oldZ w) w (fun _ => undef) (instP c.ip (ofHL c.its h)).nx d (args.getD t undef)) :
    Calls P f args w fun e w' => ∃ v, e = .returned v ∧ (∃ Z' pr, ∀ t d, get (instP c.rp (ofHL c.ots r)).tmps t = some d → DVOK Z' w' pr (instP c.rp (ofHL c.ots r)).nx d (compV c.rp.tmps.length v t)) ∧ Below w.heap.size w w' := by
  have henter : (callFunc f args).run P w = .ok (.enter f args) w := by
    simp only [callFunc, Sem.run_bind, run_program, Result.andThen_ok, hf]
    rw [if_neg (by rw [hname]; decide), hb]
    rfl
  have hob : ∀ vs : List (TV G), (instP c.ip vs).objs = [] := fun vs => by simp only [instP, hobj, iObs]
  have M : Mem ⟨fun _ _ => False, oldZ w, fixOf 0 c.ip.objs, fun _ => undef⟩ w (oldZ w) (fun _ => undef) (instP c.ip (ofHL c.its h)).objs (instP c.ip (ofHL c.its h)).nx w := by
    rw [hob]
    refine ⟨fun o b hg => by simp [get] at hg, fun o b hg => by simp [get] at hg, fun o o' b b' k hg => by simp [get] at hg, fun o b k hg => by simp [get] at hg, fun o b k hg => by simp [get] at hg, fun b i hz => hz, fun b i hz => .inl hz, fun b i hz => hz, fun j hj => ?_, Fr.refl _ _ _, ⟨_, TrOK.none _ _ _ _ _ _⟩⟩
    rw [hobj] at hj
    cases hj
  rcases H.run (fun _ _ => False) (oldZ w) (fun _ => undef) w args h r hF hargs hv M with ⟨v, w', h1, _⟩ | ⟨_, h2⟩
  · rw [henter] at h1; cases h1
  · refine h2.mono fun e w' ⟨v, e1, Z', pr, q1, _, q3⟩ => ⟨v, e1, ⟨Z', pr, q1⟩, ?_⟩
    have F := q3.fr
    exact ⟨F.os, F.tape, F.output, F.size, fun k hk => F.blk k hk (fun i h => h)⟩
/-- What a row of numbers reads as. -/
def IsRow (k : IntKind) (w : World) (a : Option Addr) (len cap : Nat) (zs : List Int) : Prop :=
 (a = none ∧ len = 0 ∧ cap = 0 ∧ zs = []) ∨
 ∃ x, a = some x ∧ len ≤ cap ∧ cap ≤ maxLen ∧ zs.length = cap ∧ (∀ i, i < zs.length → w.cell? (x.add i) = some (.int k (zs.getD i 0))) ∧ ∀ n ∈ zs, (Lit.int k n).wf = true
theorem spot_none {w : World} {x : Addr} {v : Value} (h : w.cell? (x.add 0) = some v) : x.spot = none := by
  have h : w.cell? x = some v := h
  cases hx : x.spot with
  | none => rfl
  | some s =>
    exfalso
    unfold World.cell? at h
    split at h
    · rw [hx] at h; cases h
    · cases h
theorem rep_ints {k : IntKind} {w : World} {a : Option Addr} {len cap : Nat} {zs : List Int} (e : TypeId) (h : IsRow k w a len cap zs) : RepC G (oldZ w) w (.sl e (.int k)) (zs.take len) [.slice a len cap] := by
  rcases h with ⟨rfl, rfl, rfl, rfl⟩ | ⟨x, rfl, hl, hm, hz, hc, _⟩
  · exact .sl e (.int k) [] none 0 0 0 (fun _ => []) (Nat.le_refl _) (.inl rfl) (fun i hi => by cases hi) (fun i j v hi => by cases hi) (fun i hi => by cases hi)
  · have hlen : (zs.take len).length = len := by rw [List.length_take]; omega
    have key : RepC G (oldZ w) w (.sl e (.int k)) (zs.take len) [.slice (some x) (zs.take len).length cap] := by
      refine .sl e (.int k) _ _ _ x.block x.off (fun i => [.int k (zs.getD i 0)]) (by show (zs.take len).length ≤ _; omega) ?_ (fun i hi => rfl) (fun i j v hi hj => ?_) (fun i hi => ?_)
      · by_cases h0 : (zs.take len).length = 0
        · exact .inl h0
        · right
          have := hc 0 (by omega)
          have hs : x.spot = none := spot_none this
          cases x; simp_all
      · have hi : i < (zs.take len).length := hi
        cases j with
        | zero =>
          simp only [List.getElem?_cons_zero, Option.some.injEq] at hj
          subst hj
          have h1 := hc i (by omega)
          have hs : x.spot = none := spot_none (hc 0 (by omega))
          have h1 : w.cell? ⟨x.block, x.off + i, none⟩ = some (.int k (zs.getD i 0)) := by
            rw [← h1]; congr 1; obtain ⟨b, o, s⟩ := x; subst hs; exact (add_at b o i).symm
          refine ⟨cell_lt h1, ?_⟩
          simp only [Sig.csz, Nat.mul_one, Nat.add_zero]
          exact h1
        | succ j => simp at hj
      · have hi : i < (zs.take len).length := hi
        have e1 : (zs.take len)[i] = zs.getD i 0 := by
          have : i < zs.length := by omega
          simp [List.getD, this]
        show RepC G _ _ (.int k) ((zs.take len)[i] : Int) _
        rw [e1]
        exact .int k _
    rw [hlen] at key
    exact key
theorem Fr.of_below {W : Rights} {base : Nat} {w w' : World} (h : Below w.heap.size w w') (hb : base ≤ w.heap.size) : Fr W base w w' :=
  ⟨h.os, h.tape, h.output, h.size, fun b hb' _ => h.block b (by omega), fun b cs T fr hb' _ hc => ⟨cs, by rw [h.block b (by omega)]; exact hc, rfl, fun _ _ => rfl⟩⟩
/-- A contract out of a call that is known: values in, values out. -/
theorem holds_of_calls {c : Ct G} {f : FuncId} {fn : Func} {body : Code} (hf : P.funcs[f]? = some fn) (hb : fn.body = some body) (hname : (fn.name == "runtime.NumGoroutine") = false) (hio : c.ip.objs = []) (hro : c.rp.objs = []) (h1 : c.rp.tmps.length = 1)
    (keys : keysOK 0 c.rp.tmps = true) (brw : c.br = true → brOK c = true)
    (H : ∀ (Z : Nat → Nat → Prop) (w : World) (args : Array Value) (h : HL G.S c.its) (r : HL G.S c.ots), c.F h = some r → args.size = c.ip.tmps.length → (∀ b i, Z b i → b < w.heap.size) →
      (∃ pl, ∀ t d, get (instP c.ip (ofHL c.its h)).tmps t = some d → DVOK Z w pl (instP c.ip (ofHL c.its h)).nx d (args.getD t undef)) →
      Calls P f args w fun e w' => ∃ v, e = .returned v ∧ (∀ pl t d, get (instP c.rp (ofHL c.ots r)).tmps t = some d → DVOK Z w' pl (instP c.rp (ofHL c.ots r)).nx d (compV 1 v t)) ∧ Below w.heap.size w w') : c.Holds P f := by
  refine ⟨by rw [hio]; rfl, keys, brw, fun Wr Z pl w args h r hF hargs hv M => .inr ⟨?_, ?_⟩⟩
  · simp only [callFunc, Sem.run_bind, run_program, Result.andThen_ok, hf]
    rw [if_neg (by rw [hname]; decide), hb]
    rfl
  · refine (H Z w args h r hF hargs M.zlt ⟨pl, hv⟩).mono fun e w' ⟨v, e1, q, bel⟩ => ⟨v, e1, Z, pl, fun t d hg => by rw [h1]; exact q pl t d hg, .inl h1, ?_⟩
    have hob : ∀ vs : List (TV G), (instP c.rp vs).objs = [] := fun vs => by simp only [instP, hro, iObs]
    rw [hob]
    refine ⟨fun o b hg => by simp [get] at hg, fun o b hg => by simp [get] at hg, fun o o' b b' k hg => by simp [get] at hg, fun o b k hg => by simp [get] at hg, fun o b k hg => by simp [get] at hg, fun b i hz => Nat.lt_of_lt_of_le (M.zlt b i hz) bel.size, fun b i hz => .inl hz, fun b i hz => hz, fun j hj => ?_, Fr.of_below bel (Nat.le_refl _), ⟨_, TrOK.none _ _ _ _ _ _⟩⟩
    rw [show fixOf 0 c.ip.objs = [] by rw [hio]; rfl] at hj
    cases hj
theorem args2 {args : Array Value} {x y : Value} (h : args.size = 2) (hx : args.getD 0 undef = x) (hy : args.getD 1 undef = y) : args = #[x, y] := by
  obtain ⟨l⟩ := args
  match l, h with
  | [a, b], _ => simp at hx hy; rw [hx, hy]
end Go.Proofs.YtmcbhnbemhfifaaDoor.RX
