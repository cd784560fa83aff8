/- MADE BY PROGRAM (gen.py) -/
import Derived.Test.YtmcbhnbemhfifaaDoorRxD
import Derived.Test.YtmcbhnbemhfifaaDoorFlRxSt
namespace Go.Proofs.YtmcbhnbemhfifaaDoor.RX
open Go Go.RowKit
set_option autoImplicit false
def sigS : Nat → Type
  | 0 => TExpForm
  | 1 => Tlaws_ExpForm
  | _ + 2 => Unit

def sigFs : Nat → List Ty
  | 0 => [(.int .i64), .str, (.sl 3 (.int .i64)), (.int .i64), (.sl 29 (.st 0))]
  | 1 => [(.int .i64), .str, (.sl 3 (.int .i64)), (.int .i64), (.sl 25 (.st 1))]
  | _ + 2 => []

def sigOp : (s : Nat) → sigS s → Fs sigS (sigFs s)
  | 0, (x : TExpForm) => (x.vSort, x.vText, x.vScopes, x.vFrom, x.vKids, ())
  | 1, (x : Tlaws_ExpForm) => (x.vSort, x.vText, x.vScopes, x.vFrom, x.vKids, ())
  | _ + 2, _ => ()

def sigBd : (s : Nat) → Fs sigS (sigFs s) → sigS s
  | 0, h => (⟨h.1, h.2.1, h.2.2.1, h.2.2.2.1, h.2.2.2.2.1⟩ : TExpForm)
  | 1, h => (⟨h.1, h.2.1, h.2.2.1, h.2.2.2.1, h.2.2.2.2.1⟩ : Tlaws_ExpForm)
  | _ + 2, _ => ()

def sigZ : (s : Nat) → sigS s
  | 0 => zTExpForm
  | 1 => zTlaws_ExpForm
  | _ + 2 => ()

def sigSz : Nat → Nat
  | 0 => 5
  | 1 => 5
  | _ + 2 => 0

def sigTab : List (Nat × TI) := [(3, ⟨[.t (.int .i64)], [], false, some (.int .i64)⟩),
  (5, ⟨[.t (.int .u8)], [], false, some (.int .u8)⟩),
  (9, ⟨[.t .str], [], false, some .str⟩),
  (22, ⟨[.t (.sl 3 (.int .i64))], [], false, some (.sl 3 (.int .i64))⟩),
  (23, ⟨[.t (.sl 25 (.st 1))], [], false, some (.sl 25 (.st 1))⟩),
  (25, ⟨[.t (.int .i64), .t .str, .t (.sl 3 (.int .i64)), .t (.int .i64), .t (.sl 25 (.st 1))], [(0, 1), (1, 1), (2, 1), (3, 1), (4, 1)], true, some (.st 1)⟩),
  (27, ⟨[.t (.sl 29 (.st 0))], [], false, some (.sl 29 (.st 0))⟩),
  (29, ⟨[.t (.int .i64), .t .str, .t (.sl 3 (.int .i64)), .t (.int .i64), .t (.sl 29 (.st 0))], [(0, 1), (1, 1), (2, 1), (3, 1), (4, 1)], true, some (.st 0)⟩),
  (40, ⟨[.t (.sl 5 (.int .u8))], [], false, some (.sl 5 (.int .u8))⟩)]
def sigCap : List (Nat × Nat) := [(3, 17592186044416), (5, 140737488355328), (25, 1759218604441), (29, 1759218604441)]
def sg : Sig where
  S := sigS
  fs := sigFs
  op := sigOp
  bd := sigBd
  hop := by intro s h; match s with | 0 => rfl | 1 => rfl | _ + 2 => rfl
  sz := sigSz
  z := sigZ
  tab := get sigTab
  cap := fun e => match get sigCap e with | some n => n | none => 0
theorem sg.ok : SigOK sg := fun s => match s with | 0 => rfl | 1 => rfl | _ + 2 => rfl
theorem sg.t3 : TOK Tryd.prog sg 3 ⟨[.t (.int .i64)], [], false, some (.int .i64)⟩ := tokInt .i64 (by kernel_rfl) (by kernel_rfl)
theorem sg.t5 : TOK Tryd.prog sg 5 ⟨[.t (.int .u8)], [], false, some (.int .u8)⟩ := tokInt .u8 (by kernel_rfl) (by kernel_rfl)
theorem sg.t9 : TOK Tryd.prog sg 9 ⟨[.t .str], [], false, some .str⟩ := tokStr (by kernel_rfl) (by kernel_rfl)
theorem sg.t22 : TOK Tryd.prog sg 22 ⟨[.t (.sl 3 (.int .i64))], [], false, some (.sl 3 (.int .i64))⟩ := tokSl 3 (.int .i64) (n := 8) (z := zval ⟨[.t (.int .i64)], [], false, none⟩) (by kernel_rfl) (by kernel_rfl) (by kernel_rfl) (by kernel_rfl) (Nat.lt_of_succ_le (Nat.le_of_ble_eq_true (by kernel_rfl))) (Nat.le_of_ble_eq_true (by kernel_rfl)) (Nat.le_of_ble_eq_true (by kernel_rfl))
theorem sg.t23 : TOK Tryd.prog sg 23 ⟨[.t (.sl 25 (.st 1))], [], false, some (.sl 25 (.st 1))⟩ := tokSl 25 (.st 1) (n := 80) (z := zval ⟨[.t (.int .i64), .t .str, .t (.sl 3 (.int .i64)), .t (.int .i64), .t (.sl 25 (.st 1))], [(0, 1), (1, 1), (2, 1), (3, 1), (4, 1)], true, none⟩) (by kernel_rfl) (by kernel_rfl) (by kernel_rfl) (by kernel_rfl) (Nat.lt_of_succ_le (Nat.le_of_ble_eq_true (by kernel_rfl))) (Nat.le_of_ble_eq_true (by kernel_rfl)) (Nat.le_of_ble_eq_true (by kernel_rfl))
theorem sg.t25 : TOK Tryd.prog sg 25 ⟨[.t (.int .i64), .t .str, .t (.sl 3 (.int .i64)), .t (.int .i64), .t (.sl 25 (.st 1))], [(0, 1), (1, 1), (2, 1), (3, 1), (4, 1)], true, some (.st 1)⟩ := tokAgg _ _ _ (by kernel_rfl) (by kernel_rfl) (fun _ => rfl) (by kernel_rfl) (fun u h => ⟨1, by injection h with h; exact h.symm, by kernel_rfl, by kernel_rfl⟩) (by intro h; cases h) (by intro h; cases h)
theorem sg.t27 : TOK Tryd.prog sg 27 ⟨[.t (.sl 29 (.st 0))], [], false, some (.sl 29 (.st 0))⟩ := tokSl 29 (.st 0) (n := 80) (z := zval ⟨[.t (.int .i64), .t .str, .t (.sl 3 (.int .i64)), .t (.int .i64), .t (.sl 29 (.st 0))], [(0, 1), (1, 1), (2, 1), (3, 1), (4, 1)], true, none⟩) (by kernel_rfl) (by kernel_rfl) (by kernel_rfl) (by kernel_rfl) (Nat.lt_of_succ_le (Nat.le_of_ble_eq_true (by kernel_rfl))) (Nat.le_of_ble_eq_true (by kernel_rfl)) (Nat.le_of_ble_eq_true (by kernel_rfl))
theorem sg.t29 : TOK Tryd.prog sg 29 ⟨[.t (.int .i64), .t .str, .t (.sl 3 (.int .i64)), .t (.int .i64), .t (.sl 29 (.st 0))], [(0, 1), (1, 1), (2, 1), (3, 1), (4, 1)], true, some (.st 0)⟩ := tokAgg _ _ _ (by kernel_rfl) (by kernel_rfl) (fun _ => rfl) (by kernel_rfl) (fun u h => ⟨0, by injection h with h; exact h.symm, by kernel_rfl, by kernel_rfl⟩) (by intro h; cases h) (by intro h; cases h)
theorem sg.t40 : TOK Tryd.prog sg 40 ⟨[.t (.sl 5 (.int .u8))], [], false, some (.sl 5 (.int .u8))⟩ := tokSl 5 (.int .u8) (n := 1) (z := zval ⟨[.t (.int .u8)], [], false, none⟩) (by kernel_rfl) (by kernel_rfl) (by kernel_rfl) (by kernel_rfl) (Nat.lt_of_succ_le (Nat.le_of_ble_eq_true (by kernel_rfl))) (Nat.le_of_ble_eq_true (by kernel_rfl)) (Nat.le_of_ble_eq_true (by kernel_rfl))
theorem sg.tab : TabOK Tryd.prog sg := tabOK_of sigTab rfl ⟨sg.t3, sg.t5, sg.t9, sg.t22, sg.t23, sg.t25, sg.t27, sg.t29, sg.t40, trivial⟩
theorem sg.rd0 : rdB Tryd.prog sg sigTab = true := by kernel_rfl
theorem sg.rd : ∀ T ti, Sig.tab sg T = some ti → rdB1 Tryd.prog sg T ti = true := fun T ti h => rdB_get sg.rd0 h
theorem sg.mixed : Tryd.prog.follows .mixedOrders = true := by kernel_rfl
end Go.Proofs.YtmcbhnbemhfifaaDoor.RX
