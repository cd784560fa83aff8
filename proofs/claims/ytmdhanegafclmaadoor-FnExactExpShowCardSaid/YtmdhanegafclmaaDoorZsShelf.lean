/- Shelf of the seat's texts, cut down by prune.py to what the theorem comes to. -/
import Derived.Shelf.Strings.SlTrimAscii
import Derived.Shelf.Strings.OnBuilder
import Derived.Shelf.Small.Strs
import Derived.Shelf.LaysM
import Derived.Shelf.Strconv.Itoa3
import Derived.Shelf.Strings.Search1
import Derived.Test.YtmdhanegafclmaaDoorProg
namespace Go.Proofs
open Go.Shelf
def Tryd.lays156_ren : Go.Shelf.Ren := ⟨fun | 156 => 59 | 165 => 79 | 166 => 80 | 169 => 81 | 240 => 100 | 241 => 101 | 276 => 114 | 277 => 115 | n => n, fun | 31 => 69 | 9 => 9 | 3 => 3 | 4 => 4 | 0 => 0 | 20 => 20 | 72 => 83 | 76 => 87 | 70 => 81 | 37 => 64 | 75 => 86 | 127 => 105 | 164 => 117 | 5 => 5 | 80 => 89 | n => n, fun | n => n⟩
theorem Tryd.lays156 : Go.Proofs.Lays.n156 Tryd.prog Tryd.lays156_ren := {
 mixed := by kernel_rfl
 f156 := Tryd.func59.trans (congrArg some (by kernel_rfl))
 f165 := Tryd.func79.trans (congrArg some (by kernel_rfl))
 f166 := Tryd.func80.trans (congrArg some (by kernel_rfl))
 f169 := Tryd.func81.trans (congrArg some (by kernel_rfl))
 f240 := Tryd.func100.trans (congrArg some (by kernel_rfl))
 f241 := Tryd.func101.trans (congrArg some (by kernel_rfl))
 f276 := Tryd.func114.trans (congrArg some (by kernel_rfl))
 f277 := Tryd.func115.trans (congrArg some (by kernel_rfl))
 t0 := Tryd.underlying0
 a0 := Tryd.isAgg0
 z0 := Tryd.sizeOf0
 v0 := Tryd.zeroValue0
 t3 := Tryd.underlying3
 a3 := Tryd.isAgg3
 z3 := Tryd.sizeOf3
 v3 := Tryd.zeroValue3
 t4 := Tryd.underlying4
 a4 := Tryd.isAgg4
 z4 := Tryd.sizeOf4
 v4 := Tryd.zeroValue4
 t9 := Tryd.underlying9
 a9 := Tryd.isAgg9
 z9 := Tryd.sizeOf9
 v9 := Tryd.zeroValue9
 t20 := Tryd.underlying20
 a20 := Tryd.isAgg20
 z20 := Tryd.sizeOf20
 v20 := Tryd.zeroValue20
 t31 := Tryd.underlying69
 a31 := Tryd.isAgg69
 z31 := Tryd.sizeOf69
 v31 := Tryd.zeroValue69
 t37 := Tryd.underlying64
 a37 := Tryd.isAgg64
 z37 := Tryd.sizeOf64
 v37 := Tryd.zeroValue64
 t70 := Tryd.underlying81
 a70 := Tryd.isAgg81
 z70 := Tryd.sizeOf81
 v70 := Tryd.zeroValue81
 t72 := Tryd.underlying83
 a72 := Tryd.isAgg83
 z72 := Tryd.sizeOf83
 v72 := Tryd.zeroValue83
 t75 := Tryd.underlying86
 a75 := Tryd.isAgg86
 z75 := Tryd.sizeOf86
 v75 := Tryd.zeroValue86
 t76 := Tryd.underlying87
 a76 := Tryd.isAgg87
 z76 := Tryd.sizeOf87
 v76 := Tryd.zeroValue87
 t127 := Tryd.underlying105
 a127 := Tryd.isAgg105
 z127 := Tryd.sizeOf105
 v127 := Tryd.zeroValue105
 t164 := Tryd.underlying117
 a164 := Tryd.isAgg117
 z164 := Tryd.sizeOf117
 v164 := Tryd.zeroValue117 }
theorem Tryd.Builder_Extra_156 : Builder.Extra Tryd.prog Tryd.lays156_ren := {
 sizeBuilder := by kernel_rfl
 liesBuilder := by kernel_rfl
 t5 := Tryd.underlying5
 a5 := Tryd.isAgg5
 z5 := Tryd.sizeOf5
 v5 := Tryd.zeroValue5
 infoByte := by kernel_rfl
 cellsByte := by kernel_rfl
 sizeByte := by kernel_rfl
 neB5 := by decide }
open Go.RowKit in
theorem Tryd.strings_Join_none (a : Option Addr) (c : Nat) (sep : ByteArray) (w : World) :
  Calls Tryd.prog 59 #[.slice a 0 c, .string sep] w fun e w' => e = .returned (.string ⟨#[]⟩) ∧ w' = w := Any.strings_Join_none Tryd.lays156 Tryd.Builder_Extra_156 a c sep w
open Go.RowKit in
theorem Tryd.strings_Join (bk o c : Nat) (xs : List ByteArray) (sep : ByteArray) (w : World) (hcells : ∀ (j : Nat) x, xs[j]? = some x → w.cell? ⟨bk, o + j, none⟩ = some (.string x)) (hbk : bk < w.heap.size) (hN : xs.length ≤ 140737488355328) (hcap : xs.length ≤ c) (hlen : (Lib.join (xs.map (·.data.toList)) sep.data.toList).length ≤ 140737488355328) :
  Calls Tryd.prog 59 #[.slice (some ⟨bk, o, none⟩) xs.length c, .string sep] w fun e w' => e = .returned (.string ⟨(Lib.join (xs.map (·.data.toList)) sep.data.toList).toArray⟩) ∧ Below w.heap.size w w' := Any.strings_Join Tryd.lays156 Tryd.Builder_Extra_156 bk o c xs sep w hcells hbk hN hcap hlen
def Tryd.lays160_ren : Go.Shelf.Ren := ⟨fun | 160 => 78 | 232 => 94 | 231 => 93 | 227 => 95 | 234 => 97 | 233 => 96 | 236 => 99 | 235 => 98 | 228 => 110 | 271 => 113 | 151 => 112 | 197 => 111 | 120 => 120 | 152 => 119 | 260 => 118 | 137 => 76 | 119 => 121 | 224 => 122 | 225 => 123 | 217 => 91 | 266 => 108 | n => n, fun | 9 => 9 | 4 => 4 | 3 => 3 | 5 => 5 | 117 => 101 | 116 => 100 | 0 => 0 | 124 => 104 | 21 => 21 | 105 => 114 | 46 => 111 | 119 => 124 | 139 => 127 | 138 => 126 | n => n, fun | 3 => 4 | 4 => 5 | n => n⟩
theorem Tryd.lays160 : Go.Proofs.Lays.n160 Tryd.prog Tryd.lays160_ren := {
 mixed := by kernel_rfl
 f119 := Tryd.func121.trans (congrArg some (by kernel_rfl))
 f120 := Tryd.func120.trans (congrArg some (by kernel_rfl))
 f137 := Tryd.func76.trans (congrArg some (by kernel_rfl))
 f151 := Tryd.func112.trans (congrArg some (by kernel_rfl))
 f152 := Tryd.func119.trans (congrArg some (by kernel_rfl))
 f160 := Tryd.func78.trans (congrArg some (by kernel_rfl))
 f197 := Tryd.func111.trans (congrArg some (by kernel_rfl))
 f217 := Tryd.func91.trans (congrArg some (by kernel_rfl))
 f224 := Tryd.func122.trans (congrArg some (by kernel_rfl))
 f225 := Tryd.func123.trans (congrArg some (by kernel_rfl))
 f227 := Tryd.func95.trans (congrArg some (by kernel_rfl))
 f228 := Tryd.func110.trans (congrArg some (by kernel_rfl))
 f231 := Tryd.func93.trans (congrArg some (by kernel_rfl))
 f232 := Tryd.func94.trans (congrArg some (by kernel_rfl))
 f233 := Tryd.func96.trans (congrArg some (by kernel_rfl))
 f234 := Tryd.func97.trans (congrArg some (by kernel_rfl))
 f235 := Tryd.func98.trans (congrArg some (by kernel_rfl))
 f236 := Tryd.func99.trans (congrArg some (by kernel_rfl))
 f260 := Tryd.func118.trans (congrArg some (by kernel_rfl))
 f266 := Tryd.func108.trans (congrArg some (by kernel_rfl))
 f271 := Tryd.func113.trans (congrArg some (by kernel_rfl))
 t0 := Tryd.underlying0
 a0 := Tryd.isAgg0
 z0 := Tryd.sizeOf0
 v0 := Tryd.zeroValue0
 t3 := Tryd.underlying3
 a3 := Tryd.isAgg3
 z3 := Tryd.sizeOf3
 v3 := Tryd.zeroValue3
 t4 := Tryd.underlying4
 a4 := Tryd.isAgg4
 z4 := Tryd.sizeOf4
 v4 := Tryd.zeroValue4
 t5 := Tryd.underlying5
 a5 := Tryd.isAgg5
 z5 := Tryd.sizeOf5
 v5 := Tryd.zeroValue5
 t9 := Tryd.underlying9
 a9 := Tryd.isAgg9
 z9 := Tryd.sizeOf9
 v9 := Tryd.zeroValue9
 t21 := Tryd.underlying21
 a21 := Tryd.isAgg21
 z21 := Tryd.sizeOf21
 v21 := Tryd.zeroValue21
 t46 := Tryd.underlying111
 a46 := Tryd.isAgg111
 z46 := Tryd.sizeOf111
 v46 := Tryd.zeroValue111
 t105 := Tryd.underlying114
 a105 := Tryd.isAgg114
 z105 := Tryd.sizeOf114
 v105 := Tryd.zeroValue114
 t116 := Tryd.underlying100
 a116 := Tryd.isAgg100
 z116 := Tryd.sizeOf100
 t117 := Tryd.underlying101
 a117 := Tryd.isAgg101
 z117 := Tryd.sizeOf101
 v117 := Tryd.zeroValue101
 t119 := Tryd.underlying124
 a119 := Tryd.isAgg124
 z119 := Tryd.sizeOf124
 t124 := Tryd.underlying104
 a124 := Tryd.isAgg104
 z124 := Tryd.sizeOf104
 v124 := Tryd.zeroValue104
 t138 := Tryd.underlying126
 a138 := Tryd.isAgg126
 z138 := Tryd.sizeOf126
 v138 := Tryd.zeroValue126
 t139 := Tryd.underlying127
 a139 := Tryd.isAgg127
 z139 := Tryd.sizeOf127
 v139 := Tryd.zeroValue127
 g3 := by kernel_rfl
 g4 := by kernel_rfl }
def Tryd.lays137_ren : Go.Shelf.Ren := ⟨fun | 137 => 76 | 217 => 91 | 266 => 108 | n => n, fun | 9 => 9 | 5 => 5 | 3 => 3 | n => n, fun | n => n⟩
theorem Tryd.lays137 : Go.Proofs.Lays.n137 Tryd.prog Tryd.lays137_ren := {
 mixed := by kernel_rfl
 f137 := Tryd.func76.trans (congrArg some (by kernel_rfl))
 f217 := Tryd.func91.trans (congrArg some (by kernel_rfl))
 f266 := Tryd.func108.trans (congrArg some (by kernel_rfl))
 t3 := Tryd.underlying3
 a3 := Tryd.isAgg3
 z3 := Tryd.sizeOf3
 v3 := Tryd.zeroValue3
 t5 := Tryd.underlying5
 a5 := Tryd.isAgg5
 z5 := Tryd.sizeOf5
 v5 := Tryd.zeroValue5
 t9 := Tryd.underlying9
 a9 := Tryd.isAgg9
 z9 := Tryd.sizeOf9
 v9 := Tryd.zeroValue9 }
open Go.RowKit in
theorem Tryd.strings_IndexByte (s : ByteArray) (c : Int) (w : World) :
  Calls Tryd.prog 76 #[.string s, .int .u8 c] w fun e w' => e = .returned (.int .i64 (Lib.indexByte s.data.toList c.toNat.toUInt8)) ∧ w' = w := Any.strings_IndexByte Tryd.lays137 s c w
end Go.Proofs
