/- MADE BY PROGRAM (gen.py) -/
import Derived.Test.YtmcbhnbemhfifaaDoorFlRxSt
import Derived.Shelf.Strings.SlTrimAscii
import Derived.Shelf.Strings.OnBuilder
import Derived.Shelf.Small.Strs
namespace Go.Proofs.YtmcbhnbemhfifaaDoor.RX
open Go Go.RowKit
set_option autoImplicit false
/-- strings.Trim at letters below 128. -/
def LTrim (s c : ByteArray) : Option ByteArray :=
  if c.data.toList.all (fun b => decide (b.toNat < 128)) = true then (if s.size ≤ 9223372036854775807 then (if c.size < 4294967281 then some ⟨(Go.Lib.trimS s.data.toList c.data.toList).toArray⟩ else none) else none) else none
def LIndexByte (s : ByteArray) (c : Int) : Int := Go.Lib.indexByte s.data.toList c.toNat.toUInt8

end Go.Proofs.YtmcbhnbemhfifaaDoor.RX
