/- What the law's arguments are bounded by. Condition: they were read out of memory. -/
import Derived.Test.YtmcbhnbemhfifaaDoorPoRxBrF
namespace Go.Proofs.YtmcbhnbemhfifaaDoor.RX
theorem bnd0 (x : Tlaws_ExpForm) (h : Bnd sg (.st 0) x) : lokF x := bnd_form x h
theorem bnd1 (l : List Tlaws_ExpForm) (h : Bnd sg (.sl 25 (.st 0)) l) : l.length ≤ 9223372036854775807 ∧ lokFs l := bnd_forms l h
end Go.Proofs.YtmcbhnbemhfifaaDoor.RX
