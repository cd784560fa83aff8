/- What the law's arguments are bounded by. Condition: they were read out of memory. -/
import Derived.Test.YtmcbhnbemhfifaaDoorFlRxAS
import Derived.Test.YtmcbhnbemhfifaaDoorRxD
import Derived.Test.YtmcbhnbemhfifaaDoorFlRxPureFl
namespace Go.Proofs.YtmcbhnbemhfifaaDoor.RX
open Go Go.RowKit
set_option autoImplicit false
set_option linter.unusedVariables false
theorem bnd_form : ∀ x : Tlaws_ExpForm, Bnd sg (.st 1) x → lokF x := by
  refine indLForm fun x ih h => ?_
  have h1 := bnd_st h
  have h1 : BndF sg [.int .i64, .str, .sl 3 (.int .i64), .int .i64, .sl 25 (.st 1)] (x.vSort, x.vText, x.vScopes, x.vFrom, x.vKids, ()) := h1
  obtain ⟨_, h2⟩ := bndF_cons h1
  obtain ⟨a2, h3⟩ := bndF_cons h2
  obtain ⟨a3, h4⟩ := bndF_cons h3
  obtain ⟨_, h5⟩ := bndF_cons h4
  obtain ⟨a5, _⟩ := bndF_cons h5
  have b2 := bnd_str a2
  have b3 := (bnd_sl a3).1
  have b5 := bnd_sl a5
  exact (lokF_mk x).2 ⟨b2, b3, b5.1, lokFs_all fun y hy => ih y hy (b5.2 y hy)⟩
theorem bnd_forms (l : List Tlaws_ExpForm) (h : Bnd sg (.sl 25 (.st 1)) l) : l.length ≤ 9223372036854775807 ∧ lokFs l :=
  ⟨(bnd_sl h).1, lokFs_all fun y hy => bnd_form y ((bnd_sl h).2 y hy)⟩
end Go.Proofs.YtmcbhnbemhfifaaDoor.RX
namespace Go.Proofs.YtmcbhnbemhfifaaDoor.RX
theorem bnd0 (x : Tlaws_ExpForm) (h : Bnd sg (.st 1) x) : lokF x := bnd_form x h
theorem bnd1 (n : Int) (h : Bnd sg (.int .i64) n) : True := trivial
end Go.Proofs.YtmcbhnbemhfifaaDoor.RX
