/-
  Plain: the way back out of an order is an order; 'Is' says yes to an order.
-/
import Derived.Test.YtlcijmllffablaaVis
import Derived.Test.YtlcijmllffablaaIsLaw
namespace Go.Proofs.Ytlcijmllffablaa
theorem leads_perm {V U : List Int} (h : Leads V U V.length) : Perm U := by
  rw [perm_iff]
  intro i hi
  rw [h.1] at hi
  exact List.mem_of_getElem? (h.2 i V[i] hi (List.getElem?_eq_getElem hi))
theorem scan_true {V : List Int} (h : Perm V) : true = scanB (List.replicate V.length false) V := ((scan_perm V).2 h).symm
end Go.Proofs.Ytlcijmllffablaa
