/-
  No cell of these rows narrows 'for every input' (looked for: loops, veiled, ifaces, maps, wideKeys, modest, calm, conditions, laid).
  DERIVED. THE GIVEN ROWS OF THIS SEAT. 4 by the template 'for every input the law returns true; each argument reads behind the call as it read before'; 0 by the template 'total and deterministic' (their statements: YtehjeiojbdpmkaaTotals.lean).
  GIVEN WITH THE SEED: the statements are not yours to turn. If you find one false, say at which input.
  Laid BY PROGRAM, IN A SANDBOX (cutbox-rows.mjs): the forced cells as the released guide's own fill.sh prints them over the translation db9adc9dcd9c86ff… (all of the seat's roots in one cut). By AI agents, Wed Nov 11 2026. No macro, syntax, notation, axiom, sorry.
-/
import Derived.Test.YtehjeiojbdpmkaaChecked
import GoSem.Claim
import GoSem.ClaimJoined
import GoSem.ClaimMapViews
import Derived.JoinedTies
import Derived.KernelRfl
namespace Go.Proofs.Ytehjeiojbdpmkaa
/- THE CELL 'sum', in the pinned program and in every row, IS THE sha256 OF THE DUMP (.gsa) THAT YtehjeiojbdpmkaaProg.lean LOADS. Nothing in Lean hashes anything: it is a label: what it is worth is what the hold of that sum in a sandbox is worth. -/
noncomputable def Try.pinned : Pinned := { name := "ytehjeiojbdpmkaa", sum := "db9adc9dcd9c86ff1d919c094c4cf06c908b047db189d16d4e2ede02fe0d026b", checked := Try.checked }
namespace Rows
def none {H : Type} : Left H := { results := [], args := [] }

/-- 'typecaselaw40.TabsNext': WHATEVER THE INPUT: true; the input reads as it did. -/
def tabsNextSpec : ChangeSpec := { name := "tabsNext", fn := fun _ => fun
  | [d1, d2, d3] => { results := [.lit (.bool true)], args := [d1, d2, d3] }
  | _ => none }
def tabsNextRow : OpenClaim := { program := "ytehjeiojbdpmkaa", sum := "db9adc9dcd9c86ff1d919c094c4cf06c908b047db189d16d4e2ede02fe0d026b", func := "typecase/typecaselaw40.TabsNext", spec := "tabsNext", apart := false }
def TabsNextSaid : Prop := tabsNextRow.holds Try.pinned (OpenSpec.ofChange tabsNextSpec)

/-- ITS FALSE NEIGHBOUR: 'it returns false'. Refute it at one input. -/
def tabsNextWrong : ChangeSpec := { name := "tabsNext", fn := fun _ => fun
  | [d1, d2, d3] => { results := [.lit (.bool false)], args := [d1, d2, d3] }
  | _ => none }
def TabsNextWrongFalsely : Prop := tabsNextRow.holds Try.pinned (OpenSpec.ofChange tabsNextWrong)

/-- 'typecaselaw40.TabsPlace': WHATEVER THE INPUT: true; the input reads as it did. -/
def tabsPlaceSpec : ChangeSpec := { name := "tabsPlace", fn := fun _ => fun
  | [d1, d2] => { results := [.lit (.bool true)], args := [d1, d2] }
  | _ => none }
def tabsPlaceRow : OpenClaim := { program := "ytehjeiojbdpmkaa", sum := "db9adc9dcd9c86ff1d919c094c4cf06c908b047db189d16d4e2ede02fe0d026b", func := "typecase/typecaselaw40.TabsPlace", spec := "tabsPlace", apart := false }
def TabsPlaceSaid : Prop := tabsPlaceRow.holds Try.pinned (OpenSpec.ofChange tabsPlaceSpec)

/-- ITS FALSE NEIGHBOUR: 'it returns false'. Refute it at one input. -/
def tabsPlaceWrong : ChangeSpec := { name := "tabsPlace", fn := fun _ => fun
  | [d1, d2] => { results := [.lit (.bool false)], args := [d1, d2] }
  | _ => none }
def TabsPlaceWrongFalsely : Prop := tabsPlaceRow.holds Try.pinned (OpenSpec.ofChange tabsPlaceWrong)

/-- 'typecaselaw40.TabsLay': WHATEVER THE INPUT: true; the input reads as it did. -/
def tabsLaySpec : ChangeSpec := { name := "tabsLay", fn := fun _ => fun
  | [d1, d2, d3] => { results := [.lit (.bool true)], args := [d1, d2, d3] }
  | _ => none }
def tabsLayRow : OpenClaim := { program := "ytehjeiojbdpmkaa", sum := "db9adc9dcd9c86ff1d919c094c4cf06c908b047db189d16d4e2ede02fe0d026b", func := "typecase/typecaselaw40.TabsLay", spec := "tabsLay", apart := false }
def TabsLaySaid : Prop := tabsLayRow.holds Try.pinned (OpenSpec.ofChange tabsLaySpec)

/-- ITS FALSE NEIGHBOUR: 'it returns false'. Refute it at one input. -/
def tabsLayWrong : ChangeSpec := { name := "tabsLay", fn := fun _ => fun
  | [d1, d2, d3] => { results := [.lit (.bool false)], args := [d1, d2, d3] }
  | _ => none }
def TabsLayWrongFalsely : Prop := tabsLayRow.holds Try.pinned (OpenSpec.ofChange tabsLayWrong)

/-- 'typecaselaw40.TabsCheck': WHATEVER THE INPUT: true; the input reads as it did. -/
def tabsCheckSpec : ChangeSpec := { name := "tabsCheck", fn := fun _ => fun
  | [d] => { results := [.lit (.bool true)], args := [d] }
  | _ => none }
def tabsCheckRow : OpenClaim := { program := "ytehjeiojbdpmkaa", sum := "db9adc9dcd9c86ff1d919c094c4cf06c908b047db189d16d4e2ede02fe0d026b", func := "typecase/typecaselaw40.TabsCheck", spec := "tabsCheck", apart := false }
def TabsCheckSaid : Prop := tabsCheckRow.holds Try.pinned (OpenSpec.ofChange tabsCheckSpec)

/-- ITS FALSE NEIGHBOUR: 'it returns false'. Refute it at one input. -/
def tabsCheckWrong : ChangeSpec := { name := "tabsCheck", fn := fun _ => fun
  | [d] => { results := [.lit (.bool false)], args := [d] }
  | _ => none }
def TabsCheckWrongFalsely : Prop := tabsCheckRow.holds Try.pinned (OpenSpec.ofChange tabsCheckWrong)

/- THE SECOND FORM. 'bulk': how many values and letters a reading holds, each counted each time it is reached (what is shared counts as often as it is met; a slice's spare places count too). A statement '..UptoSaid' is the law's where the arguments, and the package variables that the reading takes, are together of bulk at most 1048576: NARROWER than '..Said'. Prove '..Said' where nothing that the law and all that it calls make is longer than what came in: it says more and counts as full. Else prove '..UptoSaid'. A law counts once. -/
mutual
def uptoBulk {H : Type} : DataW H → Nat
  | .lit (.string bytes) => bytes.length + 1
  | .lit _ => 1
  | .nil => 1
  | .ptr d => uptoBulk d + 1
  | .slice elems spare => uptoBulkAll elems + uptoBulkAll spare + 1
  | .agg parts => uptoBulkAll parts + 1
  | .iface _ d => uptoBulk d + 1
  | .map entries => uptoBulkEntries entries + 1
  | .held _ => 1
def uptoBulkAll {H : Type} : List (DataW H) → Nat
  | [] => 0
  | d :: r => uptoBulk d + uptoBulkAll r
def uptoBulkEntries {H : Type} : List (Lit × DataW H) → Nat
  | [] => 0
  | x :: r => uptoBulkEntry x + uptoBulkEntries r
def uptoBulkEntry {H : Type} : Lit × DataW H → Nat
  | (.string bytes, d) => bytes.length + uptoBulk d + 1
  | (_, d) => uptoBulk d + 1
 end
def uptoSmall : (H : Type) → List (DataW H) → Bool := fun _ ds => decide (uptoBulkAll ds ≤ 1048576)
def OpenSpec.upto (s : _root_.Go.ChangeSpec) : _root_.Go.OpenSpec := { _root_.Go.OpenSpec.ofChange s with cond := some uptoSmall }

/-- 'typecaselaw40.TabsNext', WHERE WHAT IT READS IS OF BULK AT MOST 1048576: true; the input reads as it did. -/
def tabsNextUptoRow : OpenClaim := { program := "ytehjeiojbdpmkaa", sum := "db9adc9dcd9c86ff1d919c094c4cf06c908b047db189d16d4e2ede02fe0d026b", func := "typecase/typecaselaw40.TabsNext", spec := "tabsNext", apart := false, narrowed := true }
def TabsNextUptoSaid : Prop := tabsNextUptoRow.holds Try.pinned (OpenSpec.upto tabsNextSpec)

/-- 'typecaselaw40.TabsPlace', WHERE WHAT IT READS IS OF BULK AT MOST 1048576: true; the input reads as it did. -/
def tabsPlaceUptoRow : OpenClaim := { program := "ytehjeiojbdpmkaa", sum := "db9adc9dcd9c86ff1d919c094c4cf06c908b047db189d16d4e2ede02fe0d026b", func := "typecase/typecaselaw40.TabsPlace", spec := "tabsPlace", apart := false, narrowed := true }
def TabsPlaceUptoSaid : Prop := tabsPlaceUptoRow.holds Try.pinned (OpenSpec.upto tabsPlaceSpec)

/-- 'typecaselaw40.TabsLay', WHERE WHAT IT READS IS OF BULK AT MOST 1048576: true; the input reads as it did. -/
def tabsLayUptoRow : OpenClaim := { program := "ytehjeiojbdpmkaa", sum := "db9adc9dcd9c86ff1d919c094c4cf06c908b047db189d16d4e2ede02fe0d026b", func := "typecase/typecaselaw40.TabsLay", spec := "tabsLay", apart := false, narrowed := true }
def TabsLayUptoSaid : Prop := tabsLayUptoRow.holds Try.pinned (OpenSpec.upto tabsLaySpec)

/-- 'typecaselaw40.TabsCheck', WHERE WHAT IT READS IS OF BULK AT MOST 1048576: true; the input reads as it did. -/
def tabsCheckUptoRow : OpenClaim := { program := "ytehjeiojbdpmkaa", sum := "db9adc9dcd9c86ff1d919c094c4cf06c908b047db189d16d4e2ede02fe0d026b", func := "typecase/typecaselaw40.TabsCheck", spec := "tabsCheck", apart := false, narrowed := true }
def TabsCheckUptoSaid : Prop := tabsCheckUptoRow.holds Try.pinned (OpenSpec.upto tabsCheckSpec)

end Rows
end Go.Proofs.Ytehjeiojbdpmkaa
