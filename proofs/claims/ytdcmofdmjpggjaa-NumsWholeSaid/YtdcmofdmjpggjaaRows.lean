/-
  No cell of these rows narrows 'for every input' (looked for: loops, veiled, ifaces, maps, wideKeys, modest, calm, conditions, laid).
  DERIVED. THE GIVEN ROWS OF THIS SEAT. 7 by the template 'for every input the law returns true; each argument reads behind the call as it read before'; 0 by the template 'total and deterministic' (their statements: YtdcmofdmjpggjaaTotals.lean).
  GIVEN WITH THE SEED: the statements are not yours to turn. If you find one false, say at which input.
  Laid BY PROGRAM, IN A SANDBOX (cutbox-rows.mjs): the forced cells as the released guide's own fill.sh prints them over the translation 5508ea581322e0db… (all of the seat's roots in one cut). By AI agents, Wed Nov 11 2026. No macro, syntax, notation, axiom, sorry.
-/
import Derived.Test.YtdcmofdmjpggjaaChecked
import GoSem.Claim
import GoSem.ClaimJoined
import GoSem.ClaimMapViews
import Derived.JoinedTies
import Derived.KernelRfl
namespace Go.Proofs.Ytdcmofdmjpggjaa
/- THE CELL 'sum', in the pinned program and in every row, IS THE sha256 OF THE DUMP (.gsa) THAT YtdcmofdmjpggjaaProg.lean LOADS. Nothing in Lean hashes anything: it is a label: what it is worth is what the hold of that sum in a sandbox is worth. -/
noncomputable def Try.pinned : Pinned := { name := "ytdcmofdmjpggjaa", sum := "5508ea581322e0db3de6a114af2eef00e0615c1c8b8c11528a4948c879e461b1", checked := Try.checked }
namespace Rows
def none {H : Type} : Left H := { results := [], args := [] }

/-- 'typecaselaw01.NumsClamps': WHATEVER THE INPUT: true; the input reads as it did. -/
def numsClampsSpec : ChangeSpec := { name := "numsClamps", fn := fun _ => fun
  | [d1, d2, d3] => { results := [.lit (.bool true)], args := [d1, d2, d3] }
  | _ => none }
def numsClampsRow : OpenClaim := { program := "ytdcmofdmjpggjaa", sum := "5508ea581322e0db3de6a114af2eef00e0615c1c8b8c11528a4948c879e461b1", func := "typecase/typecaselaw01.NumsClamps", spec := "numsClamps", apart := false }
def NumsClampsSaid : Prop := numsClampsRow.holds Try.pinned (OpenSpec.ofChange numsClampsSpec)

/-- ITS FALSE NEIGHBOUR: 'it returns false'. Refute it at one input. -/
def numsClampsWrong : ChangeSpec := { name := "numsClamps", fn := fun _ => fun
  | [d1, d2, d3] => { results := [.lit (.bool false)], args := [d1, d2, d3] }
  | _ => none }
def NumsClampsWrongFalsely : Prop := numsClampsRow.holds Try.pinned (OpenSpec.ofChange numsClampsWrong)

/-- 'typecaselaw01.NumsFloors': WHATEVER THE INPUT: true; the input reads as it did. -/
def numsFloorsSpec : ChangeSpec := { name := "numsFloors", fn := fun _ => fun
  | [d1, d2] => { results := [.lit (.bool true)], args := [d1, d2] }
  | _ => none }
def numsFloorsRow : OpenClaim := { program := "ytdcmofdmjpggjaa", sum := "5508ea581322e0db3de6a114af2eef00e0615c1c8b8c11528a4948c879e461b1", func := "typecase/typecaselaw01.NumsFloors", spec := "numsFloors", apart := false }
def NumsFloorsSaid : Prop := numsFloorsRow.holds Try.pinned (OpenSpec.ofChange numsFloorsSpec)

/-- ITS FALSE NEIGHBOUR: 'it returns false'. Refute it at one input. -/
def numsFloorsWrong : ChangeSpec := { name := "numsFloors", fn := fun _ => fun
  | [d1, d2] => { results := [.lit (.bool false)], args := [d1, d2] }
  | _ => none }
def NumsFloorsWrongFalsely : Prop := numsFloorsRow.holds Try.pinned (OpenSpec.ofChange numsFloorsWrong)

/-- 'typecaselaw01.NumsScales': WHATEVER THE INPUT: true; the input reads as it did. -/
def numsScalesSpec : ChangeSpec := { name := "numsScales", fn := fun _ => fun
  | [d1, d2, d3] => { results := [.lit (.bool true)], args := [d1, d2, d3] }
  | _ => none }
def numsScalesRow : OpenClaim := { program := "ytdcmofdmjpggjaa", sum := "5508ea581322e0db3de6a114af2eef00e0615c1c8b8c11528a4948c879e461b1", func := "typecase/typecaselaw01.NumsScales", spec := "numsScales", named := ["math/bits.divideError", "math/bits.overflowError"], apart := false }
def NumsScalesSaid : Prop := numsScalesRow.holds Try.pinned (OpenSpec.ofChange numsScalesSpec)

/-- ITS FALSE NEIGHBOUR: 'it returns false'. Refute it at one input. -/
def numsScalesWrong : ChangeSpec := { name := "numsScales", fn := fun _ => fun
  | [d1, d2, d3] => { results := [.lit (.bool false)], args := [d1, d2, d3] }
  | _ => none }
def NumsScalesWrongFalsely : Prop := numsScalesRow.holds Try.pinned (OpenSpec.ofChange numsScalesWrong)

/-- 'typecaselaw01.NumsSplits': WHATEVER THE INPUT: true; the input reads as it did. -/
def numsSplitsSpec : ChangeSpec := { name := "numsSplits", fn := fun _ => fun
  | [d1, d2] => { results := [.lit (.bool true)], args := [d1, d2] }
  | _ => none }
def numsSplitsRow : OpenClaim := { program := "ytdcmofdmjpggjaa", sum := "5508ea581322e0db3de6a114af2eef00e0615c1c8b8c11528a4948c879e461b1", func := "typecase/typecaselaw01.NumsSplits", spec := "numsSplits", unfollowed := true, recurses := true, named := ["math/bits.divideError", "math/bits.overflowError"], apart := false }
def NumsSplitsSaid : Prop := numsSplitsRow.holds Try.pinned (OpenSpec.ofChange numsSplitsSpec)

/-- ITS FALSE NEIGHBOUR: 'it returns false'. Refute it at one input. -/
def numsSplitsWrong : ChangeSpec := { name := "numsSplits", fn := fun _ => fun
  | [d1, d2] => { results := [.lit (.bool false)], args := [d1, d2] }
  | _ => none }
def NumsSplitsWrongFalsely : Prop := numsSplitsRow.holds Try.pinned (OpenSpec.ofChange numsSplitsWrong)

/-- 'typecaselaw01.NumsGrows': WHATEVER THE INPUT: true; the input reads as it did. -/
def numsGrowsSpec : ChangeSpec := { name := "numsGrows", fn := fun _ => fun
  | [d1, d2, d3] => { results := [.lit (.bool true)], args := [d1, d2, d3] }
  | _ => none }
def numsGrowsRow : OpenClaim := { program := "ytdcmofdmjpggjaa", sum := "5508ea581322e0db3de6a114af2eef00e0615c1c8b8c11528a4948c879e461b1", func := "typecase/typecaselaw01.NumsGrows", spec := "numsGrows", named := ["math/bits.divideError", "math/bits.overflowError"], apart := false }
def NumsGrowsSaid : Prop := numsGrowsRow.holds Try.pinned (OpenSpec.ofChange numsGrowsSpec)

/-- ITS FALSE NEIGHBOUR: 'it returns false'. Refute it at one input. -/
def numsGrowsWrong : ChangeSpec := { name := "numsGrows", fn := fun _ => fun
  | [d1, d2, d3] => { results := [.lit (.bool false)], args := [d1, d2, d3] }
  | _ => none }
def NumsGrowsWrongFalsely : Prop := numsGrowsRow.holds Try.pinned (OpenSpec.ofChange numsGrowsWrong)

/-- 'typecaselaw01.NumsShares': WHATEVER THE INPUT: true; the input reads as it did. -/
def numsSharesSpec : ChangeSpec := { name := "numsShares", fn := fun _ => fun
  | [d1, d2] => { results := [.lit (.bool true)], args := [d1, d2] }
  | _ => none }
def numsSharesRow : OpenClaim := { program := "ytdcmofdmjpggjaa", sum := "5508ea581322e0db3de6a114af2eef00e0615c1c8b8c11528a4948c879e461b1", func := "typecase/typecaselaw01.NumsShares", spec := "numsShares", unfollowed := true, recurses := true, named := ["math/bits.divideError", "math/bits.overflowError"], apart := false }
def NumsSharesSaid : Prop := numsSharesRow.holds Try.pinned (OpenSpec.ofChange numsSharesSpec)

/-- ITS FALSE NEIGHBOUR: 'it returns false'. Refute it at one input. -/
def numsSharesWrong : ChangeSpec := { name := "numsShares", fn := fun _ => fun
  | [d1, d2] => { results := [.lit (.bool false)], args := [d1, d2] }
  | _ => none }
def NumsSharesWrongFalsely : Prop := numsSharesRow.holds Try.pinned (OpenSpec.ofChange numsSharesWrong)

/-- 'typecaselaw01.NumsWhole': WHATEVER THE INPUT: true; the input reads as it did. -/
def numsWholeSpec : ChangeSpec := { name := "numsWhole", fn := fun _ => fun
  | [d1, d2] => { results := [.lit (.bool true)], args := [d1, d2] }
  | _ => none }
def numsWholeRow : OpenClaim := { program := "ytdcmofdmjpggjaa", sum := "5508ea581322e0db3de6a114af2eef00e0615c1c8b8c11528a4948c879e461b1", func := "typecase/typecaselaw01.NumsWhole", spec := "numsWhole", unfollowed := true, recurses := true, named := ["math/bits.divideError", "math/bits.overflowError"], apart := false }
def NumsWholeSaid : Prop := numsWholeRow.holds Try.pinned (OpenSpec.ofChange numsWholeSpec)

/-- ITS FALSE NEIGHBOUR: 'it returns false'. Refute it at one input. -/
def numsWholeWrong : ChangeSpec := { name := "numsWhole", fn := fun _ => fun
  | [d1, d2] => { results := [.lit (.bool false)], args := [d1, d2] }
  | _ => none }
def NumsWholeWrongFalsely : Prop := numsWholeRow.holds Try.pinned (OpenSpec.ofChange numsWholeWrong)

/- THE SECOND FORM. 'bulk': how many values and letters a reading holds, each counted each time it is reached (what is shared counts as often as it is met; a slice's spare places count too). A statement '..UptoSaid' is the law's where the arguments, and the package variables that the reading takes, are together of bulk at most 1048576: NARROWER than '..Said'. Prove '..Said' where nothing that the law and all that it calls make is longer than what came in: it says more and counts as full. Else prove '..UptoSaid'. A law counts once. -/
mutual
def uptoBulk {H : Type} : DataW H → Nat
  | .lit (.string bytes) => bytes.length + 1
  | .lit _ => 1
  | .nil => 1
  | .ptr d => uptoBulk d + 1
  | .slice elems spare => uptoBulkAll elems + uptoBulkAll spare + 1
  | .agg parts => uptoBulkAll parts + 1
  | .iface _ d => uptoBulk d + 1
  | .map entries => uptoBulkEntries entries + 1
  | .held _ => 1
def uptoBulkAll {H : Type} : List (DataW H) → Nat
  | [] => 0
  | d :: r => uptoBulk d + uptoBulkAll r
def uptoBulkEntries {H : Type} : List (Lit × DataW H) → Nat
  | [] => 0
  | x :: r => uptoBulkEntry x + uptoBulkEntries r
def uptoBulkEntry {H : Type} : Lit × DataW H → Nat
  | (.string bytes, d) => bytes.length + uptoBulk d + 1
  | (_, d) => uptoBulk d + 1
 end
def uptoSmall : (H : Type) → List (DataW H) → Bool := fun _ ds => decide (uptoBulkAll ds ≤ 1048576)
def OpenSpec.upto (s : _root_.Go.ChangeSpec) : _root_.Go.OpenSpec := { _root_.Go.OpenSpec.ofChange s with cond := some uptoSmall }

/-- 'typecaselaw01.NumsClamps', WHERE WHAT IT READS IS OF BULK AT MOST 1048576: true; the input reads as it did. -/
def numsClampsUptoRow : OpenClaim := { program := "ytdcmofdmjpggjaa", sum := "5508ea581322e0db3de6a114af2eef00e0615c1c8b8c11528a4948c879e461b1", func := "typecase/typecaselaw01.NumsClamps", spec := "numsClamps", apart := false, narrowed := true }
def NumsClampsUptoSaid : Prop := numsClampsUptoRow.holds Try.pinned (OpenSpec.upto numsClampsSpec)

/-- 'typecaselaw01.NumsFloors', WHERE WHAT IT READS IS OF BULK AT MOST 1048576: true; the input reads as it did. -/
def numsFloorsUptoRow : OpenClaim := { program := "ytdcmofdmjpggjaa", sum := "5508ea581322e0db3de6a114af2eef00e0615c1c8b8c11528a4948c879e461b1", func := "typecase/typecaselaw01.NumsFloors", spec := "numsFloors", apart := false, narrowed := true }
def NumsFloorsUptoSaid : Prop := numsFloorsUptoRow.holds Try.pinned (OpenSpec.upto numsFloorsSpec)

/-- 'typecaselaw01.NumsScales', WHERE WHAT IT READS IS OF BULK AT MOST 1048576: true; the input reads as it did. -/
def numsScalesUptoRow : OpenClaim := { program := "ytdcmofdmjpggjaa", sum := "5508ea581322e0db3de6a114af2eef00e0615c1c8b8c11528a4948c879e461b1", func := "typecase/typecaselaw01.NumsScales", spec := "numsScales", named := ["math/bits.divideError", "math/bits.overflowError"], apart := false, narrowed := true }
def NumsScalesUptoSaid : Prop := numsScalesUptoRow.holds Try.pinned (OpenSpec.upto numsScalesSpec)

/-- 'typecaselaw01.NumsSplits', WHERE WHAT IT READS IS OF BULK AT MOST 1048576: true; the input reads as it did. -/
def numsSplitsUptoRow : OpenClaim := { program := "ytdcmofdmjpggjaa", sum := "5508ea581322e0db3de6a114af2eef00e0615c1c8b8c11528a4948c879e461b1", func := "typecase/typecaselaw01.NumsSplits", spec := "numsSplits", unfollowed := true, recurses := true, named := ["math/bits.divideError", "math/bits.overflowError"], apart := false, narrowed := true }
def NumsSplitsUptoSaid : Prop := numsSplitsUptoRow.holds Try.pinned (OpenSpec.upto numsSplitsSpec)

/-- 'typecaselaw01.NumsGrows', WHERE WHAT IT READS IS OF BULK AT MOST 1048576: true; the input reads as it did. -/
def numsGrowsUptoRow : OpenClaim := { program := "ytdcmofdmjpggjaa", sum := "5508ea581322e0db3de6a114af2eef00e0615c1c8b8c11528a4948c879e461b1", func := "typecase/typecaselaw01.NumsGrows", spec := "numsGrows", named := ["math/bits.divideError", "math/bits.overflowError"], apart := false, narrowed := true }
def NumsGrowsUptoSaid : Prop := numsGrowsUptoRow.holds Try.pinned (OpenSpec.upto numsGrowsSpec)

/-- 'typecaselaw01.NumsShares', WHERE WHAT IT READS IS OF BULK AT MOST 1048576: true; the input reads as it did. -/
def numsSharesUptoRow : OpenClaim := { program := "ytdcmofdmjpggjaa", sum := "5508ea581322e0db3de6a114af2eef00e0615c1c8b8c11528a4948c879e461b1", func := "typecase/typecaselaw01.NumsShares", spec := "numsShares", unfollowed := true, recurses := true, named := ["math/bits.divideError", "math/bits.overflowError"], apart := false, narrowed := true }
def NumsSharesUptoSaid : Prop := numsSharesUptoRow.holds Try.pinned (OpenSpec.upto numsSharesSpec)

/-- 'typecaselaw01.NumsWhole', WHERE WHAT IT READS IS OF BULK AT MOST 1048576: true; the input reads as it did. -/
def numsWholeUptoRow : OpenClaim := { program := "ytdcmofdmjpggjaa", sum := "5508ea581322e0db3de6a114af2eef00e0615c1c8b8c11528a4948c879e461b1", func := "typecase/typecaselaw01.NumsWhole", spec := "numsWhole", unfollowed := true, recurses := true, named := ["math/bits.divideError", "math/bits.overflowError"], apart := false, narrowed := true }
def NumsWholeUptoSaid : Prop := numsWholeUptoRow.holds Try.pinned (OpenSpec.upto numsWholeSpec)

end Rows
end Go.Proofs.Ytdcmofdmjpggjaa
