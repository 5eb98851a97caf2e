/-
  No cell of these rows narrows 'for every input' (looked for: loops, veiled, ifaces, maps, wideKeys, modest, calm, conditions, laid).
  DERIVED. THE GIVEN ROWS OF THIS SEAT. 5 by the template 'for every input the law returns true; each argument reads behind the call as it read before'; 0 by the template 'total and deterministic' (their statements: YtofnoillkfagiaaTotals.lean).
  GIVEN WITH THE SEED: the statements are not yours to turn. If you find one false, say at which input.
  Laid BY PROGRAM, IN A SANDBOX (cutbox-rows.mjs): the forced cells as the released guide's own fill.sh prints them over the translation 2e071add51804120… (all of the seat's roots in one cut). By AI agents, Wed Nov 11 2026. No macro, syntax, notation, axiom, sorry.
-/
import Derived.Test.YtofnoillkfagiaaChecked
import GoSem.Claim
import GoSem.ClaimJoined
import GoSem.ClaimMapViews
import Derived.JoinedTies
import Derived.KernelRfl
namespace Go.Proofs.Ytofnoillkfagiaa
/- THE CELL 'sum', in the pinned program and in every row, IS THE sha256 OF THE DUMP (.gsa) THAT YtofnoillkfagiaaProg.lean LOADS. Nothing in Lean hashes anything: it is a label: what it is worth is what the hold of that sum in a sandbox is worth. -/
noncomputable def Try.pinned : Pinned := { name := "ytofnoillkfagiaa", sum := "2e071add51804120d696c1b1bc0de821e3ecc311a84626902e14dff2a6d967ed", checked := Try.checked }
namespace Rows
def none {H : Type} : Left H := { results := [], args := [] }

/-- 'moultlaw02.GaussTells': WHATEVER THE INPUT: true; the input reads as it did. -/
def gaussTellsSpec : ChangeSpec := { name := "gaussTells", fn := fun _ => fun
  | [d1, d2, d3, d4, d5] => { results := [.lit (.bool true)], args := [d1, d2, d3, d4, d5] }
  | _ => none }
def gaussTellsRow : OpenClaim := { program := "ytofnoillkfagiaa", sum := "2e071add51804120d696c1b1bc0de821e3ecc311a84626902e14dff2a6d967ed", func := "moult/moultlaw02.GaussTells", spec := "gaussTells", inPlace := ["math.archTrunc", "math.Float64bits", "math.Float64frombits"], unfollowed := true, recurses := true, apart := false }
def GaussTellsSaid : Prop := gaussTellsRow.holds Try.pinned (OpenSpec.ofChange gaussTellsSpec)

/-- ITS FALSE NEIGHBOUR: 'it returns false'. Refute it at one input. -/
def gaussTellsWrong : ChangeSpec := { name := "gaussTells", fn := fun _ => fun
  | [d1, d2, d3, d4, d5] => { results := [.lit (.bool false)], args := [d1, d2, d3, d4, d5] }
  | _ => none }
def GaussTellsWrongFalsely : Prop := gaussTellsRow.holds Try.pinned (OpenSpec.ofChange gaussTellsWrong)

/-- 'moultlaw02.GaussApart': WHATEVER THE INPUT: true; the input reads as it did. -/
def gaussApartSpec : ChangeSpec := { name := "gaussApart", fn := fun _ => fun
  | [d1, d2, d3, d4, d5, d6] => { results := [.lit (.bool true)], args := [d1, d2, d3, d4, d5, d6] }
  | _ => none }
def gaussApartRow : OpenClaim := { program := "ytofnoillkfagiaa", sum := "2e071add51804120d696c1b1bc0de821e3ecc311a84626902e14dff2a6d967ed", func := "moult/moultlaw02.GaussApart", spec := "gaussApart", inPlace := ["math.archTrunc", "math.Float64bits", "math.Float64frombits"], unfollowed := true, recurses := true, apart := false }
def GaussApartSaid : Prop := gaussApartRow.holds Try.pinned (OpenSpec.ofChange gaussApartSpec)

/-- ITS FALSE NEIGHBOUR: 'it returns false'. Refute it at one input. -/
def gaussApartWrong : ChangeSpec := { name := "gaussApart", fn := fun _ => fun
  | [d1, d2, d3, d4, d5, d6] => { results := [.lit (.bool false)], args := [d1, d2, d3, d4, d5, d6] }
  | _ => none }
def GaussApartWrongFalsely : Prop := gaussApartRow.holds Try.pinned (OpenSpec.ofChange gaussApartWrong)

/-- 'moultlaw02.GaussChains': WHATEVER THE INPUT: true; the input reads as it did. -/
def gaussChainsSpec : ChangeSpec := { name := "gaussChains", fn := fun _ => fun
  | [d1, d2, d3, d4] => { results := [.lit (.bool true)], args := [d1, d2, d3, d4] }
  | _ => none }
def gaussChainsRow : OpenClaim := { program := "ytofnoillkfagiaa", sum := "2e071add51804120d696c1b1bc0de821e3ecc311a84626902e14dff2a6d967ed", func := "moult/moultlaw02.GaussChains", spec := "gaussChains", inPlace := ["math.archTrunc", "math.Float64bits", "math.Float64frombits"], unfollowed := true, recurses := true, apart := false }
def GaussChainsSaid : Prop := gaussChainsRow.holds Try.pinned (OpenSpec.ofChange gaussChainsSpec)

/-- ITS FALSE NEIGHBOUR: 'it returns false'. Refute it at one input. -/
def gaussChainsWrong : ChangeSpec := { name := "gaussChains", fn := fun _ => fun
  | [d1, d2, d3, d4] => { results := [.lit (.bool false)], args := [d1, d2, d3, d4] }
  | _ => none }
def GaussChainsWrongFalsely : Prop := gaussChainsRow.holds Try.pinned (OpenSpec.ofChange gaussChainsWrong)

/-- 'moultlaw02.GaussBytes': WHATEVER THE INPUT: true; the input reads as it did. -/
def gaussBytesSpec : ChangeSpec := { name := "gaussBytes", fn := fun _ => fun
  | [d] => { results := [.lit (.bool true)], args := [d] }
  | _ => none }
def gaussBytesRow : OpenClaim := { program := "ytofnoillkfagiaa", sum := "2e071add51804120d696c1b1bc0de821e3ecc311a84626902e14dff2a6d967ed", func := "moult/moultlaw02.GaussBytes", spec := "gaussBytes", inPlace := ["math.archTrunc", "math.Float64bits", "math.Float64frombits"], unfollowed := true, recurses := true, apart := false }
def GaussBytesSaid : Prop := gaussBytesRow.holds Try.pinned (OpenSpec.ofChange gaussBytesSpec)

/-- ITS FALSE NEIGHBOUR: 'it returns false'. Refute it at one input. -/
def gaussBytesWrong : ChangeSpec := { name := "gaussBytes", fn := fun _ => fun
  | [d] => { results := [.lit (.bool false)], args := [d] }
  | _ => none }
def GaussBytesWrongFalsely : Prop := gaussBytesRow.holds Try.pinned (OpenSpec.ofChange gaussBytesWrong)

/-- 'moultlaw02.GaussLinear': WHATEVER THE INPUT: true; the input reads as it did. -/
def gaussLinearSpec : ChangeSpec := { name := "gaussLinear", fn := fun _ => fun
  | [d1, d2, d3, d4, d5] => { results := [.lit (.bool true)], args := [d1, d2, d3, d4, d5] }
  | _ => none }
def gaussLinearRow : OpenClaim := { program := "ytofnoillkfagiaa", sum := "2e071add51804120d696c1b1bc0de821e3ecc311a84626902e14dff2a6d967ed", func := "moult/moultlaw02.GaussLinear", spec := "gaussLinear", inPlace := ["math.archTrunc", "math.Float64bits", "math.Float64frombits"], unfollowed := true, recurses := true, apart := false }
def GaussLinearSaid : Prop := gaussLinearRow.holds Try.pinned (OpenSpec.ofChange gaussLinearSpec)

/-- ITS FALSE NEIGHBOUR: 'it returns false'. Refute it at one input. -/
def gaussLinearWrong : ChangeSpec := { name := "gaussLinear", fn := fun _ => fun
  | [d1, d2, d3, d4, d5] => { results := [.lit (.bool false)], args := [d1, d2, d3, d4, d5] }
  | _ => none }
def GaussLinearWrongFalsely : Prop := gaussLinearRow.holds Try.pinned (OpenSpec.ofChange gaussLinearWrong)

/- THE SECOND FORM. 'bulk': how many values and letters a reading holds, each counted each time it is reached (what is shared counts as often as it is met; a slice's spare places count too). A statement '..UptoSaid' is the law's where the arguments, and the package variables that the reading takes, are together of bulk at most 1048576: NARROWER than '..Said'. Prove '..Said' where nothing that the law and all that it calls make is longer than what came in: it says more and counts as full. Else prove '..UptoSaid'. A law counts once. -/
mutual
def uptoBulk {H : Type} : DataW H → Nat
  | .lit (.string bytes) => bytes.length + 1
  | .lit _ => 1
  | .nil => 1
  | .ptr d => uptoBulk d + 1
  | .slice elems spare => uptoBulkAll elems + uptoBulkAll spare + 1
  | .agg parts => uptoBulkAll parts + 1
  | .iface _ d => uptoBulk d + 1
  | .map entries => uptoBulkEntries entries + 1
  | .held _ => 1
def uptoBulkAll {H : Type} : List (DataW H) → Nat
  | [] => 0
  | d :: r => uptoBulk d + uptoBulkAll r
def uptoBulkEntries {H : Type} : List (Lit × DataW H) → Nat
  | [] => 0
  | x :: r => uptoBulkEntry x + uptoBulkEntries r
def uptoBulkEntry {H : Type} : Lit × DataW H → Nat
  | (.string bytes, d) => bytes.length + uptoBulk d + 1
  | (_, d) => uptoBulk d + 1
 end
def uptoSmall : (H : Type) → List (DataW H) → Bool := fun _ ds => decide (uptoBulkAll ds ≤ 1048576)
def OpenSpec.upto (s : _root_.Go.ChangeSpec) : _root_.Go.OpenSpec := { _root_.Go.OpenSpec.ofChange s with cond := some uptoSmall }

/-- 'moultlaw02.GaussTells', WHERE WHAT IT READS IS OF BULK AT MOST 1048576: true; the input reads as it did. -/
def gaussTellsUptoRow : OpenClaim := { program := "ytofnoillkfagiaa", sum := "2e071add51804120d696c1b1bc0de821e3ecc311a84626902e14dff2a6d967ed", func := "moult/moultlaw02.GaussTells", spec := "gaussTells", inPlace := ["math.archTrunc", "math.Float64bits", "math.Float64frombits"], unfollowed := true, recurses := true, apart := false, narrowed := true }
def GaussTellsUptoSaid : Prop := gaussTellsUptoRow.holds Try.pinned (OpenSpec.upto gaussTellsSpec)

/-- 'moultlaw02.GaussApart', WHERE WHAT IT READS IS OF BULK AT MOST 1048576: true; the input reads as it did. -/
def gaussApartUptoRow : OpenClaim := { program := "ytofnoillkfagiaa", sum := "2e071add51804120d696c1b1bc0de821e3ecc311a84626902e14dff2a6d967ed", func := "moult/moultlaw02.GaussApart", spec := "gaussApart", inPlace := ["math.archTrunc", "math.Float64bits", "math.Float64frombits"], unfollowed := true, recurses := true, apart := false, narrowed := true }
def GaussApartUptoSaid : Prop := gaussApartUptoRow.holds Try.pinned (OpenSpec.upto gaussApartSpec)

/-- 'moultlaw02.GaussChains', WHERE WHAT IT READS IS OF BULK AT MOST 1048576: true; the input reads as it did. -/
def gaussChainsUptoRow : OpenClaim := { program := "ytofnoillkfagiaa", sum := "2e071add51804120d696c1b1bc0de821e3ecc311a84626902e14dff2a6d967ed", func := "moult/moultlaw02.GaussChains", spec := "gaussChains", inPlace := ["math.archTrunc", "math.Float64bits", "math.Float64frombits"], unfollowed := true, recurses := true, apart := false, narrowed := true }
def GaussChainsUptoSaid : Prop := gaussChainsUptoRow.holds Try.pinned (OpenSpec.upto gaussChainsSpec)

/-- 'moultlaw02.GaussBytes', WHERE WHAT IT READS IS OF BULK AT MOST 1048576: true; the input reads as it did. -/
def gaussBytesUptoRow : OpenClaim := { program := "ytofnoillkfagiaa", sum := "2e071add51804120d696c1b1bc0de821e3ecc311a84626902e14dff2a6d967ed", func := "moult/moultlaw02.GaussBytes", spec := "gaussBytes", inPlace := ["math.archTrunc", "math.Float64bits", "math.Float64frombits"], unfollowed := true, recurses := true, apart := false, narrowed := true }
def GaussBytesUptoSaid : Prop := gaussBytesUptoRow.holds Try.pinned (OpenSpec.upto gaussBytesSpec)

/-- 'moultlaw02.GaussLinear', WHERE WHAT IT READS IS OF BULK AT MOST 1048576: true; the input reads as it did. -/
def gaussLinearUptoRow : OpenClaim := { program := "ytofnoillkfagiaa", sum := "2e071add51804120d696c1b1bc0de821e3ecc311a84626902e14dff2a6d967ed", func := "moult/moultlaw02.GaussLinear", spec := "gaussLinear", inPlace := ["math.archTrunc", "math.Float64bits", "math.Float64frombits"], unfollowed := true, recurses := true, apart := false, narrowed := true }
def GaussLinearUptoSaid : Prop := gaussLinearUptoRow.holds Try.pinned (OpenSpec.upto gaussLinearSpec)

end Rows
end Go.Proofs.Ytofnoillkfagiaa
