/-
  No cell of these rows narrows 'for every input' (looked for: loops, veiled, ifaces, maps, wideKeys, modest, calm, conditions, laid).
  DERIVED. THE GIVEN ROWS OF THIS SEAT. 5 by the template 'for every input the law returns true; each argument reads behind the call as it read before'; 0 by the template 'total and deterministic' (their statements: YtmpoijocebbenaaTotals.lean).
  GIVEN WITH THE SEED: the statements are not yours to turn. If you find one false, say at which input.
  Laid BY PROGRAM, IN A SANDBOX (cutbox-rows.mjs): the forced cells as the released guide's own fill.sh prints them over the translation 5f2d8904df0d499c… (all of the seat's roots in one cut). By AI agents, Wed Nov 11 2026. No macro, syntax, notation, axiom, sorry.
-/
import Derived.Test.YtmpoijocebbenaaChecked
import GoSem.Claim
import GoSem.ClaimJoined
import GoSem.ClaimMapViews
import Derived.JoinedTies
import Derived.KernelRfl
namespace Go.Proofs.Ytmpoijocebbenaa
/- THE CELL 'sum', in the pinned program and in every row, IS THE sha256 OF THE DUMP (.gsa) THAT YtmpoijocebbenaaProg.lean LOADS. Nothing in Lean hashes anything: it is a label: what it is worth is what the hold of that sum in a sandbox is worth. -/
noncomputable def Try.pinned : Pinned := { name := "ytmpoijocebbenaa", sum := "5f2d8904df0d499cef3f4292d82c83b16d522722978d31fb26aa096edff0505c", checked := Try.checked }
namespace Rows
def none {H : Type} : Left H := { results := [], args := [] }

/-- 'winepresslaw03.BitReaderMatches': WHATEVER THE INPUT: true; the input reads as it did. -/
def bitReaderMatchesSpec : ChangeSpec := { name := "bitReaderMatches", fn := fun _ => fun
  | [d] => { results := [.lit (.bool true)], args := [d] }
  | _ => none }
def bitReaderMatchesRow : OpenClaim := { program := "ytmpoijocebbenaa", sum := "5f2d8904df0d499cef3f4292d82c83b16d522722978d31fb26aa096edff0505c", func := "winepress/winepresslaw03.BitReaderMatches", spec := "bitReaderMatches", apart := false }
def BitReaderMatchesSaid : Prop := bitReaderMatchesRow.holds Try.pinned (OpenSpec.ofChange bitReaderMatchesSpec)

/-- ITS FALSE NEIGHBOUR: 'it returns false'. Refute it at one input. -/
def bitReaderMatchesWrong : ChangeSpec := { name := "bitReaderMatches", fn := fun _ => fun
  | [d] => { results := [.lit (.bool false)], args := [d] }
  | _ => none }
def BitReaderMatchesWrongFalsely : Prop := bitReaderMatchesRow.holds Try.pinned (OpenSpec.ofChange bitReaderMatchesWrong)

/-- 'winepresslaw03.BitReaderAll': WHATEVER THE INPUT: true; the input reads as it did. -/
def bitReaderAllSpec : ChangeSpec := { name := "bitReaderAll", fn := fun _ => fun
  | [d1, d2] => { results := [.lit (.bool true)], args := [d1, d2] }
  | _ => none }
def bitReaderAllRow : OpenClaim := { program := "ytmpoijocebbenaa", sum := "5f2d8904df0d499cef3f4292d82c83b16d522722978d31fb26aa096edff0505c", func := "winepress/winepresslaw03.BitReaderAll", spec := "bitReaderAll", apart := false }
def BitReaderAllSaid : Prop := bitReaderAllRow.holds Try.pinned (OpenSpec.ofChange bitReaderAllSpec)

/-- ITS FALSE NEIGHBOUR: 'it returns false'. Refute it at one input. -/
def bitReaderAllWrong : ChangeSpec := { name := "bitReaderAll", fn := fun _ => fun
  | [d1, d2] => { results := [.lit (.bool false)], args := [d1, d2] }
  | _ => none }
def BitReaderAllWrongFalsely : Prop := bitReaderAllRow.holds Try.pinned (OpenSpec.ofChange bitReaderAllWrong)

/-- 'winepresslaw03.BitReaderAlign': WHATEVER THE INPUT: true; the input reads as it did. -/
def bitReaderAlignSpec : ChangeSpec := { name := "bitReaderAlign", fn := fun _ => fun
  | [d1, d2] => { results := [.lit (.bool true)], args := [d1, d2] }
  | _ => none }
def bitReaderAlignRow : OpenClaim := { program := "ytmpoijocebbenaa", sum := "5f2d8904df0d499cef3f4292d82c83b16d522722978d31fb26aa096edff0505c", func := "winepress/winepresslaw03.BitReaderAlign", spec := "bitReaderAlign", apart := false }
def BitReaderAlignSaid : Prop := bitReaderAlignRow.holds Try.pinned (OpenSpec.ofChange bitReaderAlignSpec)

/-- ITS FALSE NEIGHBOUR: 'it returns false'. Refute it at one input. -/
def bitReaderAlignWrong : ChangeSpec := { name := "bitReaderAlign", fn := fun _ => fun
  | [d1, d2] => { results := [.lit (.bool false)], args := [d1, d2] }
  | _ => none }
def BitReaderAlignWrongFalsely : Prop := bitReaderAlignRow.holds Try.pinned (OpenSpec.ofChange bitReaderAlignWrong)

/-- 'winepresslaw03.BitReaderOwn': WHATEVER THE INPUT: true; the input reads as it did. -/
def bitReaderOwnSpec : ChangeSpec := { name := "bitReaderOwn", fn := fun _ => fun
  | [d] => { results := [.lit (.bool true)], args := [d] }
  | _ => none }
def bitReaderOwnRow : OpenClaim := { program := "ytmpoijocebbenaa", sum := "5f2d8904df0d499cef3f4292d82c83b16d522722978d31fb26aa096edff0505c", func := "winepress/winepresslaw03.BitReaderOwn", spec := "bitReaderOwn", apart := false }
def BitReaderOwnSaid : Prop := bitReaderOwnRow.holds Try.pinned (OpenSpec.ofChange bitReaderOwnSpec)

/-- ITS FALSE NEIGHBOUR: 'it returns false'. Refute it at one input. -/
def bitReaderOwnWrong : ChangeSpec := { name := "bitReaderOwn", fn := fun _ => fun
  | [d] => { results := [.lit (.bool false)], args := [d] }
  | _ => none }
def BitReaderOwnWrongFalsely : Prop := bitReaderOwnRow.holds Try.pinned (OpenSpec.ofChange bitReaderOwnWrong)

/-- 'winepresslaw03.BitReaderPeeks': WHATEVER THE INPUT: true; the input reads as it did. -/
def bitReaderPeeksSpec : ChangeSpec := { name := "bitReaderPeeks", fn := fun _ => fun
  | [d1, d2, d3, d4] => { results := [.lit (.bool true)], args := [d1, d2, d3, d4] }
  | _ => none }
def bitReaderPeeksRow : OpenClaim := { program := "ytmpoijocebbenaa", sum := "5f2d8904df0d499cef3f4292d82c83b16d522722978d31fb26aa096edff0505c", func := "winepress/winepresslaw03.BitReaderPeeks", spec := "bitReaderPeeks", apart := false }
def BitReaderPeeksSaid : Prop := bitReaderPeeksRow.holds Try.pinned (OpenSpec.ofChange bitReaderPeeksSpec)

/-- ITS FALSE NEIGHBOUR: 'it returns false'. Refute it at one input. -/
def bitReaderPeeksWrong : ChangeSpec := { name := "bitReaderPeeks", fn := fun _ => fun
  | [d1, d2, d3, d4] => { results := [.lit (.bool false)], args := [d1, d2, d3, d4] }
  | _ => none }
def BitReaderPeeksWrongFalsely : Prop := bitReaderPeeksRow.holds Try.pinned (OpenSpec.ofChange bitReaderPeeksWrong)

/- THE SECOND FORM. 'bulk': how many values and letters a reading holds, each counted each time it is reached (what is shared counts as often as it is met; a slice's spare places count too). A statement '..UptoSaid' is the law's where the arguments, and the package variables that the reading takes, are together of bulk at most 1048576: NARROWER than '..Said'. Prove '..Said' where nothing that the law and all that it calls make is longer than what came in: it says more and counts as full. Else prove '..UptoSaid'. A law counts once. -/
mutual
def uptoBulk {H : Type} : DataW H → Nat
  | .lit (.string bytes) => bytes.length + 1
  | .lit _ => 1
  | .nil => 1
  | .ptr d => uptoBulk d + 1
  | .slice elems spare => uptoBulkAll elems + uptoBulkAll spare + 1
  | .agg parts => uptoBulkAll parts + 1
  | .iface _ d => uptoBulk d + 1
  | .map entries => uptoBulkEntries entries + 1
  | .held _ => 1
def uptoBulkAll {H : Type} : List (DataW H) → Nat
  | [] => 0
  | d :: r => uptoBulk d + uptoBulkAll r
def uptoBulkEntries {H : Type} : List (Lit × DataW H) → Nat
  | [] => 0
  | x :: r => uptoBulkEntry x + uptoBulkEntries r
def uptoBulkEntry {H : Type} : Lit × DataW H → Nat
  | (.string bytes, d) => bytes.length + uptoBulk d + 1
  | (_, d) => uptoBulk d + 1
 end
def uptoSmall : (H : Type) → List (DataW H) → Bool := fun _ ds => decide (uptoBulkAll ds ≤ 1048576)
def OpenSpec.upto (s : _root_.Go.ChangeSpec) : _root_.Go.OpenSpec := { _root_.Go.OpenSpec.ofChange s with cond := some uptoSmall }

/-- 'winepresslaw03.BitReaderMatches', WHERE WHAT IT READS IS OF BULK AT MOST 1048576: true; the input reads as it did. -/
def bitReaderMatchesUptoRow : OpenClaim := { program := "ytmpoijocebbenaa", sum := "5f2d8904df0d499cef3f4292d82c83b16d522722978d31fb26aa096edff0505c", func := "winepress/winepresslaw03.BitReaderMatches", spec := "bitReaderMatches", apart := false, narrowed := true }
def BitReaderMatchesUptoSaid : Prop := bitReaderMatchesUptoRow.holds Try.pinned (OpenSpec.upto bitReaderMatchesSpec)

/-- 'winepresslaw03.BitReaderAll', WHERE WHAT IT READS IS OF BULK AT MOST 1048576: true; the input reads as it did. -/
def bitReaderAllUptoRow : OpenClaim := { program := "ytmpoijocebbenaa", sum := "5f2d8904df0d499cef3f4292d82c83b16d522722978d31fb26aa096edff0505c", func := "winepress/winepresslaw03.BitReaderAll", spec := "bitReaderAll", apart := false, narrowed := true }
def BitReaderAllUptoSaid : Prop := bitReaderAllUptoRow.holds Try.pinned (OpenSpec.upto bitReaderAllSpec)

/-- 'winepresslaw03.BitReaderAlign', WHERE WHAT IT READS IS OF BULK AT MOST 1048576: true; the input reads as it did. -/
def bitReaderAlignUptoRow : OpenClaim := { program := "ytmpoijocebbenaa", sum := "5f2d8904df0d499cef3f4292d82c83b16d522722978d31fb26aa096edff0505c", func := "winepress/winepresslaw03.BitReaderAlign", spec := "bitReaderAlign", apart := false, narrowed := true }
def BitReaderAlignUptoSaid : Prop := bitReaderAlignUptoRow.holds Try.pinned (OpenSpec.upto bitReaderAlignSpec)

/-- 'winepresslaw03.BitReaderOwn', WHERE WHAT IT READS IS OF BULK AT MOST 1048576: true; the input reads as it did. -/
def bitReaderOwnUptoRow : OpenClaim := { program := "ytmpoijocebbenaa", sum := "5f2d8904df0d499cef3f4292d82c83b16d522722978d31fb26aa096edff0505c", func := "winepress/winepresslaw03.BitReaderOwn", spec := "bitReaderOwn", apart := false, narrowed := true }
def BitReaderOwnUptoSaid : Prop := bitReaderOwnUptoRow.holds Try.pinned (OpenSpec.upto bitReaderOwnSpec)

/-- 'winepresslaw03.BitReaderPeeks', WHERE WHAT IT READS IS OF BULK AT MOST 1048576: true; the input reads as it did. -/
def bitReaderPeeksUptoRow : OpenClaim := { program := "ytmpoijocebbenaa", sum := "5f2d8904df0d499cef3f4292d82c83b16d522722978d31fb26aa096edff0505c", func := "winepress/winepresslaw03.BitReaderPeeks", spec := "bitReaderPeeks", apart := false, narrowed := true }
def BitReaderPeeksUptoSaid : Prop := bitReaderPeeksUptoRow.holds Try.pinned (OpenSpec.upto bitReaderPeeksSpec)

end Rows
end Go.Proofs.Ytmpoijocebbenaa
