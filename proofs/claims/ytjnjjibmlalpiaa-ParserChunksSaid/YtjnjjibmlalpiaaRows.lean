/-
  No cell of these rows narrows 'for every input' (looked for: loops, veiled, ifaces, maps, wideKeys, modest, calm, conditions, laid).
  DERIVED. THE GIVEN ROWS OF THIS SEAT. 2 by the template 'for every input the law returns true; each argument reads behind the call as it read before'; 0 by the template 'total and deterministic' (their statements: YtjnjjibmlalpiaaTotals.lean).
  GIVEN WITH THE SEED: the statements are not yours to turn. If you find one false, say at which input.
  Laid BY PROGRAM, IN A SANDBOX (cutbox-rows.mjs): the forced cells as the released guide's own fill.sh prints them over the translation e82b3c41e8d10cae… (all of the seat's roots in one cut). By AI agents, Wed Nov 11 2026. No macro, syntax, notation, axiom, sorry.
-/
import Derived.Test.YtjnjjibmlalpiaaChecked
import GoSem.Claim
import GoSem.ClaimJoined
import GoSem.ClaimMapViews
import Derived.JoinedTies
import Derived.KernelRfl
namespace Go.Proofs.Ytjnjjibmlalpiaa
/- THE CELL 'sum', in the pinned program and in every row, IS THE sha256 OF THE DUMP (.gsa) THAT YtjnjjibmlalpiaaProg.lean LOADS. Nothing in Lean hashes anything: it is a label: what it is worth is what the hold of that sum in a sandbox is worth. -/
noncomputable def Try.pinned : Pinned := { name := "ytjnjjibmlalpiaa", sum := "e82b3c41e8d10cae0f461ee1f7ad6cec5eb9b13c8d45535849217bf9c1bd8210", checked := Try.checked }
namespace Rows
def none {H : Type} : Left H := { results := [], args := [] }

/-- 'winepresslaw27.ParserChunks': WHATEVER THE INPUT: true; the input reads as it did. -/
def parserChunksSpec : ChangeSpec := { name := "parserChunks", fn := fun _ => fun
  | [d] => { results := [.lit (.bool true)], args := [d] }
  | _ => none }
def parserChunksRow : OpenClaim := { program := "ytjnjjibmlalpiaa", sum := "e82b3c41e8d10cae0f461ee1f7ad6cec5eb9b13c8d45535849217bf9c1bd8210", func := "winepress/winepresslaw27.ParserChunks", spec := "parserChunks", inPlace := ["internal/bytealg.MakeNoZero"], unfollowed := true, recurses := true, plainKeys := false, apart := false }
def ParserChunksSaid : Prop := parserChunksRow.holds Try.pinned (OpenSpec.ofChange parserChunksSpec)

/-- ITS FALSE NEIGHBOUR: 'it returns false'. Refute it at one input. -/
def parserChunksWrong : ChangeSpec := { name := "parserChunks", fn := fun _ => fun
  | [d] => { results := [.lit (.bool false)], args := [d] }
  | _ => none }
def ParserChunksWrongFalsely : Prop := parserChunksRow.holds Try.pinned (OpenSpec.ofChange parserChunksWrong)

/-- 'winepresslaw27.ParserEarly': WHATEVER THE INPUT: true; the input reads as it did. -/
def parserEarlySpec : ChangeSpec := { name := "parserEarly", fn := fun _ => fun
  | [d1, d2] => { results := [.lit (.bool true)], args := [d1, d2] }
  | _ => none }
def parserEarlyRow : OpenClaim := { program := "ytjnjjibmlalpiaa", sum := "e82b3c41e8d10cae0f461ee1f7ad6cec5eb9b13c8d45535849217bf9c1bd8210", func := "winepress/winepresslaw27.ParserEarly", spec := "parserEarly", inPlace := ["internal/bytealg.MakeNoZero"], unfollowed := true, recurses := true, plainKeys := false, apart := false }
def ParserEarlySaid : Prop := parserEarlyRow.holds Try.pinned (OpenSpec.ofChange parserEarlySpec)

/-- ITS FALSE NEIGHBOUR: 'it returns false'. Refute it at one input. -/
def parserEarlyWrong : ChangeSpec := { name := "parserEarly", fn := fun _ => fun
  | [d1, d2] => { results := [.lit (.bool false)], args := [d1, d2] }
  | _ => none }
def ParserEarlyWrongFalsely : Prop := parserEarlyRow.holds Try.pinned (OpenSpec.ofChange parserEarlyWrong)

/- THE SECOND FORM. 'bulk': how many values and letters a reading holds, each counted each time it is reached (what is shared counts as often as it is met; a slice's spare places count too). A statement '..UptoSaid' is the law's where the arguments, and the package variables that the reading takes, are together of bulk at most 1048576: NARROWER than '..Said'. Prove '..Said' where nothing that the law and all that it calls make is longer than what came in: it says more and counts as full. Else prove '..UptoSaid'. A law counts once. -/
mutual
def uptoBulk {H : Type} : DataW H → Nat
  | .lit (.string bytes) => bytes.length + 1
  | .lit _ => 1
  | .nil => 1
  | .ptr d => uptoBulk d + 1
  | .slice elems spare => uptoBulkAll elems + uptoBulkAll spare + 1
  | .agg parts => uptoBulkAll parts + 1
  | .iface _ d => uptoBulk d + 1
  | .map entries => uptoBulkEntries entries + 1
  | .held _ => 1
def uptoBulkAll {H : Type} : List (DataW H) → Nat
  | [] => 0
  | d :: r => uptoBulk d + uptoBulkAll r
def uptoBulkEntries {H : Type} : List (Lit × DataW H) → Nat
  | [] => 0
  | x :: r => uptoBulkEntry x + uptoBulkEntries r
def uptoBulkEntry {H : Type} : Lit × DataW H → Nat
  | (.string bytes, d) => bytes.length + uptoBulk d + 1
  | (_, d) => uptoBulk d + 1
 end
def uptoSmall : (H : Type) → List (DataW H) → Bool := fun _ ds => decide (uptoBulkAll ds ≤ 1048576)
def OpenSpec.upto (s : _root_.Go.ChangeSpec) : _root_.Go.OpenSpec := { _root_.Go.OpenSpec.ofChange s with cond := some uptoSmall }

/-- 'winepresslaw27.ParserChunks', WHERE WHAT IT READS IS OF BULK AT MOST 1048576: true; the input reads as it did. -/
def parserChunksUptoRow : OpenClaim := { program := "ytjnjjibmlalpiaa", sum := "e82b3c41e8d10cae0f461ee1f7ad6cec5eb9b13c8d45535849217bf9c1bd8210", func := "winepress/winepresslaw27.ParserChunks", spec := "parserChunks", inPlace := ["internal/bytealg.MakeNoZero"], unfollowed := true, recurses := true, plainKeys := false, apart := false, narrowed := true }
def ParserChunksUptoSaid : Prop := parserChunksUptoRow.holds Try.pinned (OpenSpec.upto parserChunksSpec)

/-- 'winepresslaw27.ParserEarly', WHERE WHAT IT READS IS OF BULK AT MOST 1048576: true; the input reads as it did. -/
def parserEarlyUptoRow : OpenClaim := { program := "ytjnjjibmlalpiaa", sum := "e82b3c41e8d10cae0f461ee1f7ad6cec5eb9b13c8d45535849217bf9c1bd8210", func := "winepress/winepresslaw27.ParserEarly", spec := "parserEarly", inPlace := ["internal/bytealg.MakeNoZero"], unfollowed := true, recurses := true, plainKeys := false, apart := false, narrowed := true }
def ParserEarlyUptoSaid : Prop := parserEarlyUptoRow.holds Try.pinned (OpenSpec.upto parserEarlySpec)

end Rows
end Go.Proofs.Ytjnjjibmlalpiaa
