/-
  No cell of these rows narrows 'for every input' (looked for: loops, veiled, ifaces, maps, wideKeys, modest, calm, conditions, laid).
  DERIVED. THE GIVEN ROWS OF THIS SEAT. 8 by the template 'for every input the law returns true; each argument reads behind the call as it read before'; 0 by the template 'total and deterministic' (their statements: YtcdpblipagajiaaGreatTotals.lean).
  GIVEN WITH THE SEED: the statements are not yours to turn. If you find one false, say at which input.
  Laid BY PROGRAM, IN A SANDBOX (cutbox-rows.mjs): the forced cells as the released guide's own fill.sh prints them over the translation 938567e6ab64a6f2… (all of the seat's roots in one cut). By AI agents, Wed Nov 11 2026. No macro, syntax, notation, axiom, sorry.
-/
import Derived.Test.YtcdpblipagajiaaGreatChecked
import GoSem.Claim
import GoSem.ClaimJoined
import GoSem.ClaimMapViews
import Derived.JoinedTies
import Derived.KernelRfl
namespace Go.Proofs.YtcdpblipagajiaaGreat
/- THE CELL 'sum', in the pinned program and in every row, IS THE sha256 OF THE DUMP (.gsa) THAT YtcdpblipagajiaaGreatProg.lean LOADS. Nothing in Lean hashes anything: it is a label: what it is worth is what the hold of that sum in a sandbox is worth. -/
noncomputable def Tryz.pinned : Pinned := { name := "ytcdpblipagajiaagreat", sum := "938567e6ab64a6f2a1bd8d6985df3a364f47ce5755fc4bc4579a5e9324fc3d81", checked := Tryz.checked }
namespace Rows
def none {H : Type} : Left H := { results := [], args := [] }

/-- 'winepresslaw25.BlockMatches': WHATEVER THE INPUT: true; the input reads as it did. -/
def blockMatchesSpec : ChangeSpec := { name := "blockMatches", fn := fun _ => fun
  | [d1, d2, d3] => { results := [.lit (.bool true)], args := [d1, d2, d3] }
  | _ => none }
def blockMatchesRow : OpenClaim := { program := "ytcdpblipagajiaagreat", sum := "938567e6ab64a6f2a1bd8d6985df3a364f47ce5755fc4bc4579a5e9324fc3d81", func := "winepress/winepresslaw25.BlockMatches", spec := "blockMatches", inPlace := ["internal/bytealg.IndexByte", "internal/bytealg.MakeNoZero"], unfollowed := true, recurses := true, plainKeys := false, apart := false }
def BlockMatchesSaid : Prop := blockMatchesRow.holds Tryz.pinned (OpenSpec.ofChange blockMatchesSpec)

/-- ITS FALSE NEIGHBOUR: 'it returns false'. Refute it at one input. -/
def blockMatchesWrong : ChangeSpec := { name := "blockMatches", fn := fun _ => fun
  | [d1, d2, d3] => { results := [.lit (.bool false)], args := [d1, d2, d3] }
  | _ => none }
def BlockMatchesWrongFalsely : Prop := blockMatchesRow.holds Tryz.pinned (OpenSpec.ofChange blockMatchesWrong)

/-- 'winepresslaw25.BlockBack': WHATEVER THE INPUT: true; the input reads as it did. -/
def blockBackSpec : ChangeSpec := { name := "blockBack", fn := fun _ => fun
  | [d1, d2, d3, d4, d5] => { results := [.lit (.bool true)], args := [d1, d2, d3, d4, d5] }
  | _ => none }
def blockBackRow : OpenClaim := { program := "ytcdpblipagajiaagreat", sum := "938567e6ab64a6f2a1bd8d6985df3a364f47ce5755fc4bc4579a5e9324fc3d81", func := "winepress/winepresslaw25.BlockBack", spec := "blockBack", inPlace := ["internal/bytealg.IndexByte", "internal/bytealg.MakeNoZero"], unfollowed := true, recurses := true, plainKeys := false, apart := false }
def BlockBackSaid : Prop := blockBackRow.holds Tryz.pinned (OpenSpec.ofChange blockBackSpec)

/-- ITS FALSE NEIGHBOUR: 'it returns false'. Refute it at one input. -/
def blockBackWrong : ChangeSpec := { name := "blockBack", fn := fun _ => fun
  | [d1, d2, d3, d4, d5] => { results := [.lit (.bool false)], args := [d1, d2, d3, d4, d5] }
  | _ => none }
def BlockBackWrongFalsely : Prop := blockBackRow.holds Tryz.pinned (OpenSpec.ofChange blockBackWrong)

/-- 'winepresslaw25.BlockOther': WHATEVER THE INPUT: true; the input reads as it did. -/
def blockOtherSpec : ChangeSpec := { name := "blockOther", fn := fun _ => fun
  | [d1, d2] => { results := [.lit (.bool true)], args := [d1, d2] }
  | _ => none }
def blockOtherRow : OpenClaim := { program := "ytcdpblipagajiaagreat", sum := "938567e6ab64a6f2a1bd8d6985df3a364f47ce5755fc4bc4579a5e9324fc3d81", func := "winepress/winepresslaw25.BlockOther", spec := "blockOther", inPlace := ["internal/bytealg.IndexByte", "internal/bytealg.MakeNoZero"], unfollowed := true, recurses := true, plainKeys := false, apart := false }
def BlockOtherSaid : Prop := blockOtherRow.holds Tryz.pinned (OpenSpec.ofChange blockOtherSpec)

/-- ITS FALSE NEIGHBOUR: 'it returns false'. Refute it at one input. -/
def blockOtherWrong : ChangeSpec := { name := "blockOther", fn := fun _ => fun
  | [d1, d2] => { results := [.lit (.bool false)], args := [d1, d2] }
  | _ => none }
def BlockOtherWrongFalsely : Prop := blockOtherRow.holds Tryz.pinned (OpenSpec.ofChange blockOtherWrong)

/-- 'winepresslaw25.BlockHeads': WHATEVER THE INPUT: true; the input reads as it did. -/
def blockHeadsSpec : ChangeSpec := { name := "blockHeads", fn := fun _ => fun
  | [d1, d2, d3, d4] => { results := [.lit (.bool true)], args := [d1, d2, d3, d4] }
  | _ => none }
def blockHeadsRow : OpenClaim := { program := "ytcdpblipagajiaagreat", sum := "938567e6ab64a6f2a1bd8d6985df3a364f47ce5755fc4bc4579a5e9324fc3d81", func := "winepress/winepresslaw25.BlockHeads", spec := "blockHeads", inPlace := ["internal/bytealg.IndexByte", "internal/bytealg.MakeNoZero"], unfollowed := true, recurses := true, plainKeys := false, apart := false }
def BlockHeadsSaid : Prop := blockHeadsRow.holds Tryz.pinned (OpenSpec.ofChange blockHeadsSpec)

/-- ITS FALSE NEIGHBOUR: 'it returns false'. Refute it at one input. -/
def blockHeadsWrong : ChangeSpec := { name := "blockHeads", fn := fun _ => fun
  | [d1, d2, d3, d4] => { results := [.lit (.bool false)], args := [d1, d2, d3, d4] }
  | _ => none }
def BlockHeadsWrongFalsely : Prop := blockHeadsRow.holds Tryz.pinned (OpenSpec.ofChange blockHeadsWrong)

/-- 'winepresslaw25.BlockSymbols': WHATEVER THE INPUT: true; the input reads as it did. -/
def blockSymbolsSpec : ChangeSpec := { name := "blockSymbols", fn := fun _ => fun
  | [d] => { results := [.lit (.bool true)], args := [d] }
  | _ => none }
def blockSymbolsRow : OpenClaim := { program := "ytcdpblipagajiaagreat", sum := "938567e6ab64a6f2a1bd8d6985df3a364f47ce5755fc4bc4579a5e9324fc3d81", func := "winepress/winepresslaw25.BlockSymbols", spec := "blockSymbols", inPlace := ["internal/bytealg.IndexByte", "internal/bytealg.MakeNoZero"], unfollowed := true, recurses := true, plainKeys := false, apart := false }
def BlockSymbolsSaid : Prop := blockSymbolsRow.holds Tryz.pinned (OpenSpec.ofChange blockSymbolsSpec)

/-- ITS FALSE NEIGHBOUR: 'it returns false'. Refute it at one input. -/
def blockSymbolsWrong : ChangeSpec := { name := "blockSymbols", fn := fun _ => fun
  | [d] => { results := [.lit (.bool false)], args := [d] }
  | _ => none }
def BlockSymbolsWrongFalsely : Prop := blockSymbolsRow.holds Tryz.pinned (OpenSpec.ofChange blockSymbolsWrong)

/-- 'winepresslaw26.StreamBack': WHATEVER THE INPUT: true; the input reads as it did. -/
def streamBackSpec : ChangeSpec := { name := "streamBack", fn := fun _ => fun
  | [d1, d2, d3] => { results := [.lit (.bool true)], args := [d1, d2, d3] }
  | _ => none }
def streamBackRow : OpenClaim := { program := "ytcdpblipagajiaagreat", sum := "938567e6ab64a6f2a1bd8d6985df3a364f47ce5755fc4bc4579a5e9324fc3d81", func := "winepress/winepresslaw26.StreamBack", spec := "streamBack", inPlace := ["internal/bytealg.IndexByte", "internal/bytealg.MakeNoZero"], unfollowed := true, recurses := true, plainKeys := false, apart := false }
def StreamBackSaid : Prop := streamBackRow.holds Tryz.pinned (OpenSpec.ofChange streamBackSpec)

/-- ITS FALSE NEIGHBOUR: 'it returns false'. Refute it at one input. -/
def streamBackWrong : ChangeSpec := { name := "streamBack", fn := fun _ => fun
  | [d1, d2, d3] => { results := [.lit (.bool false)], args := [d1, d2, d3] }
  | _ => none }
def StreamBackWrongFalsely : Prop := streamBackRow.holds Tryz.pinned (OpenSpec.ofChange streamBackWrong)

/-- 'winepresslaw26.StreamCut': WHATEVER THE INPUT: true; the input reads as it did. -/
def streamCutSpec : ChangeSpec := { name := "streamCut", fn := fun _ => fun
  | [d1, d2, d3, d4] => { results := [.lit (.bool true)], args := [d1, d2, d3, d4] }
  | _ => none }
def streamCutRow : OpenClaim := { program := "ytcdpblipagajiaagreat", sum := "938567e6ab64a6f2a1bd8d6985df3a364f47ce5755fc4bc4579a5e9324fc3d81", func := "winepress/winepresslaw26.StreamCut", spec := "streamCut", inPlace := ["internal/bytealg.IndexByte", "internal/bytealg.MakeNoZero"], unfollowed := true, recurses := true, plainKeys := false, apart := false }
def StreamCutSaid : Prop := streamCutRow.holds Tryz.pinned (OpenSpec.ofChange streamCutSpec)

/-- ITS FALSE NEIGHBOUR: 'it returns false'. Refute it at one input. -/
def streamCutWrong : ChangeSpec := { name := "streamCut", fn := fun _ => fun
  | [d1, d2, d3, d4] => { results := [.lit (.bool false)], args := [d1, d2, d3, d4] }
  | _ => none }
def StreamCutWrongFalsely : Prop := streamCutRow.holds Tryz.pinned (OpenSpec.ofChange streamCutWrong)

/-- 'winepresslaw26.StreamBlocks': WHATEVER THE INPUT: true; the input reads as it did. -/
def streamBlocksSpec : ChangeSpec := { name := "streamBlocks", fn := fun _ => fun
  | [d1, d2, d3, d4] => { results := [.lit (.bool true)], args := [d1, d2, d3, d4] }
  | _ => none }
def streamBlocksRow : OpenClaim := { program := "ytcdpblipagajiaagreat", sum := "938567e6ab64a6f2a1bd8d6985df3a364f47ce5755fc4bc4579a5e9324fc3d81", func := "winepress/winepresslaw26.StreamBlocks", spec := "streamBlocks", inPlace := ["internal/bytealg.IndexByte", "internal/bytealg.MakeNoZero"], unfollowed := true, recurses := true, plainKeys := false, apart := false }
def StreamBlocksSaid : Prop := streamBlocksRow.holds Tryz.pinned (OpenSpec.ofChange streamBlocksSpec)

/-- ITS FALSE NEIGHBOUR: 'it returns false'. Refute it at one input. -/
def streamBlocksWrong : ChangeSpec := { name := "streamBlocks", fn := fun _ => fun
  | [d1, d2, d3, d4] => { results := [.lit (.bool false)], args := [d1, d2, d3, d4] }
  | _ => none }
def StreamBlocksWrongFalsely : Prop := streamBlocksRow.holds Tryz.pinned (OpenSpec.ofChange streamBlocksWrong)

/- THE SECOND FORM. 'bulk': how many values and letters a reading holds, each counted each time it is reached (what is shared counts as often as it is met; a slice's spare places count too). A statement '..UptoSaid' is the law's where the arguments, and the package variables that the reading takes, are together of bulk at most 1048576: NARROWER than '..Said'. Prove '..Said' where nothing that the law and all that it calls make is longer than what came in: it says more and counts as full. Else prove '..UptoSaid'. A law counts once. -/
mutual
def uptoBulk {H : Type} : DataW H → Nat
  | .lit (.string bytes) => bytes.length + 1
  | .lit _ => 1
  | .nil => 1
  | .ptr d => uptoBulk d + 1
  | .slice elems spare => uptoBulkAll elems + uptoBulkAll spare + 1
  | .agg parts => uptoBulkAll parts + 1
  | .iface _ d => uptoBulk d + 1
  | .map entries => uptoBulkEntries entries + 1
  | .held _ => 1
def uptoBulkAll {H : Type} : List (DataW H) → Nat
  | [] => 0
  | d :: r => uptoBulk d + uptoBulkAll r
def uptoBulkEntries {H : Type} : List (Lit × DataW H) → Nat
  | [] => 0
  | x :: r => uptoBulkEntry x + uptoBulkEntries r
def uptoBulkEntry {H : Type} : Lit × DataW H → Nat
  | (.string bytes, d) => bytes.length + uptoBulk d + 1
  | (_, d) => uptoBulk d + 1
 end
def uptoSmall : (H : Type) → List (DataW H) → Bool := fun _ ds => decide (uptoBulkAll ds ≤ 1048576)
def OpenSpec.upto (s : _root_.Go.ChangeSpec) : _root_.Go.OpenSpec := { _root_.Go.OpenSpec.ofChange s with cond := some uptoSmall }

/-- 'winepresslaw25.BlockMatches', WHERE WHAT IT READS IS OF BULK AT MOST 1048576: true; the input reads as it did. -/
def blockMatchesUptoRow : OpenClaim := { program := "ytcdpblipagajiaagreat", sum := "938567e6ab64a6f2a1bd8d6985df3a364f47ce5755fc4bc4579a5e9324fc3d81", func := "winepress/winepresslaw25.BlockMatches", spec := "blockMatches", inPlace := ["internal/bytealg.IndexByte", "internal/bytealg.MakeNoZero"], unfollowed := true, recurses := true, plainKeys := false, apart := false, narrowed := true }
def BlockMatchesUptoSaid : Prop := blockMatchesUptoRow.holds Tryz.pinned (OpenSpec.upto blockMatchesSpec)

/-- 'winepresslaw25.BlockBack', WHERE WHAT IT READS IS OF BULK AT MOST 1048576: true; the input reads as it did. -/
def blockBackUptoRow : OpenClaim := { program := "ytcdpblipagajiaagreat", sum := "938567e6ab64a6f2a1bd8d6985df3a364f47ce5755fc4bc4579a5e9324fc3d81", func := "winepress/winepresslaw25.BlockBack", spec := "blockBack", inPlace := ["internal/bytealg.IndexByte", "internal/bytealg.MakeNoZero"], unfollowed := true, recurses := true, plainKeys := false, apart := false, narrowed := true }
def BlockBackUptoSaid : Prop := blockBackUptoRow.holds Tryz.pinned (OpenSpec.upto blockBackSpec)

/-- 'winepresslaw25.BlockOther', WHERE WHAT IT READS IS OF BULK AT MOST 1048576: true; the input reads as it did. -/
def blockOtherUptoRow : OpenClaim := { program := "ytcdpblipagajiaagreat", sum := "938567e6ab64a6f2a1bd8d6985df3a364f47ce5755fc4bc4579a5e9324fc3d81", func := "winepress/winepresslaw25.BlockOther", spec := "blockOther", inPlace := ["internal/bytealg.IndexByte", "internal/bytealg.MakeNoZero"], unfollowed := true, recurses := true, plainKeys := false, apart := false, narrowed := true }
def BlockOtherUptoSaid : Prop := blockOtherUptoRow.holds Tryz.pinned (OpenSpec.upto blockOtherSpec)

/-- 'winepresslaw25.BlockHeads', WHERE WHAT IT READS IS OF BULK AT MOST 1048576: true; the input reads as it did. -/
def blockHeadsUptoRow : OpenClaim := { program := "ytcdpblipagajiaagreat", sum := "938567e6ab64a6f2a1bd8d6985df3a364f47ce5755fc4bc4579a5e9324fc3d81", func := "winepress/winepresslaw25.BlockHeads", spec := "blockHeads", inPlace := ["internal/bytealg.IndexByte", "internal/bytealg.MakeNoZero"], unfollowed := true, recurses := true, plainKeys := false, apart := false, narrowed := true }
def BlockHeadsUptoSaid : Prop := blockHeadsUptoRow.holds Tryz.pinned (OpenSpec.upto blockHeadsSpec)

/-- 'winepresslaw25.BlockSymbols', WHERE WHAT IT READS IS OF BULK AT MOST 1048576: true; the input reads as it did. -/
def blockSymbolsUptoRow : OpenClaim := { program := "ytcdpblipagajiaagreat", sum := "938567e6ab64a6f2a1bd8d6985df3a364f47ce5755fc4bc4579a5e9324fc3d81", func := "winepress/winepresslaw25.BlockSymbols", spec := "blockSymbols", inPlace := ["internal/bytealg.IndexByte", "internal/bytealg.MakeNoZero"], unfollowed := true, recurses := true, plainKeys := false, apart := false, narrowed := true }
def BlockSymbolsUptoSaid : Prop := blockSymbolsUptoRow.holds Tryz.pinned (OpenSpec.upto blockSymbolsSpec)

/-- 'winepresslaw26.StreamBack', WHERE WHAT IT READS IS OF BULK AT MOST 1048576: true; the input reads as it did. -/
def streamBackUptoRow : OpenClaim := { program := "ytcdpblipagajiaagreat", sum := "938567e6ab64a6f2a1bd8d6985df3a364f47ce5755fc4bc4579a5e9324fc3d81", func := "winepress/winepresslaw26.StreamBack", spec := "streamBack", inPlace := ["internal/bytealg.IndexByte", "internal/bytealg.MakeNoZero"], unfollowed := true, recurses := true, plainKeys := false, apart := false, narrowed := true }
def StreamBackUptoSaid : Prop := streamBackUptoRow.holds Tryz.pinned (OpenSpec.upto streamBackSpec)

/-- 'winepresslaw26.StreamCut', WHERE WHAT IT READS IS OF BULK AT MOST 1048576: true; the input reads as it did. -/
def streamCutUptoRow : OpenClaim := { program := "ytcdpblipagajiaagreat", sum := "938567e6ab64a6f2a1bd8d6985df3a364f47ce5755fc4bc4579a5e9324fc3d81", func := "winepress/winepresslaw26.StreamCut", spec := "streamCut", inPlace := ["internal/bytealg.IndexByte", "internal/bytealg.MakeNoZero"], unfollowed := true, recurses := true, plainKeys := false, apart := false, narrowed := true }
def StreamCutUptoSaid : Prop := streamCutUptoRow.holds Tryz.pinned (OpenSpec.upto streamCutSpec)

/-- 'winepresslaw26.StreamBlocks', WHERE WHAT IT READS IS OF BULK AT MOST 1048576: true; the input reads as it did. -/
def streamBlocksUptoRow : OpenClaim := { program := "ytcdpblipagajiaagreat", sum := "938567e6ab64a6f2a1bd8d6985df3a364f47ce5755fc4bc4579a5e9324fc3d81", func := "winepress/winepresslaw26.StreamBlocks", spec := "streamBlocks", inPlace := ["internal/bytealg.IndexByte", "internal/bytealg.MakeNoZero"], unfollowed := true, recurses := true, plainKeys := false, apart := false, narrowed := true }
def StreamBlocksUptoSaid : Prop := streamBlocksUptoRow.holds Tryz.pinned (OpenSpec.upto streamBlocksSpec)

end Rows
end Go.Proofs.YtcdpblipagajiaaGreat
