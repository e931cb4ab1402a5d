/-
  No cell of these rows narrows 'for every input' (looked for: loops, veiled, ifaces, maps, wideKeys, modest, calm, conditions, laid).
  DERIVED. THE GIVEN ROWS OF THIS SEAT. 5 by the template 'for every input the law returns true; each argument reads behind the call as it read before'; 0 by the template 'total and deterministic' (their statements: YtamdpnpkldgkcaaGreatTotals.lean).
  GIVEN WITH THE SEED: the statements are not yours to turn. If you find one false, say at which input.
  Laid BY PROGRAM, IN A SANDBOX (cutbox-rows.mjs): the forced cells as the released guide's own fill.sh prints them over the translation 0b675e7ea0019dec… (all of the seat's roots in one cut). By AI agents, Wed Nov 11 2026. No macro, syntax, notation, axiom, sorry.
-/
import Derived.Test.YtamdpnpkldgkcaaGreatChecked
import GoSem.Claim
import GoSem.ClaimJoined
import GoSem.ClaimMapViews
import Derived.JoinedTies
import Derived.KernelRfl
namespace Go.Proofs.YtamdpnpkldgkcaaGreat
/- THE CELL 'sum', in the pinned program and in every row, IS THE sha256 OF THE DUMP (.gsa) THAT YtamdpnpkldgkcaaGreatProg.lean LOADS. Nothing in Lean hashes anything: it is a label: what it is worth is what the hold of that sum in a sandbox is worth. -/
noncomputable def Tryz.pinned : Pinned := { name := "ytamdpnpkldgkcaagreat", sum := "0b675e7ea0019dec68b41599b7524524f0d9bfda6f2b83f8fd1cadef641b5f0d", checked := Tryz.checked }
namespace Rows
def none {H : Type} : Left H := { results := [], args := [] }

/-- 'winepresstop.TopJoin': WHATEVER THE INPUT: true; the input reads as it did. -/
def topJoinSpec : ChangeSpec := { name := "topJoin", fn := fun _ => fun
  | [d1, d2] => { results := [.lit (.bool true)], args := [d1, d2] }
  | _ => none }
def topJoinRow : OpenClaim := { program := "ytamdpnpkldgkcaagreat", sum := "0b675e7ea0019dec68b41599b7524524f0d9bfda6f2b83f8fd1cadef641b5f0d", func := "winepress/winepresstop.TopJoin", spec := "topJoin", inPlace := ["internal/bytealg.IndexByte", "internal/bytealg.MakeNoZero"], unfollowed := true, recurses := true, plainKeys := false, apart := false }
def TopJoinSaid : Prop := topJoinRow.holds Tryz.pinned (OpenSpec.ofChange topJoinSpec)

/-- ITS FALSE NEIGHBOUR: 'it returns false'. Refute it at one input. -/
def topJoinWrong : ChangeSpec := { name := "topJoin", fn := fun _ => fun
  | [d1, d2] => { results := [.lit (.bool false)], args := [d1, d2] }
  | _ => none }
def TopJoinWrongFalsely : Prop := topJoinRow.holds Tryz.pinned (OpenSpec.ofChange topJoinWrong)

/-- 'winepresstop.TopOther': WHATEVER THE INPUT: true; the input reads as it did. -/
def topOtherSpec : ChangeSpec := { name := "topOther", fn := fun _ => fun
  | [d1, d2, d3] => { results := [.lit (.bool true)], args := [d1, d2, d3] }
  | _ => none }
def topOtherRow : OpenClaim := { program := "ytamdpnpkldgkcaagreat", sum := "0b675e7ea0019dec68b41599b7524524f0d9bfda6f2b83f8fd1cadef641b5f0d", func := "winepress/winepresstop.TopOther", spec := "topOther", inPlace := ["internal/bytealg.IndexByte", "internal/bytealg.MakeNoZero"], unfollowed := true, recurses := true, plainKeys := false, apart := false }
def TopOtherSaid : Prop := topOtherRow.holds Tryz.pinned (OpenSpec.ofChange topOtherSpec)

/-- ITS FALSE NEIGHBOUR: 'it returns false'. Refute it at one input. -/
def topOtherWrong : ChangeSpec := { name := "topOther", fn := fun _ => fun
  | [d1, d2, d3] => { results := [.lit (.bool false)], args := [d1, d2, d3] }
  | _ => none }
def TopOtherWrongFalsely : Prop := topOtherRow.holds Tryz.pinned (OpenSpec.ofChange topOtherWrong)

/-- 'winepresstop.TopAgain': WHATEVER THE INPUT: true; the input reads as it did. -/
def topAgainSpec : ChangeSpec := { name := "topAgain", fn := fun _ => fun
  | [d1, d2, d3] => { results := [.lit (.bool true)], args := [d1, d2, d3] }
  | _ => none }
def topAgainRow : OpenClaim := { program := "ytamdpnpkldgkcaagreat", sum := "0b675e7ea0019dec68b41599b7524524f0d9bfda6f2b83f8fd1cadef641b5f0d", func := "winepress/winepresstop.TopAgain", spec := "topAgain", inPlace := ["internal/bytealg.IndexByte", "internal/bytealg.MakeNoZero"], unfollowed := true, recurses := true, plainKeys := false, apart := false }
def TopAgainSaid : Prop := topAgainRow.holds Tryz.pinned (OpenSpec.ofChange topAgainSpec)

/-- ITS FALSE NEIGHBOUR: 'it returns false'. Refute it at one input. -/
def topAgainWrong : ChangeSpec := { name := "topAgain", fn := fun _ => fun
  | [d1, d2, d3] => { results := [.lit (.bool false)], args := [d1, d2, d3] }
  | _ => none }
def TopAgainWrongFalsely : Prop := topAgainRow.holds Tryz.pinned (OpenSpec.ofChange topAgainWrong)

/-- 'winepresstop.TopEntropy': WHATEVER THE INPUT: true; the input reads as it did. -/
def topEntropySpec : ChangeSpec := { name := "topEntropy", fn := fun _ => fun
  | [d] => { results := [.lit (.bool true)], args := [d] }
  | _ => none }
def topEntropyRow : OpenClaim := { program := "ytamdpnpkldgkcaagreat", sum := "0b675e7ea0019dec68b41599b7524524f0d9bfda6f2b83f8fd1cadef641b5f0d", func := "winepress/winepresstop.TopEntropy", spec := "topEntropy", inPlace := ["internal/bytealg.IndexByte", "internal/bytealg.MakeNoZero"], unfollowed := true, recurses := true, plainKeys := false, apart := false }
def TopEntropySaid : Prop := topEntropyRow.holds Tryz.pinned (OpenSpec.ofChange topEntropySpec)

/-- ITS FALSE NEIGHBOUR: 'it returns false'. Refute it at one input. -/
def topEntropyWrong : ChangeSpec := { name := "topEntropy", fn := fun _ => fun
  | [d] => { results := [.lit (.bool false)], args := [d] }
  | _ => none }
def TopEntropyWrongFalsely : Prop := topEntropyRow.holds Tryz.pinned (OpenSpec.ofChange topEntropyWrong)

/-- 'winepresstop.TopPeak': WHATEVER THE INPUT: true; the input reads as it did. -/
def topPeakSpec : ChangeSpec := { name := "topPeak", fn := fun _ => fun
  | [d1, d2, d3, d4, d5] => { results := [.lit (.bool true)], args := [d1, d2, d3, d4, d5] }
  | _ => none }
def topPeakRow : OpenClaim := { program := "ytamdpnpkldgkcaagreat", sum := "0b675e7ea0019dec68b41599b7524524f0d9bfda6f2b83f8fd1cadef641b5f0d", func := "winepress/winepresstop.TopPeak", spec := "topPeak", inPlace := ["internal/bytealg.IndexByte", "internal/bytealg.MakeNoZero"], unfollowed := true, recurses := true, plainKeys := false, apart := false }
def TopPeakSaid : Prop := topPeakRow.holds Tryz.pinned (OpenSpec.ofChange topPeakSpec)

/-- ITS FALSE NEIGHBOUR: 'it returns false'. Refute it at one input. -/
def topPeakWrong : ChangeSpec := { name := "topPeak", fn := fun _ => fun
  | [d1, d2, d3, d4, d5] => { results := [.lit (.bool false)], args := [d1, d2, d3, d4, d5] }
  | _ => none }
def TopPeakWrongFalsely : Prop := topPeakRow.holds Tryz.pinned (OpenSpec.ofChange topPeakWrong)

/- THE SECOND FORM. 'bulk': how many values and letters a reading holds, each counted each time it is reached (what is shared counts as often as it is met; a slice's spare places count too). A statement '..UptoSaid' is the law's where the arguments, and the package variables that the reading takes, are together of bulk at most 1048576: NARROWER than '..Said'. Prove '..Said' where nothing that the law and all that it calls make is longer than what came in: it says more and counts as full. Else prove '..UptoSaid'. A law counts once. -/
mutual
def uptoBulk {H : Type} : DataW H → Nat
  | .lit (.string bytes) => bytes.length + 1
  | .lit _ => 1
  | .nil => 1
  | .ptr d => uptoBulk d + 1
  | .slice elems spare => uptoBulkAll elems + uptoBulkAll spare + 1
  | .agg parts => uptoBulkAll parts + 1
  | .iface _ d => uptoBulk d + 1
  | .map entries => uptoBulkEntries entries + 1
  | .held _ => 1
def uptoBulkAll {H : Type} : List (DataW H) → Nat
  | [] => 0
  | d :: r => uptoBulk d + uptoBulkAll r
def uptoBulkEntries {H : Type} : List (Lit × DataW H) → Nat
  | [] => 0
  | x :: r => uptoBulkEntry x + uptoBulkEntries r
def uptoBulkEntry {H : Type} : Lit × DataW H → Nat
  | (.string bytes, d) => bytes.length + uptoBulk d + 1
  | (_, d) => uptoBulk d + 1
 end
def uptoSmall : (H : Type) → List (DataW H) → Bool := fun _ ds => decide (uptoBulkAll ds ≤ 1048576)
def OpenSpec.upto (s : _root_.Go.ChangeSpec) : _root_.Go.OpenSpec := { _root_.Go.OpenSpec.ofChange s with cond := some uptoSmall }

/-- 'winepresstop.TopJoin', WHERE WHAT IT READS IS OF BULK AT MOST 1048576: true; the input reads as it did. -/
def topJoinUptoRow : OpenClaim := { program := "ytamdpnpkldgkcaagreat", sum := "0b675e7ea0019dec68b41599b7524524f0d9bfda6f2b83f8fd1cadef641b5f0d", func := "winepress/winepresstop.TopJoin", spec := "topJoin", inPlace := ["internal/bytealg.IndexByte", "internal/bytealg.MakeNoZero"], unfollowed := true, recurses := true, plainKeys := false, apart := false, narrowed := true }
def TopJoinUptoSaid : Prop := topJoinUptoRow.holds Tryz.pinned (OpenSpec.upto topJoinSpec)

/-- 'winepresstop.TopOther', WHERE WHAT IT READS IS OF BULK AT MOST 1048576: true; the input reads as it did. -/
def topOtherUptoRow : OpenClaim := { program := "ytamdpnpkldgkcaagreat", sum := "0b675e7ea0019dec68b41599b7524524f0d9bfda6f2b83f8fd1cadef641b5f0d", func := "winepress/winepresstop.TopOther", spec := "topOther", inPlace := ["internal/bytealg.IndexByte", "internal/bytealg.MakeNoZero"], unfollowed := true, recurses := true, plainKeys := false, apart := false, narrowed := true }
def TopOtherUptoSaid : Prop := topOtherUptoRow.holds Tryz.pinned (OpenSpec.upto topOtherSpec)

/-- 'winepresstop.TopAgain', WHERE WHAT IT READS IS OF BULK AT MOST 1048576: true; the input reads as it did. -/
def topAgainUptoRow : OpenClaim := { program := "ytamdpnpkldgkcaagreat", sum := "0b675e7ea0019dec68b41599b7524524f0d9bfda6f2b83f8fd1cadef641b5f0d", func := "winepress/winepresstop.TopAgain", spec := "topAgain", inPlace := ["internal/bytealg.IndexByte", "internal/bytealg.MakeNoZero"], unfollowed := true, recurses := true, plainKeys := false, apart := false, narrowed := true }
def TopAgainUptoSaid : Prop := topAgainUptoRow.holds Tryz.pinned (OpenSpec.upto topAgainSpec)

/-- 'winepresstop.TopEntropy', WHERE WHAT IT READS IS OF BULK AT MOST 1048576: true; the input reads as it did. -/
def topEntropyUptoRow : OpenClaim := { program := "ytamdpnpkldgkcaagreat", sum := "0b675e7ea0019dec68b41599b7524524f0d9bfda6f2b83f8fd1cadef641b5f0d", func := "winepress/winepresstop.TopEntropy", spec := "topEntropy", inPlace := ["internal/bytealg.IndexByte", "internal/bytealg.MakeNoZero"], unfollowed := true, recurses := true, plainKeys := false, apart := false, narrowed := true }
def TopEntropyUptoSaid : Prop := topEntropyUptoRow.holds Tryz.pinned (OpenSpec.upto topEntropySpec)

/-- 'winepresstop.TopPeak', WHERE WHAT IT READS IS OF BULK AT MOST 1048576: true; the input reads as it did. -/
def topPeakUptoRow : OpenClaim := { program := "ytamdpnpkldgkcaagreat", sum := "0b675e7ea0019dec68b41599b7524524f0d9bfda6f2b83f8fd1cadef641b5f0d", func := "winepress/winepresstop.TopPeak", spec := "topPeak", inPlace := ["internal/bytealg.IndexByte", "internal/bytealg.MakeNoZero"], unfollowed := true, recurses := true, plainKeys := false, apart := false, narrowed := true }
def TopPeakUptoSaid : Prop := topPeakUptoRow.holds Tryz.pinned (OpenSpec.upto topPeakSpec)

end Rows
end Go.Proofs.YtamdpnpkldgkcaaGreat
