/-
  No cell of these rows narrows 'for every input' (looked for: loops, veiled, ifaces, maps, wideKeys, modest, calm, conditions, laid).
  DERIVED. THE GIVEN ROWS OF THIS SEAT. 7 by the template 'for every input the law returns true; each argument reads behind the call as it read before'; 0 by the template 'total and deterministic' (their statements: YtcidpcahgkngjaaTotals.lean).
  GIVEN WITH THE SEED: the statements are not yours to turn. If you find one false, say at which input.
  Laid BY PROGRAM, IN A SANDBOX (cutbox-rows.mjs): the forced cells as the released guide's own fill.sh prints them over the translation 136bbdc4a457db0a… (all of the seat's roots in one cut). By AI agents, Wed Nov 11 2026. No macro, syntax, notation, axiom, sorry.
-/
import Derived.Test.YtcidpcahgkngjaaChecked
import GoSem.Claim
import GoSem.ClaimJoined
import GoSem.ClaimMapViews
import Derived.JoinedTies
import Derived.KernelRfl
namespace Go.Proofs.Ytcidpcahgkngjaa
/- THE CELL 'sum', in the pinned program and in every row, IS THE sha256 OF THE DUMP (.gsa) THAT YtcidpcahgkngjaaProg.lean LOADS. Nothing in Lean hashes anything: it is a label: what it is worth is what the hold of that sum in a sandbox is worth. -/
noncomputable def Try.pinned : Pinned := { name := "ytcidpcahgkngjaa", sum := "136bbdc4a457db0adb4c12255f050ef332e353273362ed461ef88e578c3bc1d8", checked := Try.checked }
namespace Rows
def none {H : Type} : Left H := { results := [], args := [] }

/-- 'winepresslaw09.CanonicalPrefix': WHATEVER THE INPUT: true; the input reads as it did. -/
def canonicalPrefixSpec : ChangeSpec := { name := "canonicalPrefix", fn := fun _ => fun
  | [d] => { results := [.lit (.bool true)], args := [d] }
  | _ => none }
def canonicalPrefixRow : OpenClaim := { program := "ytcidpcahgkngjaa", sum := "136bbdc4a457db0adb4c12255f050ef332e353273362ed461ef88e578c3bc1d8", func := "winepress/winepresslaw09.CanonicalPrefix", spec := "canonicalPrefix", unfollowed := true, recurses := true, plainKeys := false, apart := false }
def CanonicalPrefixSaid : Prop := canonicalPrefixRow.holds Try.pinned (OpenSpec.ofChange canonicalPrefixSpec)

/-- ITS FALSE NEIGHBOUR: 'it returns false'. Refute it at one input. -/
def canonicalPrefixWrong : ChangeSpec := { name := "canonicalPrefix", fn := fun _ => fun
  | [d] => { results := [.lit (.bool false)], args := [d] }
  | _ => none }
def CanonicalPrefixWrongFalsely : Prop := canonicalPrefixRow.holds Try.pinned (OpenSpec.ofChange canonicalPrefixWrong)

/-- 'winepresslaw09.CanonicalWhole': WHATEVER THE INPUT: true; the input reads as it did. -/
def canonicalWholeSpec : ChangeSpec := { name := "canonicalWhole", fn := fun _ => fun
  | [d1, d2] => { results := [.lit (.bool true)], args := [d1, d2] }
  | _ => none }
def canonicalWholeRow : OpenClaim := { program := "ytcidpcahgkngjaa", sum := "136bbdc4a457db0adb4c12255f050ef332e353273362ed461ef88e578c3bc1d8", func := "winepress/winepresslaw09.CanonicalWhole", spec := "canonicalWhole", unfollowed := true, recurses := true, plainKeys := false, apart := false }
def CanonicalWholeSaid : Prop := canonicalWholeRow.holds Try.pinned (OpenSpec.ofChange canonicalWholeSpec)

/-- ITS FALSE NEIGHBOUR: 'it returns false'. Refute it at one input. -/
def canonicalWholeWrong : ChangeSpec := { name := "canonicalWhole", fn := fun _ => fun
  | [d1, d2] => { results := [.lit (.bool false)], args := [d1, d2] }
  | _ => none }
def CanonicalWholeWrongFalsely : Prop := canonicalWholeRow.holds Try.pinned (OpenSpec.ofChange canonicalWholeWrong)

/-- 'winepresslaw07.PackageMergeMatches': WHATEVER THE INPUT: true; the input reads as it did. -/
def packageMergeMatchesSpec : ChangeSpec := { name := "packageMergeMatches", fn := fun _ => fun
  | [d1, d2, d3] => { results := [.lit (.bool true)], args := [d1, d2, d3] }
  | _ => none }
def packageMergeMatchesRow : OpenClaim := { program := "ytcidpcahgkngjaa", sum := "136bbdc4a457db0adb4c12255f050ef332e353273362ed461ef88e578c3bc1d8", func := "winepress/winepresslaw07.PackageMergeMatches", spec := "packageMergeMatches", unfollowed := true, recurses := true, plainKeys := false, apart := false }
def PackageMergeMatchesSaid : Prop := packageMergeMatchesRow.holds Try.pinned (OpenSpec.ofChange packageMergeMatchesSpec)

/-- ITS FALSE NEIGHBOUR: 'it returns false'. Refute it at one input. -/
def packageMergeMatchesWrong : ChangeSpec := { name := "packageMergeMatches", fn := fun _ => fun
  | [d1, d2, d3] => { results := [.lit (.bool false)], args := [d1, d2, d3] }
  | _ => none }
def PackageMergeMatchesWrongFalsely : Prop := packageMergeMatchesRow.holds Try.pinned (OpenSpec.ofChange packageMergeMatchesWrong)

/-- 'winepresslaw07.PackageMergeLeast': WHATEVER THE INPUT: true; the input reads as it did. -/
def packageMergeLeastSpec : ChangeSpec := { name := "packageMergeLeast", fn := fun _ => fun
  | [d1, d2] => { results := [.lit (.bool true)], args := [d1, d2] }
  | _ => none }
def packageMergeLeastRow : OpenClaim := { program := "ytcidpcahgkngjaa", sum := "136bbdc4a457db0adb4c12255f050ef332e353273362ed461ef88e578c3bc1d8", func := "winepress/winepresslaw07.PackageMergeLeast", spec := "packageMergeLeast", unfollowed := true, recurses := true, plainKeys := false, apart := false }
def PackageMergeLeastSaid : Prop := packageMergeLeastRow.holds Try.pinned (OpenSpec.ofChange packageMergeLeastSpec)

/-- ITS FALSE NEIGHBOUR: 'it returns false'. Refute it at one input. -/
def packageMergeLeastWrong : ChangeSpec := { name := "packageMergeLeast", fn := fun _ => fun
  | [d1, d2] => { results := [.lit (.bool false)], args := [d1, d2] }
  | _ => none }
def PackageMergeLeastWrongFalsely : Prop := packageMergeLeastRow.holds Try.pinned (OpenSpec.ofChange packageMergeLeastWrong)

/-- 'winepresslaw07.PackageMergeWhole': WHATEVER THE INPUT: true; the input reads as it did. -/
def packageMergeWholeSpec : ChangeSpec := { name := "packageMergeWhole", fn := fun _ => fun
  | [d1, d2] => { results := [.lit (.bool true)], args := [d1, d2] }
  | _ => none }
def packageMergeWholeRow : OpenClaim := { program := "ytcidpcahgkngjaa", sum := "136bbdc4a457db0adb4c12255f050ef332e353273362ed461ef88e578c3bc1d8", func := "winepress/winepresslaw07.PackageMergeWhole", spec := "packageMergeWhole", unfollowed := true, recurses := true, plainKeys := false, apart := false }
def PackageMergeWholeSaid : Prop := packageMergeWholeRow.holds Try.pinned (OpenSpec.ofChange packageMergeWholeSpec)

/-- ITS FALSE NEIGHBOUR: 'it returns false'. Refute it at one input. -/
def packageMergeWholeWrong : ChangeSpec := { name := "packageMergeWhole", fn := fun _ => fun
  | [d1, d2] => { results := [.lit (.bool false)], args := [d1, d2] }
  | _ => none }
def PackageMergeWholeWrongFalsely : Prop := packageMergeWholeRow.holds Try.pinned (OpenSpec.ofChange packageMergeWholeWrong)

/-- 'winepresslaw07.PackageMergeLimit': WHATEVER THE INPUT: true; the input reads as it did. -/
def packageMergeLimitSpec : ChangeSpec := { name := "packageMergeLimit", fn := fun _ => fun
  | [d1, d2, d3] => { results := [.lit (.bool true)], args := [d1, d2, d3] }
  | _ => none }
def packageMergeLimitRow : OpenClaim := { program := "ytcidpcahgkngjaa", sum := "136bbdc4a457db0adb4c12255f050ef332e353273362ed461ef88e578c3bc1d8", func := "winepress/winepresslaw07.PackageMergeLimit", spec := "packageMergeLimit", unfollowed := true, recurses := true, plainKeys := false, apart := false }
def PackageMergeLimitSaid : Prop := packageMergeLimitRow.holds Try.pinned (OpenSpec.ofChange packageMergeLimitSpec)

/-- ITS FALSE NEIGHBOUR: 'it returns false'. Refute it at one input. -/
def packageMergeLimitWrong : ChangeSpec := { name := "packageMergeLimit", fn := fun _ => fun
  | [d1, d2, d3] => { results := [.lit (.bool false)], args := [d1, d2, d3] }
  | _ => none }
def PackageMergeLimitWrongFalsely : Prop := packageMergeLimitRow.holds Try.pinned (OpenSpec.ofChange packageMergeLimitWrong)

/-- 'winepresslaw07.PackageMergeTurned': WHATEVER THE INPUT: true; the input reads as it did. -/
def packageMergeTurnedSpec : ChangeSpec := { name := "packageMergeTurned", fn := fun _ => fun
  | [d1, d2, d3, d4, d5] => { results := [.lit (.bool true)], args := [d1, d2, d3, d4, d5] }
  | _ => none }
def packageMergeTurnedRow : OpenClaim := { program := "ytcidpcahgkngjaa", sum := "136bbdc4a457db0adb4c12255f050ef332e353273362ed461ef88e578c3bc1d8", func := "winepress/winepresslaw07.PackageMergeTurned", spec := "packageMergeTurned", unfollowed := true, recurses := true, plainKeys := false, apart := false }
def PackageMergeTurnedSaid : Prop := packageMergeTurnedRow.holds Try.pinned (OpenSpec.ofChange packageMergeTurnedSpec)

/-- ITS FALSE NEIGHBOUR: 'it returns false'. Refute it at one input. -/
def packageMergeTurnedWrong : ChangeSpec := { name := "packageMergeTurned", fn := fun _ => fun
  | [d1, d2, d3, d4, d5] => { results := [.lit (.bool false)], args := [d1, d2, d3, d4, d5] }
  | _ => none }
def PackageMergeTurnedWrongFalsely : Prop := packageMergeTurnedRow.holds Try.pinned (OpenSpec.ofChange packageMergeTurnedWrong)

/- THE SECOND FORM. 'bulk': how many values and letters a reading holds, each counted each time it is reached (what is shared counts as often as it is met; a slice's spare places count too). A statement '..UptoSaid' is the law's where the arguments, and the package variables that the reading takes, are together of bulk at most 1048576: NARROWER than '..Said'. Prove '..Said' where nothing that the law and all that it calls make is longer than what came in: it says more and counts as full. Else prove '..UptoSaid'. A law counts once. -/
mutual
def uptoBulk {H : Type} : DataW H → Nat
  | .lit (.string bytes) => bytes.length + 1
  | .lit _ => 1
  | .nil => 1
  | .ptr d => uptoBulk d + 1
  | .slice elems spare => uptoBulkAll elems + uptoBulkAll spare + 1
  | .agg parts => uptoBulkAll parts + 1
  | .iface _ d => uptoBulk d + 1
  | .map entries => uptoBulkEntries entries + 1
  | .held _ => 1
def uptoBulkAll {H : Type} : List (DataW H) → Nat
  | [] => 0
  | d :: r => uptoBulk d + uptoBulkAll r
def uptoBulkEntries {H : Type} : List (Lit × DataW H) → Nat
  | [] => 0
  | x :: r => uptoBulkEntry x + uptoBulkEntries r
def uptoBulkEntry {H : Type} : Lit × DataW H → Nat
  | (.string bytes, d) => bytes.length + uptoBulk d + 1
  | (_, d) => uptoBulk d + 1
 end
def uptoSmall : (H : Type) → List (DataW H) → Bool := fun _ ds => decide (uptoBulkAll ds ≤ 1048576)
def OpenSpec.upto (s : _root_.Go.ChangeSpec) : _root_.Go.OpenSpec := { _root_.Go.OpenSpec.ofChange s with cond := some uptoSmall }

/-- 'winepresslaw09.CanonicalPrefix', WHERE WHAT IT READS IS OF BULK AT MOST 1048576: true; the input reads as it did. -/
def canonicalPrefixUptoRow : OpenClaim := { program := "ytcidpcahgkngjaa", sum := "136bbdc4a457db0adb4c12255f050ef332e353273362ed461ef88e578c3bc1d8", func := "winepress/winepresslaw09.CanonicalPrefix", spec := "canonicalPrefix", unfollowed := true, recurses := true, plainKeys := false, apart := false, narrowed := true }
def CanonicalPrefixUptoSaid : Prop := canonicalPrefixUptoRow.holds Try.pinned (OpenSpec.upto canonicalPrefixSpec)

/-- 'winepresslaw09.CanonicalWhole', WHERE WHAT IT READS IS OF BULK AT MOST 1048576: true; the input reads as it did. -/
def canonicalWholeUptoRow : OpenClaim := { program := "ytcidpcahgkngjaa", sum := "136bbdc4a457db0adb4c12255f050ef332e353273362ed461ef88e578c3bc1d8", func := "winepress/winepresslaw09.CanonicalWhole", spec := "canonicalWhole", unfollowed := true, recurses := true, plainKeys := false, apart := false, narrowed := true }
def CanonicalWholeUptoSaid : Prop := canonicalWholeUptoRow.holds Try.pinned (OpenSpec.upto canonicalWholeSpec)

/-- 'winepresslaw07.PackageMergeMatches', WHERE WHAT IT READS IS OF BULK AT MOST 1048576: true; the input reads as it did. -/
def packageMergeMatchesUptoRow : OpenClaim := { program := "ytcidpcahgkngjaa", sum := "136bbdc4a457db0adb4c12255f050ef332e353273362ed461ef88e578c3bc1d8", func := "winepress/winepresslaw07.PackageMergeMatches", spec := "packageMergeMatches", unfollowed := true, recurses := true, plainKeys := false, apart := false, narrowed := true }
def PackageMergeMatchesUptoSaid : Prop := packageMergeMatchesUptoRow.holds Try.pinned (OpenSpec.upto packageMergeMatchesSpec)

/-- 'winepresslaw07.PackageMergeLeast', WHERE WHAT IT READS IS OF BULK AT MOST 1048576: true; the input reads as it did. -/
def packageMergeLeastUptoRow : OpenClaim := { program := "ytcidpcahgkngjaa", sum := "136bbdc4a457db0adb4c12255f050ef332e353273362ed461ef88e578c3bc1d8", func := "winepress/winepresslaw07.PackageMergeLeast", spec := "packageMergeLeast", unfollowed := true, recurses := true, plainKeys := false, apart := false, narrowed := true }
def PackageMergeLeastUptoSaid : Prop := packageMergeLeastUptoRow.holds Try.pinned (OpenSpec.upto packageMergeLeastSpec)

/-- 'winepresslaw07.PackageMergeWhole', WHERE WHAT IT READS IS OF BULK AT MOST 1048576: true; the input reads as it did. -/
def packageMergeWholeUptoRow : OpenClaim := { program := "ytcidpcahgkngjaa", sum := "136bbdc4a457db0adb4c12255f050ef332e353273362ed461ef88e578c3bc1d8", func := "winepress/winepresslaw07.PackageMergeWhole", spec := "packageMergeWhole", unfollowed := true, recurses := true, plainKeys := false, apart := false, narrowed := true }
def PackageMergeWholeUptoSaid : Prop := packageMergeWholeUptoRow.holds Try.pinned (OpenSpec.upto packageMergeWholeSpec)

/-- 'winepresslaw07.PackageMergeLimit', WHERE WHAT IT READS IS OF BULK AT MOST 1048576: true; the input reads as it did. -/
def packageMergeLimitUptoRow : OpenClaim := { program := "ytcidpcahgkngjaa", sum := "136bbdc4a457db0adb4c12255f050ef332e353273362ed461ef88e578c3bc1d8", func := "winepress/winepresslaw07.PackageMergeLimit", spec := "packageMergeLimit", unfollowed := true, recurses := true, plainKeys := false, apart := false, narrowed := true }
def PackageMergeLimitUptoSaid : Prop := packageMergeLimitUptoRow.holds Try.pinned (OpenSpec.upto packageMergeLimitSpec)

/-- 'winepresslaw07.PackageMergeTurned', WHERE WHAT IT READS IS OF BULK AT MOST 1048576: true; the input reads as it did. -/
def packageMergeTurnedUptoRow : OpenClaim := { program := "ytcidpcahgkngjaa", sum := "136bbdc4a457db0adb4c12255f050ef332e353273362ed461ef88e578c3bc1d8", func := "winepress/winepresslaw07.PackageMergeTurned", spec := "packageMergeTurned", unfollowed := true, recurses := true, plainKeys := false, apart := false, narrowed := true }
def PackageMergeTurnedUptoSaid : Prop := packageMergeTurnedUptoRow.holds Try.pinned (OpenSpec.upto packageMergeTurnedSpec)

end Rows
end Go.Proofs.Ytcidpcahgkngjaa
