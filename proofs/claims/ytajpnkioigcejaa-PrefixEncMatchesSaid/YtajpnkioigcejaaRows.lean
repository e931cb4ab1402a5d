/-
  No cell of these rows narrows 'for every input' (looked for: loops, veiled, ifaces, maps, wideKeys, modest, calm, conditions, laid).
  DERIVED. THE GIVEN ROWS OF THIS SEAT. 6 by the template 'for every input the law returns true; each argument reads behind the call as it read before'; 0 by the template 'total and deterministic' (their statements: YtajpnkioigcejaaTotals.lean).
  GIVEN WITH THE SEED: the statements are not yours to turn. If you find one false, say at which input.
  Laid BY PROGRAM, IN A SANDBOX (cutbox-rows.mjs): the forced cells as the released guide's own fill.sh prints them over the translation 737ae6c6f83bec9a… (all of the seat's roots in one cut). By AI agents, Wed Nov 11 2026. No macro, syntax, notation, axiom, sorry.
-/
import Derived.Test.YtajpnkioigcejaaChecked
import GoSem.Claim
import GoSem.ClaimJoined
import GoSem.ClaimMapViews
import Derived.JoinedTies
import Derived.KernelRfl
namespace Go.Proofs.Ytajpnkioigcejaa
/- THE CELL 'sum', in the pinned program and in every row, IS THE sha256 OF THE DUMP (.gsa) THAT YtajpnkioigcejaaProg.lean LOADS. Nothing in Lean hashes anything: it is a label: what it is worth is what the hold of that sum in a sandbox is worth. -/
noncomputable def Try.pinned : Pinned := { name := "ytajpnkioigcejaa", sum := "737ae6c6f83bec9a70f0e1daa7a601f0bde8847f7928497d9ee5f0bf5ec06e97", checked := Try.checked }
namespace Rows
def none {H : Type} : Left H := { results := [], args := [] }

/-- 'winepresslaw12.PrefixDecAny': WHATEVER THE INPUT: true; the input reads as it did. -/
def prefixDecAnySpec : ChangeSpec := { name := "prefixDecAny", fn := fun _ => fun
  | [d1, d2] => { results := [.lit (.bool true)], args := [d1, d2] }
  | _ => none }
def prefixDecAnyRow : OpenClaim := { program := "ytajpnkioigcejaa", sum := "737ae6c6f83bec9a70f0e1daa7a601f0bde8847f7928497d9ee5f0bf5ec06e97", func := "winepress/winepresslaw12.PrefixDecAny", spec := "prefixDecAny", unfollowed := true, recurses := true, plainKeys := false, apart := false }
def PrefixDecAnySaid : Prop := prefixDecAnyRow.holds Try.pinned (OpenSpec.ofChange prefixDecAnySpec)

/-- ITS FALSE NEIGHBOUR: 'it returns false'. Refute it at one input. -/
def prefixDecAnyWrong : ChangeSpec := { name := "prefixDecAny", fn := fun _ => fun
  | [d1, d2] => { results := [.lit (.bool false)], args := [d1, d2] }
  | _ => none }
def PrefixDecAnyWrongFalsely : Prop := prefixDecAnyRow.holds Try.pinned (OpenSpec.ofChange prefixDecAnyWrong)

/-- 'winepresslaw12.PrefixDecQuick': WHATEVER THE INPUT: true; the input reads as it did. -/
def prefixDecQuickSpec : ChangeSpec := { name := "prefixDecQuick", fn := fun _ => fun
  | [d1, d2] => { results := [.lit (.bool true)], args := [d1, d2] }
  | _ => none }
def prefixDecQuickRow : OpenClaim := { program := "ytajpnkioigcejaa", sum := "737ae6c6f83bec9a70f0e1daa7a601f0bde8847f7928497d9ee5f0bf5ec06e97", func := "winepress/winepresslaw12.PrefixDecQuick", spec := "prefixDecQuick", unfollowed := true, recurses := true, plainKeys := false, apart := false }
def PrefixDecQuickSaid : Prop := prefixDecQuickRow.holds Try.pinned (OpenSpec.ofChange prefixDecQuickSpec)

/-- ITS FALSE NEIGHBOUR: 'it returns false'. Refute it at one input. -/
def prefixDecQuickWrong : ChangeSpec := { name := "prefixDecQuick", fn := fun _ => fun
  | [d1, d2] => { results := [.lit (.bool false)], args := [d1, d2] }
  | _ => none }
def PrefixDecQuickWrongFalsely : Prop := prefixDecQuickRow.holds Try.pinned (OpenSpec.ofChange prefixDecQuickWrong)

/-- 'winepresslaw11.PrefixEncMatches': WHATEVER THE INPUT: true; the input reads as it did. -/
def prefixEncMatchesSpec : ChangeSpec := { name := "prefixEncMatches", fn := fun _ => fun
  | [d1, d2, d3, d4, d5, d6] => { results := [.lit (.bool true)], args := [d1, d2, d3, d4, d5, d6] }
  | _ => none }
def prefixEncMatchesRow : OpenClaim := { program := "ytajpnkioigcejaa", sum := "737ae6c6f83bec9a70f0e1daa7a601f0bde8847f7928497d9ee5f0bf5ec06e97", func := "winepress/winepresslaw11.PrefixEncMatches", spec := "prefixEncMatches", unfollowed := true, recurses := true, plainKeys := false, apart := false }
def PrefixEncMatchesSaid : Prop := prefixEncMatchesRow.holds Try.pinned (OpenSpec.ofChange prefixEncMatchesSpec)

/-- ITS FALSE NEIGHBOUR: 'it returns false'. Refute it at one input. -/
def prefixEncMatchesWrong : ChangeSpec := { name := "prefixEncMatches", fn := fun _ => fun
  | [d1, d2, d3, d4, d5, d6] => { results := [.lit (.bool false)], args := [d1, d2, d3, d4, d5, d6] }
  | _ => none }
def PrefixEncMatchesWrongFalsely : Prop := prefixEncMatchesRow.holds Try.pinned (OpenSpec.ofChange prefixEncMatchesWrong)

/-- 'winepresslaw11.PrefixEncBack': WHATEVER THE INPUT: true; the input reads as it did. -/
def prefixEncBackSpec : ChangeSpec := { name := "prefixEncBack", fn := fun _ => fun
  | [d1, d2] => { results := [.lit (.bool true)], args := [d1, d2] }
  | _ => none }
def prefixEncBackRow : OpenClaim := { program := "ytajpnkioigcejaa", sum := "737ae6c6f83bec9a70f0e1daa7a601f0bde8847f7928497d9ee5f0bf5ec06e97", func := "winepress/winepresslaw11.PrefixEncBack", spec := "prefixEncBack", unfollowed := true, recurses := true, plainKeys := false, apart := false }
def PrefixEncBackSaid : Prop := prefixEncBackRow.holds Try.pinned (OpenSpec.ofChange prefixEncBackSpec)

/-- ITS FALSE NEIGHBOUR: 'it returns false'. Refute it at one input. -/
def prefixEncBackWrong : ChangeSpec := { name := "prefixEncBack", fn := fun _ => fun
  | [d1, d2] => { results := [.lit (.bool false)], args := [d1, d2] }
  | _ => none }
def PrefixEncBackWrongFalsely : Prop := prefixEncBackRow.holds Try.pinned (OpenSpec.ofChange prefixEncBackWrong)

/-- 'winepresslaw11.PrefixEncRead': WHATEVER THE INPUT: true; the input reads as it did. -/
def prefixEncReadSpec : ChangeSpec := { name := "prefixEncRead", fn := fun _ => fun
  | [d1, d2, d3, d4] => { results := [.lit (.bool true)], args := [d1, d2, d3, d4] }
  | _ => none }
def prefixEncReadRow : OpenClaim := { program := "ytajpnkioigcejaa", sum := "737ae6c6f83bec9a70f0e1daa7a601f0bde8847f7928497d9ee5f0bf5ec06e97", func := "winepress/winepresslaw11.PrefixEncRead", spec := "prefixEncRead", unfollowed := true, recurses := true, plainKeys := false, apart := false }
def PrefixEncReadSaid : Prop := prefixEncReadRow.holds Try.pinned (OpenSpec.ofChange prefixEncReadSpec)

/-- ITS FALSE NEIGHBOUR: 'it returns false'. Refute it at one input. -/
def prefixEncReadWrong : ChangeSpec := { name := "prefixEncRead", fn := fun _ => fun
  | [d1, d2, d3, d4] => { results := [.lit (.bool false)], args := [d1, d2, d3, d4] }
  | _ => none }
def PrefixEncReadWrongFalsely : Prop := prefixEncReadRow.holds Try.pinned (OpenSpec.ofChange prefixEncReadWrong)

/-- 'winepresslaw11.PrefixEncParts': WHATEVER THE INPUT: true; the input reads as it did. -/
def prefixEncPartsSpec : ChangeSpec := { name := "prefixEncParts", fn := fun _ => fun
  | [d1, d2, d3] => { results := [.lit (.bool true)], args := [d1, d2, d3] }
  | _ => none }
def prefixEncPartsRow : OpenClaim := { program := "ytajpnkioigcejaa", sum := "737ae6c6f83bec9a70f0e1daa7a601f0bde8847f7928497d9ee5f0bf5ec06e97", func := "winepress/winepresslaw11.PrefixEncParts", spec := "prefixEncParts", unfollowed := true, recurses := true, plainKeys := false, apart := false }
def PrefixEncPartsSaid : Prop := prefixEncPartsRow.holds Try.pinned (OpenSpec.ofChange prefixEncPartsSpec)

/-- ITS FALSE NEIGHBOUR: 'it returns false'. Refute it at one input. -/
def prefixEncPartsWrong : ChangeSpec := { name := "prefixEncParts", fn := fun _ => fun
  | [d1, d2, d3] => { results := [.lit (.bool false)], args := [d1, d2, d3] }
  | _ => none }
def PrefixEncPartsWrongFalsely : Prop := prefixEncPartsRow.holds Try.pinned (OpenSpec.ofChange prefixEncPartsWrong)

/- THE SECOND FORM. 'bulk': how many values and letters a reading holds, each counted each time it is reached (what is shared counts as often as it is met; a slice's spare places count too). A statement '..UptoSaid' is the law's where the arguments, and the package variables that the reading takes, are together of bulk at most 1048576: NARROWER than '..Said'. Prove '..Said' where nothing that the law and all that it calls make is longer than what came in: it says more and counts as full. Else prove '..UptoSaid'. A law counts once. -/
mutual
def uptoBulk {H : Type} : DataW H → Nat
  | .lit (.string bytes) => bytes.length + 1
  | .lit _ => 1
  | .nil => 1
  | .ptr d => uptoBulk d + 1
  | .slice elems spare => uptoBulkAll elems + uptoBulkAll spare + 1
  | .agg parts => uptoBulkAll parts + 1
  | .iface _ d => uptoBulk d + 1
  | .map entries => uptoBulkEntries entries + 1
  | .held _ => 1
def uptoBulkAll {H : Type} : List (DataW H) → Nat
  | [] => 0
  | d :: r => uptoBulk d + uptoBulkAll r
def uptoBulkEntries {H : Type} : List (Lit × DataW H) → Nat
  | [] => 0
  | x :: r => uptoBulkEntry x + uptoBulkEntries r
def uptoBulkEntry {H : Type} : Lit × DataW H → Nat
  | (.string bytes, d) => bytes.length + uptoBulk d + 1
  | (_, d) => uptoBulk d + 1
 end
def uptoSmall : (H : Type) → List (DataW H) → Bool := fun _ ds => decide (uptoBulkAll ds ≤ 1048576)
def OpenSpec.upto (s : _root_.Go.ChangeSpec) : _root_.Go.OpenSpec := { _root_.Go.OpenSpec.ofChange s with cond := some uptoSmall }

/-- 'winepresslaw12.PrefixDecAny', WHERE WHAT IT READS IS OF BULK AT MOST 1048576: true; the input reads as it did. -/
def prefixDecAnyUptoRow : OpenClaim := { program := "ytajpnkioigcejaa", sum := "737ae6c6f83bec9a70f0e1daa7a601f0bde8847f7928497d9ee5f0bf5ec06e97", func := "winepress/winepresslaw12.PrefixDecAny", spec := "prefixDecAny", unfollowed := true, recurses := true, plainKeys := false, apart := false, narrowed := true }
def PrefixDecAnyUptoSaid : Prop := prefixDecAnyUptoRow.holds Try.pinned (OpenSpec.upto prefixDecAnySpec)

/-- 'winepresslaw12.PrefixDecQuick', WHERE WHAT IT READS IS OF BULK AT MOST 1048576: true; the input reads as it did. -/
def prefixDecQuickUptoRow : OpenClaim := { program := "ytajpnkioigcejaa", sum := "737ae6c6f83bec9a70f0e1daa7a601f0bde8847f7928497d9ee5f0bf5ec06e97", func := "winepress/winepresslaw12.PrefixDecQuick", spec := "prefixDecQuick", unfollowed := true, recurses := true, plainKeys := false, apart := false, narrowed := true }
def PrefixDecQuickUptoSaid : Prop := prefixDecQuickUptoRow.holds Try.pinned (OpenSpec.upto prefixDecQuickSpec)

/-- 'winepresslaw11.PrefixEncMatches', WHERE WHAT IT READS IS OF BULK AT MOST 1048576: true; the input reads as it did. -/
def prefixEncMatchesUptoRow : OpenClaim := { program := "ytajpnkioigcejaa", sum := "737ae6c6f83bec9a70f0e1daa7a601f0bde8847f7928497d9ee5f0bf5ec06e97", func := "winepress/winepresslaw11.PrefixEncMatches", spec := "prefixEncMatches", unfollowed := true, recurses := true, plainKeys := false, apart := false, narrowed := true }
def PrefixEncMatchesUptoSaid : Prop := prefixEncMatchesUptoRow.holds Try.pinned (OpenSpec.upto prefixEncMatchesSpec)

/-- 'winepresslaw11.PrefixEncBack', WHERE WHAT IT READS IS OF BULK AT MOST 1048576: true; the input reads as it did. -/
def prefixEncBackUptoRow : OpenClaim := { program := "ytajpnkioigcejaa", sum := "737ae6c6f83bec9a70f0e1daa7a601f0bde8847f7928497d9ee5f0bf5ec06e97", func := "winepress/winepresslaw11.PrefixEncBack", spec := "prefixEncBack", unfollowed := true, recurses := true, plainKeys := false, apart := false, narrowed := true }
def PrefixEncBackUptoSaid : Prop := prefixEncBackUptoRow.holds Try.pinned (OpenSpec.upto prefixEncBackSpec)

/-- 'winepresslaw11.PrefixEncRead', WHERE WHAT IT READS IS OF BULK AT MOST 1048576: true; the input reads as it did. -/
def prefixEncReadUptoRow : OpenClaim := { program := "ytajpnkioigcejaa", sum := "737ae6c6f83bec9a70f0e1daa7a601f0bde8847f7928497d9ee5f0bf5ec06e97", func := "winepress/winepresslaw11.PrefixEncRead", spec := "prefixEncRead", unfollowed := true, recurses := true, plainKeys := false, apart := false, narrowed := true }
def PrefixEncReadUptoSaid : Prop := prefixEncReadUptoRow.holds Try.pinned (OpenSpec.upto prefixEncReadSpec)

/-- 'winepresslaw11.PrefixEncParts', WHERE WHAT IT READS IS OF BULK AT MOST 1048576: true; the input reads as it did. -/
def prefixEncPartsUptoRow : OpenClaim := { program := "ytajpnkioigcejaa", sum := "737ae6c6f83bec9a70f0e1daa7a601f0bde8847f7928497d9ee5f0bf5ec06e97", func := "winepress/winepresslaw11.PrefixEncParts", spec := "prefixEncParts", unfollowed := true, recurses := true, plainKeys := false, apart := false, narrowed := true }
def PrefixEncPartsUptoSaid : Prop := prefixEncPartsUptoRow.holds Try.pinned (OpenSpec.upto prefixEncPartsSpec)

end Rows
end Go.Proofs.Ytajpnkioigcejaa
