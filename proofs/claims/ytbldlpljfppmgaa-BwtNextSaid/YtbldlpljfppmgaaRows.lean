/-
  No cell of these rows narrows 'for every input' (looked for: loops, veiled, ifaces, maps, wideKeys, modest, calm, conditions, laid).
  DERIVED. THE GIVEN ROWS OF THIS SEAT. 9 by the template 'for every input the law returns true; each argument reads behind the call as it read before'; 0 by the template 'total and deterministic' (their statements: YtbldlpljfppmgaaTotals.lean).
  GIVEN WITH THE SEED: the statements are not yours to turn. If you find one false, say at which input.
  Laid BY PROGRAM, IN A SANDBOX (cutbox-rows.mjs): the forced cells as the released guide's own fill.sh prints them over the translation a4ddb56501eec7a9… (all of the seat's roots in one cut). By AI agents, Wed Nov 11 2026. No macro, syntax, notation, axiom, sorry.
-/
import Derived.Test.YtbldlpljfppmgaaChecked
import GoSem.Claim
import GoSem.ClaimJoined
import GoSem.ClaimMapViews
import Derived.JoinedTies
import Derived.KernelRfl
namespace Go.Proofs.Ytbldlpljfppmgaa
/- THE CELL 'sum', in the pinned program and in every row, IS THE sha256 OF THE DUMP (.gsa) THAT YtbldlpljfppmgaaProg.lean LOADS. Nothing in Lean hashes anything: it is a label: what it is worth is what the hold of that sum in a sandbox is worth. -/
noncomputable def Try.pinned : Pinned := { name := "ytbldlpljfppmgaa", sum := "a4ddb56501eec7a958b6a3bad07d50475b9436204417a0ca800a5cdc195986ac", checked := Try.checked }
namespace Rows
def none {H : Type} : Left H := { results := [], args := [] }

/-- 'winepresslaw06.HistogramMatches': WHATEVER THE INPUT: true; the input reads as it did. -/
def histogramMatchesSpec : ChangeSpec := { name := "histogramMatches", fn := fun _ => fun
  | [d1, d2, d3] => { results := [.lit (.bool true)], args := [d1, d2, d3] }
  | _ => none }
def histogramMatchesRow : OpenClaim := { program := "ytbldlpljfppmgaa", sum := "a4ddb56501eec7a958b6a3bad07d50475b9436204417a0ca800a5cdc195986ac", func := "winepress/winepresslaw06.HistogramMatches", spec := "histogramMatches", unfollowed := true, recurses := true, plainKeys := false, apart := false }
def HistogramMatchesSaid : Prop := histogramMatchesRow.holds Try.pinned (OpenSpec.ofChange histogramMatchesSpec)

/-- ITS FALSE NEIGHBOUR: 'it returns false'. Refute it at one input. -/
def histogramMatchesWrong : ChangeSpec := { name := "histogramMatches", fn := fun _ => fun
  | [d1, d2, d3] => { results := [.lit (.bool false)], args := [d1, d2, d3] }
  | _ => none }
def HistogramMatchesWrongFalsely : Prop := histogramMatchesRow.holds Try.pinned (OpenSpec.ofChange histogramMatchesWrong)

/-- 'winepresslaw06.HistogramOrder': WHATEVER THE INPUT: true; the input reads as it did. -/
def histogramOrderSpec : ChangeSpec := { name := "histogramOrder", fn := fun _ => fun
  | [d1, d2, d3, d4] => { results := [.lit (.bool true)], args := [d1, d2, d3, d4] }
  | _ => none }
def histogramOrderRow : OpenClaim := { program := "ytbldlpljfppmgaa", sum := "a4ddb56501eec7a958b6a3bad07d50475b9436204417a0ca800a5cdc195986ac", func := "winepress/winepresslaw06.HistogramOrder", spec := "histogramOrder", unfollowed := true, recurses := true, plainKeys := false, apart := false }
def HistogramOrderSaid : Prop := histogramOrderRow.holds Try.pinned (OpenSpec.ofChange histogramOrderSpec)

/-- ITS FALSE NEIGHBOUR: 'it returns false'. Refute it at one input. -/
def histogramOrderWrong : ChangeSpec := { name := "histogramOrder", fn := fun _ => fun
  | [d1, d2, d3, d4] => { results := [.lit (.bool false)], args := [d1, d2, d3, d4] }
  | _ => none }
def HistogramOrderWrongFalsely : Prop := histogramOrderRow.holds Try.pinned (OpenSpec.ofChange histogramOrderWrong)

/-- 'winepresslaw06.HistogramRanks': WHATEVER THE INPUT: true; the input reads as it did. -/
def histogramRanksSpec : ChangeSpec := { name := "histogramRanks", fn := fun _ => fun
  | [d] => { results := [.lit (.bool true)], args := [d] }
  | _ => none }
def histogramRanksRow : OpenClaim := { program := "ytbldlpljfppmgaa", sum := "a4ddb56501eec7a958b6a3bad07d50475b9436204417a0ca800a5cdc195986ac", func := "winepress/winepresslaw06.HistogramRanks", spec := "histogramRanks", unfollowed := true, recurses := true, plainKeys := false, apart := false }
def HistogramRanksSaid : Prop := histogramRanksRow.holds Try.pinned (OpenSpec.ofChange histogramRanksSpec)

/-- ITS FALSE NEIGHBOUR: 'it returns false'. Refute it at one input. -/
def histogramRanksWrong : ChangeSpec := { name := "histogramRanks", fn := fun _ => fun
  | [d] => { results := [.lit (.bool false)], args := [d] }
  | _ => none }
def HistogramRanksWrongFalsely : Prop := histogramRanksRow.holds Try.pinned (OpenSpec.ofChange histogramRanksWrong)

/-- 'winepresslaw06.HistogramMost': WHATEVER THE INPUT: true; the input reads as it did. -/
def histogramMostSpec : ChangeSpec := { name := "histogramMost", fn := fun _ => fun
  | [d1, d2] => { results := [.lit (.bool true)], args := [d1, d2] }
  | _ => none }
def histogramMostRow : OpenClaim := { program := "ytbldlpljfppmgaa", sum := "a4ddb56501eec7a958b6a3bad07d50475b9436204417a0ca800a5cdc195986ac", func := "winepress/winepresslaw06.HistogramMost", spec := "histogramMost", unfollowed := true, recurses := true, plainKeys := false, apart := false }
def HistogramMostSaid : Prop := histogramMostRow.holds Try.pinned (OpenSpec.ofChange histogramMostSpec)

/-- ITS FALSE NEIGHBOUR: 'it returns false'. Refute it at one input. -/
def histogramMostWrong : ChangeSpec := { name := "histogramMost", fn := fun _ => fun
  | [d1, d2] => { results := [.lit (.bool false)], args := [d1, d2] }
  | _ => none }
def HistogramMostWrongFalsely : Prop := histogramMostRow.holds Try.pinned (OpenSpec.ofChange histogramMostWrong)

/-- 'winepresslaw17.BwtMatches': WHATEVER THE INPUT: true; the input reads as it did. -/
def bwtMatchesSpec : ChangeSpec := { name := "bwtMatches", fn := fun _ => fun
  | [d1, d2, d3, d4, d5, d6] => { results := [.lit (.bool true)], args := [d1, d2, d3, d4, d5, d6] }
  | _ => none }
def bwtMatchesRow : OpenClaim := { program := "ytbldlpljfppmgaa", sum := "a4ddb56501eec7a958b6a3bad07d50475b9436204417a0ca800a5cdc195986ac", func := "winepress/winepresslaw17.BwtMatches", spec := "bwtMatches", inPlace := ["internal/bytealg.Compare"], unfollowed := true, recurses := true, plainKeys := false, apart := false }
def BwtMatchesSaid : Prop := bwtMatchesRow.holds Try.pinned (OpenSpec.ofChange bwtMatchesSpec)

/-- ITS FALSE NEIGHBOUR: 'it returns false'. Refute it at one input. -/
def bwtMatchesWrong : ChangeSpec := { name := "bwtMatches", fn := fun _ => fun
  | [d1, d2, d3, d4, d5, d6] => { results := [.lit (.bool false)], args := [d1, d2, d3, d4, d5, d6] }
  | _ => none }
def BwtMatchesWrongFalsely : Prop := bwtMatchesRow.holds Try.pinned (OpenSpec.ofChange bwtMatchesWrong)

/-- 'winepresslaw17.BwtBack': WHATEVER THE INPUT: true; the input reads as it did. -/
def bwtBackSpec : ChangeSpec := { name := "bwtBack", fn := fun _ => fun
  | [d1, d2] => { results := [.lit (.bool true)], args := [d1, d2] }
  | _ => none }
def bwtBackRow : OpenClaim := { program := "ytbldlpljfppmgaa", sum := "a4ddb56501eec7a958b6a3bad07d50475b9436204417a0ca800a5cdc195986ac", func := "winepress/winepresslaw17.BwtBack", spec := "bwtBack", inPlace := ["internal/bytealg.Compare"], unfollowed := true, recurses := true, plainKeys := false, apart := false }
def BwtBackSaid : Prop := bwtBackRow.holds Try.pinned (OpenSpec.ofChange bwtBackSpec)

/-- ITS FALSE NEIGHBOUR: 'it returns false'. Refute it at one input. -/
def bwtBackWrong : ChangeSpec := { name := "bwtBack", fn := fun _ => fun
  | [d1, d2] => { results := [.lit (.bool false)], args := [d1, d2] }
  | _ => none }
def BwtBackWrongFalsely : Prop := bwtBackRow.holds Try.pinned (OpenSpec.ofChange bwtBackWrong)

/-- 'winepresslaw17.BwtOrder': WHATEVER THE INPUT: true; the input reads as it did. -/
def bwtOrderSpec : ChangeSpec := { name := "bwtOrder", fn := fun _ => fun
  | [d1, d2, d3] => { results := [.lit (.bool true)], args := [d1, d2, d3] }
  | _ => none }
def bwtOrderRow : OpenClaim := { program := "ytbldlpljfppmgaa", sum := "a4ddb56501eec7a958b6a3bad07d50475b9436204417a0ca800a5cdc195986ac", func := "winepress/winepresslaw17.BwtOrder", spec := "bwtOrder", inPlace := ["internal/bytealg.Compare"], unfollowed := true, recurses := true, plainKeys := false, apart := false }
def BwtOrderSaid : Prop := bwtOrderRow.holds Try.pinned (OpenSpec.ofChange bwtOrderSpec)

/-- ITS FALSE NEIGHBOUR: 'it returns false'. Refute it at one input. -/
def bwtOrderWrong : ChangeSpec := { name := "bwtOrder", fn := fun _ => fun
  | [d1, d2, d3] => { results := [.lit (.bool false)], args := [d1, d2, d3] }
  | _ => none }
def BwtOrderWrongFalsely : Prop := bwtOrderRow.holds Try.pinned (OpenSpec.ofChange bwtOrderWrong)

/-- 'winepresslaw17.BwtOnly': WHATEVER THE INPUT: true; the input reads as it did. -/
def bwtOnlySpec : ChangeSpec := { name := "bwtOnly", fn := fun _ => fun
  | [d1, d2] => { results := [.lit (.bool true)], args := [d1, d2] }
  | _ => none }
def bwtOnlyRow : OpenClaim := { program := "ytbldlpljfppmgaa", sum := "a4ddb56501eec7a958b6a3bad07d50475b9436204417a0ca800a5cdc195986ac", func := "winepress/winepresslaw17.BwtOnly", spec := "bwtOnly", inPlace := ["internal/bytealg.Compare"], unfollowed := true, recurses := true, plainKeys := false, apart := false }
def BwtOnlySaid : Prop := bwtOnlyRow.holds Try.pinned (OpenSpec.ofChange bwtOnlySpec)

/-- ITS FALSE NEIGHBOUR: 'it returns false'. Refute it at one input. -/
def bwtOnlyWrong : ChangeSpec := { name := "bwtOnly", fn := fun _ => fun
  | [d1, d2] => { results := [.lit (.bool false)], args := [d1, d2] }
  | _ => none }
def BwtOnlyWrongFalsely : Prop := bwtOnlyRow.holds Try.pinned (OpenSpec.ofChange bwtOnlyWrong)

/-- 'winepresslaw17.BwtNext': WHATEVER THE INPUT: true; the input reads as it did. -/
def bwtNextSpec : ChangeSpec := { name := "bwtNext", fn := fun _ => fun
  | [d1, d2] => { results := [.lit (.bool true)], args := [d1, d2] }
  | _ => none }
def bwtNextRow : OpenClaim := { program := "ytbldlpljfppmgaa", sum := "a4ddb56501eec7a958b6a3bad07d50475b9436204417a0ca800a5cdc195986ac", func := "winepress/winepresslaw17.BwtNext", spec := "bwtNext", inPlace := ["internal/bytealg.Compare"], unfollowed := true, recurses := true, plainKeys := false, apart := false }
def BwtNextSaid : Prop := bwtNextRow.holds Try.pinned (OpenSpec.ofChange bwtNextSpec)

/-- ITS FALSE NEIGHBOUR: 'it returns false'. Refute it at one input. -/
def bwtNextWrong : ChangeSpec := { name := "bwtNext", fn := fun _ => fun
  | [d1, d2] => { results := [.lit (.bool false)], args := [d1, d2] }
  | _ => none }
def BwtNextWrongFalsely : Prop := bwtNextRow.holds Try.pinned (OpenSpec.ofChange bwtNextWrong)

/- THE SECOND FORM. 'bulk': how many values and letters a reading holds, each counted each time it is reached (what is shared counts as often as it is met; a slice's spare places count too). A statement '..UptoSaid' is the law's where the arguments, and the package variables that the reading takes, are together of bulk at most 1048576: NARROWER than '..Said'. Prove '..Said' where nothing that the law and all that it calls make is longer than what came in: it says more and counts as full. Else prove '..UptoSaid'. A law counts once. -/
mutual
def uptoBulk {H : Type} : DataW H → Nat
  | .lit (.string bytes) => bytes.length + 1
  | .lit _ => 1
  | .nil => 1
  | .ptr d => uptoBulk d + 1
  | .slice elems spare => uptoBulkAll elems + uptoBulkAll spare + 1
  | .agg parts => uptoBulkAll parts + 1
  | .iface _ d => uptoBulk d + 1
  | .map entries => uptoBulkEntries entries + 1
  | .held _ => 1
def uptoBulkAll {H : Type} : List (DataW H) → Nat
  | [] => 0
  | d :: r => uptoBulk d + uptoBulkAll r
def uptoBulkEntries {H : Type} : List (Lit × DataW H) → Nat
  | [] => 0
  | x :: r => uptoBulkEntry x + uptoBulkEntries r
def uptoBulkEntry {H : Type} : Lit × DataW H → Nat
  | (.string bytes, d) => bytes.length + uptoBulk d + 1
  | (_, d) => uptoBulk d + 1
 end
def uptoSmall : (H : Type) → List (DataW H) → Bool := fun _ ds => decide (uptoBulkAll ds ≤ 1048576)
def OpenSpec.upto (s : _root_.Go.ChangeSpec) : _root_.Go.OpenSpec := { _root_.Go.OpenSpec.ofChange s with cond := some uptoSmall }

/-- 'winepresslaw06.HistogramMatches', WHERE WHAT IT READS IS OF BULK AT MOST 1048576: true; the input reads as it did. -/
def histogramMatchesUptoRow : OpenClaim := { program := "ytbldlpljfppmgaa", sum := "a4ddb56501eec7a958b6a3bad07d50475b9436204417a0ca800a5cdc195986ac", func := "winepress/winepresslaw06.HistogramMatches", spec := "histogramMatches", unfollowed := true, recurses := true, plainKeys := false, apart := false, narrowed := true }
def HistogramMatchesUptoSaid : Prop := histogramMatchesUptoRow.holds Try.pinned (OpenSpec.upto histogramMatchesSpec)

/-- 'winepresslaw06.HistogramOrder', WHERE WHAT IT READS IS OF BULK AT MOST 1048576: true; the input reads as it did. -/
def histogramOrderUptoRow : OpenClaim := { program := "ytbldlpljfppmgaa", sum := "a4ddb56501eec7a958b6a3bad07d50475b9436204417a0ca800a5cdc195986ac", func := "winepress/winepresslaw06.HistogramOrder", spec := "histogramOrder", unfollowed := true, recurses := true, plainKeys := false, apart := false, narrowed := true }
def HistogramOrderUptoSaid : Prop := histogramOrderUptoRow.holds Try.pinned (OpenSpec.upto histogramOrderSpec)

/-- 'winepresslaw06.HistogramRanks', WHERE WHAT IT READS IS OF BULK AT MOST 1048576: true; the input reads as it did. -/
def histogramRanksUptoRow : OpenClaim := { program := "ytbldlpljfppmgaa", sum := "a4ddb56501eec7a958b6a3bad07d50475b9436204417a0ca800a5cdc195986ac", func := "winepress/winepresslaw06.HistogramRanks", spec := "histogramRanks", unfollowed := true, recurses := true, plainKeys := false, apart := false, narrowed := true }
def HistogramRanksUptoSaid : Prop := histogramRanksUptoRow.holds Try.pinned (OpenSpec.upto histogramRanksSpec)

/-- 'winepresslaw06.HistogramMost', WHERE WHAT IT READS IS OF BULK AT MOST 1048576: true; the input reads as it did. -/
def histogramMostUptoRow : OpenClaim := { program := "ytbldlpljfppmgaa", sum := "a4ddb56501eec7a958b6a3bad07d50475b9436204417a0ca800a5cdc195986ac", func := "winepress/winepresslaw06.HistogramMost", spec := "histogramMost", unfollowed := true, recurses := true, plainKeys := false, apart := false, narrowed := true }
def HistogramMostUptoSaid : Prop := histogramMostUptoRow.holds Try.pinned (OpenSpec.upto histogramMostSpec)

/-- 'winepresslaw17.BwtMatches', WHERE WHAT IT READS IS OF BULK AT MOST 1048576: true; the input reads as it did. -/
def bwtMatchesUptoRow : OpenClaim := { program := "ytbldlpljfppmgaa", sum := "a4ddb56501eec7a958b6a3bad07d50475b9436204417a0ca800a5cdc195986ac", func := "winepress/winepresslaw17.BwtMatches", spec := "bwtMatches", inPlace := ["internal/bytealg.Compare"], unfollowed := true, recurses := true, plainKeys := false, apart := false, narrowed := true }
def BwtMatchesUptoSaid : Prop := bwtMatchesUptoRow.holds Try.pinned (OpenSpec.upto bwtMatchesSpec)

/-- 'winepresslaw17.BwtBack', WHERE WHAT IT READS IS OF BULK AT MOST 1048576: true; the input reads as it did. -/
def bwtBackUptoRow : OpenClaim := { program := "ytbldlpljfppmgaa", sum := "a4ddb56501eec7a958b6a3bad07d50475b9436204417a0ca800a5cdc195986ac", func := "winepress/winepresslaw17.BwtBack", spec := "bwtBack", inPlace := ["internal/bytealg.Compare"], unfollowed := true, recurses := true, plainKeys := false, apart := false, narrowed := true }
def BwtBackUptoSaid : Prop := bwtBackUptoRow.holds Try.pinned (OpenSpec.upto bwtBackSpec)

/-- 'winepresslaw17.BwtOrder', WHERE WHAT IT READS IS OF BULK AT MOST 1048576: true; the input reads as it did. -/
def bwtOrderUptoRow : OpenClaim := { program := "ytbldlpljfppmgaa", sum := "a4ddb56501eec7a958b6a3bad07d50475b9436204417a0ca800a5cdc195986ac", func := "winepress/winepresslaw17.BwtOrder", spec := "bwtOrder", inPlace := ["internal/bytealg.Compare"], unfollowed := true, recurses := true, plainKeys := false, apart := false, narrowed := true }
def BwtOrderUptoSaid : Prop := bwtOrderUptoRow.holds Try.pinned (OpenSpec.upto bwtOrderSpec)

/-- 'winepresslaw17.BwtOnly', WHERE WHAT IT READS IS OF BULK AT MOST 1048576: true; the input reads as it did. -/
def bwtOnlyUptoRow : OpenClaim := { program := "ytbldlpljfppmgaa", sum := "a4ddb56501eec7a958b6a3bad07d50475b9436204417a0ca800a5cdc195986ac", func := "winepress/winepresslaw17.BwtOnly", spec := "bwtOnly", inPlace := ["internal/bytealg.Compare"], unfollowed := true, recurses := true, plainKeys := false, apart := false, narrowed := true }
def BwtOnlyUptoSaid : Prop := bwtOnlyUptoRow.holds Try.pinned (OpenSpec.upto bwtOnlySpec)

/-- 'winepresslaw17.BwtNext', WHERE WHAT IT READS IS OF BULK AT MOST 1048576: true; the input reads as it did. -/
def bwtNextUptoRow : OpenClaim := { program := "ytbldlpljfppmgaa", sum := "a4ddb56501eec7a958b6a3bad07d50475b9436204417a0ca800a5cdc195986ac", func := "winepress/winepresslaw17.BwtNext", spec := "bwtNext", inPlace := ["internal/bytealg.Compare"], unfollowed := true, recurses := true, plainKeys := false, apart := false, narrowed := true }
def BwtNextUptoSaid : Prop := bwtNextUptoRow.holds Try.pinned (OpenSpec.upto bwtNextSpec)

end Rows
end Go.Proofs.Ytbldlpljfppmgaa
