/-
  No cell of these rows narrows 'for every input' (looked for: loops, veiled, ifaces, maps, wideKeys, modest, calm, conditions, laid).
  DERIVED. THE GIVEN ROWS OF THIS SEAT. 8 by the template 'for every input the law returns true; each argument reads behind the call as it read before'; 0 by the template 'total and deterministic' (their statements: YtgglghjnakclmaaGreatTotals.lean).
  GIVEN WITH THE SEED: the statements are not yours to turn. If you find one false, say at which input.
  Laid BY PROGRAM, IN A SANDBOX (cutbox-rows.mjs): the forced cells as the released guide's own fill.sh prints them over the translation 9e962828443ad4ac… (all of the seat's roots in one cut). By AI agents, Wed Nov 11 2026. No macro, syntax, notation, axiom, sorry.
-/
import Derived.Test.YtgglghjnakclmaaGreatChecked
import GoSem.Claim
import GoSem.ClaimJoined
import GoSem.ClaimMapViews
import Derived.JoinedTies
import Derived.KernelRfl
namespace Go.Proofs.YtgglghjnakclmaaGreat
/- THE CELL 'sum', in the pinned program and in every row, IS THE sha256 OF THE DUMP (.gsa) THAT YtgglghjnakclmaaGreatProg.lean LOADS. Nothing in Lean hashes anything: it is a label: what it is worth is what the hold of that sum in a sandbox is worth. -/
noncomputable def Tryz.pinned : Pinned := { name := "ytgglghjnakclmaagreat", sum := "9e962828443ad4ace82f7b9706c2a7f8de44a8fb8a7c305547f2ad44af2619ba", checked := Tryz.checked }
namespace Rows
def none {H : Type} : Left H := { results := [], args := [] }

/-- 'winepresslaw27.ParserMatches': WHATEVER THE INPUT: true; the input reads as it did. -/
def parserMatchesSpec : ChangeSpec := { name := "parserMatches", fn := fun _ => fun
  | [d1, d2, d3] => { results := [.lit (.bool true)], args := [d1, d2, d3] }
  | _ => none }
def parserMatchesRow : OpenClaim := { program := "ytgglghjnakclmaagreat", sum := "9e962828443ad4ace82f7b9706c2a7f8de44a8fb8a7c305547f2ad44af2619ba", func := "winepress/winepresslaw27.ParserMatches", spec := "parserMatches", inPlace := ["internal/bytealg.MakeNoZero"], unfollowed := true, recurses := true, plainKeys := false, apart := false }
def ParserMatchesSaid : Prop := parserMatchesRow.holds Tryz.pinned (OpenSpec.ofChange parserMatchesSpec)

/-- ITS FALSE NEIGHBOUR: 'it returns false'. Refute it at one input. -/
def parserMatchesWrong : ChangeSpec := { name := "parserMatches", fn := fun _ => fun
  | [d1, d2, d3] => { results := [.lit (.bool false)], args := [d1, d2, d3] }
  | _ => none }
def ParserMatchesWrongFalsely : Prop := parserMatchesRow.holds Tryz.pinned (OpenSpec.ofChange parserMatchesWrong)

/-- 'winepresslaw27.ParserStream': WHATEVER THE INPUT: true; the input reads as it did. -/
def parserStreamSpec : ChangeSpec := { name := "parserStream", fn := fun _ => fun
  | [d1, d2] => { results := [.lit (.bool true)], args := [d1, d2] }
  | _ => none }
def parserStreamRow : OpenClaim := { program := "ytgglghjnakclmaagreat", sum := "9e962828443ad4ace82f7b9706c2a7f8de44a8fb8a7c305547f2ad44af2619ba", func := "winepress/winepresslaw27.ParserStream", spec := "parserStream", inPlace := ["internal/bytealg.MakeNoZero"], unfollowed := true, recurses := true, plainKeys := false, apart := false }
def ParserStreamSaid : Prop := parserStreamRow.holds Tryz.pinned (OpenSpec.ofChange parserStreamSpec)

/-- ITS FALSE NEIGHBOUR: 'it returns false'. Refute it at one input. -/
def parserStreamWrong : ChangeSpec := { name := "parserStream", fn := fun _ => fun
  | [d1, d2] => { results := [.lit (.bool false)], args := [d1, d2] }
  | _ => none }
def ParserStreamWrongFalsely : Prop := parserStreamRow.holds Tryz.pinned (OpenSpec.ofChange parserStreamWrong)

/-- 'winepresslaw28.EncoderMatches': WHATEVER THE INPUT: true; the input reads as it did. -/
def encoderMatchesSpec : ChangeSpec := { name := "encoderMatches", fn := fun _ => fun
  | [d1, d2, d3] => { results := [.lit (.bool true)], args := [d1, d2, d3] }
  | _ => none }
def encoderMatchesRow : OpenClaim := { program := "ytgglghjnakclmaagreat", sum := "9e962828443ad4ace82f7b9706c2a7f8de44a8fb8a7c305547f2ad44af2619ba", func := "winepress/winepresslaw28.EncoderMatches", spec := "encoderMatches", inPlace := ["internal/bytealg.IndexByte"], unfollowed := true, recurses := true, plainKeys := false, apart := false }
def EncoderMatchesSaid : Prop := encoderMatchesRow.holds Tryz.pinned (OpenSpec.ofChange encoderMatchesSpec)

/-- ITS FALSE NEIGHBOUR: 'it returns false'. Refute it at one input. -/
def encoderMatchesWrong : ChangeSpec := { name := "encoderMatches", fn := fun _ => fun
  | [d1, d2, d3] => { results := [.lit (.bool false)], args := [d1, d2, d3] }
  | _ => none }
def EncoderMatchesWrongFalsely : Prop := encoderMatchesRow.holds Tryz.pinned (OpenSpec.ofChange encoderMatchesWrong)

/-- 'winepresslaw28.EncoderSame': WHATEVER THE INPUT: true; the input reads as it did. -/
def encoderSameSpec : ChangeSpec := { name := "encoderSame", fn := fun _ => fun
  | [d1, d2, d3, d4, d5, d6] => { results := [.lit (.bool true)], args := [d1, d2, d3, d4, d5, d6] }
  | _ => none }
def encoderSameRow : OpenClaim := { program := "ytgglghjnakclmaagreat", sum := "9e962828443ad4ace82f7b9706c2a7f8de44a8fb8a7c305547f2ad44af2619ba", func := "winepress/winepresslaw28.EncoderSame", spec := "encoderSame", inPlace := ["internal/bytealg.IndexByte"], unfollowed := true, recurses := true, plainKeys := false, apart := false }
def EncoderSameSaid : Prop := encoderSameRow.holds Tryz.pinned (OpenSpec.ofChange encoderSameSpec)

/-- ITS FALSE NEIGHBOUR: 'it returns false'. Refute it at one input. -/
def encoderSameWrong : ChangeSpec := { name := "encoderSame", fn := fun _ => fun
  | [d1, d2, d3, d4, d5, d6] => { results := [.lit (.bool false)], args := [d1, d2, d3, d4, d5, d6] }
  | _ => none }
def EncoderSameWrongFalsely : Prop := encoderSameRow.holds Tryz.pinned (OpenSpec.ofChange encoderSameWrong)

/-- 'winepresslaw28.EncoderRoom': WHATEVER THE INPUT: true; the input reads as it did. -/
def encoderRoomSpec : ChangeSpec := { name := "encoderRoom", fn := fun _ => fun
  | [d1, d2, d3] => { results := [.lit (.bool true)], args := [d1, d2, d3] }
  | _ => none }
def encoderRoomRow : OpenClaim := { program := "ytgglghjnakclmaagreat", sum := "9e962828443ad4ace82f7b9706c2a7f8de44a8fb8a7c305547f2ad44af2619ba", func := "winepress/winepresslaw28.EncoderRoom", spec := "encoderRoom", inPlace := ["internal/bytealg.IndexByte"], unfollowed := true, recurses := true, plainKeys := false, apart := false }
def EncoderRoomSaid : Prop := encoderRoomRow.holds Tryz.pinned (OpenSpec.ofChange encoderRoomSpec)

/-- ITS FALSE NEIGHBOUR: 'it returns false'. Refute it at one input. -/
def encoderRoomWrong : ChangeSpec := { name := "encoderRoom", fn := fun _ => fun
  | [d1, d2, d3] => { results := [.lit (.bool false)], args := [d1, d2, d3] }
  | _ => none }
def EncoderRoomWrongFalsely : Prop := encoderRoomRow.holds Tryz.pinned (OpenSpec.ofChange encoderRoomWrong)

/-- 'winepresslaw28.EncoderHeld': WHATEVER THE INPUT: true; the input reads as it did. -/
def encoderHeldSpec : ChangeSpec := { name := "encoderHeld", fn := fun _ => fun
  | [d1, d2] => { results := [.lit (.bool true)], args := [d1, d2] }
  | _ => none }
def encoderHeldRow : OpenClaim := { program := "ytgglghjnakclmaagreat", sum := "9e962828443ad4ace82f7b9706c2a7f8de44a8fb8a7c305547f2ad44af2619ba", func := "winepress/winepresslaw28.EncoderHeld", spec := "encoderHeld", inPlace := ["internal/bytealg.IndexByte"], unfollowed := true, recurses := true, plainKeys := false, apart := false }
def EncoderHeldSaid : Prop := encoderHeldRow.holds Tryz.pinned (OpenSpec.ofChange encoderHeldSpec)

/-- ITS FALSE NEIGHBOUR: 'it returns false'. Refute it at one input. -/
def encoderHeldWrong : ChangeSpec := { name := "encoderHeld", fn := fun _ => fun
  | [d1, d2] => { results := [.lit (.bool false)], args := [d1, d2] }
  | _ => none }
def EncoderHeldWrongFalsely : Prop := encoderHeldRow.holds Tryz.pinned (OpenSpec.ofChange encoderHeldWrong)

/-- 'winepresslaw29.DecoderSame': WHATEVER THE INPUT: true; the input reads as it did. -/
def decoderSameSpec : ChangeSpec := { name := "decoderSame", fn := fun _ => fun
  | [d1, d2, d3, d4, d5] => { results := [.lit (.bool true)], args := [d1, d2, d3, d4, d5] }
  | _ => none }
def decoderSameRow : OpenClaim := { program := "ytgglghjnakclmaagreat", sum := "9e962828443ad4ace82f7b9706c2a7f8de44a8fb8a7c305547f2ad44af2619ba", func := "winepress/winepresslaw29.DecoderSame", spec := "decoderSame", inPlace := ["internal/bytealg.MakeNoZero"], unfollowed := true, recurses := true, plainKeys := false, apart := false }
def DecoderSameSaid : Prop := decoderSameRow.holds Tryz.pinned (OpenSpec.ofChange decoderSameSpec)

/-- ITS FALSE NEIGHBOUR: 'it returns false'. Refute it at one input. -/
def decoderSameWrong : ChangeSpec := { name := "decoderSame", fn := fun _ => fun
  | [d1, d2, d3, d4, d5] => { results := [.lit (.bool false)], args := [d1, d2, d3, d4, d5] }
  | _ => none }
def DecoderSameWrongFalsely : Prop := decoderSameRow.holds Tryz.pinned (OpenSpec.ofChange decoderSameWrong)

/-- 'winepresslaw29.DecoderEnds': WHATEVER THE INPUT: true; the input reads as it did. -/
def decoderEndsSpec : ChangeSpec := { name := "decoderEnds", fn := fun _ => fun
  | [d1, d2, d3, d4] => { results := [.lit (.bool true)], args := [d1, d2, d3, d4] }
  | _ => none }
def decoderEndsRow : OpenClaim := { program := "ytgglghjnakclmaagreat", sum := "9e962828443ad4ace82f7b9706c2a7f8de44a8fb8a7c305547f2ad44af2619ba", func := "winepress/winepresslaw29.DecoderEnds", spec := "decoderEnds", inPlace := ["internal/bytealg.MakeNoZero"], unfollowed := true, recurses := true, plainKeys := false, apart := false }
def DecoderEndsSaid : Prop := decoderEndsRow.holds Tryz.pinned (OpenSpec.ofChange decoderEndsSpec)

/-- ITS FALSE NEIGHBOUR: 'it returns false'. Refute it at one input. -/
def decoderEndsWrong : ChangeSpec := { name := "decoderEnds", fn := fun _ => fun
  | [d1, d2, d3, d4] => { results := [.lit (.bool false)], args := [d1, d2, d3, d4] }
  | _ => none }
def DecoderEndsWrongFalsely : Prop := decoderEndsRow.holds Tryz.pinned (OpenSpec.ofChange decoderEndsWrong)

/- THE SECOND FORM. 'bulk': how many values and letters a reading holds, each counted each time it is reached (what is shared counts as often as it is met; a slice's spare places count too). A statement '..UptoSaid' is the law's where the arguments, and the package variables that the reading takes, are together of bulk at most 1048576: NARROWER than '..Said'. Prove '..Said' where nothing that the law and all that it calls make is longer than what came in: it says more and counts as full. Else prove '..UptoSaid'. A law counts once. -/
mutual
def uptoBulk {H : Type} : DataW H → Nat
  | .lit (.string bytes) => bytes.length + 1
  | .lit _ => 1
  | .nil => 1
  | .ptr d => uptoBulk d + 1
  | .slice elems spare => uptoBulkAll elems + uptoBulkAll spare + 1
  | .agg parts => uptoBulkAll parts + 1
  | .iface _ d => uptoBulk d + 1
  | .map entries => uptoBulkEntries entries + 1
  | .held _ => 1
def uptoBulkAll {H : Type} : List (DataW H) → Nat
  | [] => 0
  | d :: r => uptoBulk d + uptoBulkAll r
def uptoBulkEntries {H : Type} : List (Lit × DataW H) → Nat
  | [] => 0
  | x :: r => uptoBulkEntry x + uptoBulkEntries r
def uptoBulkEntry {H : Type} : Lit × DataW H → Nat
  | (.string bytes, d) => bytes.length + uptoBulk d + 1
  | (_, d) => uptoBulk d + 1
 end
def uptoSmall : (H : Type) → List (DataW H) → Bool := fun _ ds => decide (uptoBulkAll ds ≤ 1048576)
def OpenSpec.upto (s : _root_.Go.ChangeSpec) : _root_.Go.OpenSpec := { _root_.Go.OpenSpec.ofChange s with cond := some uptoSmall }

/-- 'winepresslaw27.ParserMatches', WHERE WHAT IT READS IS OF BULK AT MOST 1048576: true; the input reads as it did. -/
def parserMatchesUptoRow : OpenClaim := { program := "ytgglghjnakclmaagreat", sum := "9e962828443ad4ace82f7b9706c2a7f8de44a8fb8a7c305547f2ad44af2619ba", func := "winepress/winepresslaw27.ParserMatches", spec := "parserMatches", inPlace := ["internal/bytealg.MakeNoZero"], unfollowed := true, recurses := true, plainKeys := false, apart := false, narrowed := true }
def ParserMatchesUptoSaid : Prop := parserMatchesUptoRow.holds Tryz.pinned (OpenSpec.upto parserMatchesSpec)

/-- 'winepresslaw27.ParserStream', WHERE WHAT IT READS IS OF BULK AT MOST 1048576: true; the input reads as it did. -/
def parserStreamUptoRow : OpenClaim := { program := "ytgglghjnakclmaagreat", sum := "9e962828443ad4ace82f7b9706c2a7f8de44a8fb8a7c305547f2ad44af2619ba", func := "winepress/winepresslaw27.ParserStream", spec := "parserStream", inPlace := ["internal/bytealg.MakeNoZero"], unfollowed := true, recurses := true, plainKeys := false, apart := false, narrowed := true }
def ParserStreamUptoSaid : Prop := parserStreamUptoRow.holds Tryz.pinned (OpenSpec.upto parserStreamSpec)

/-- 'winepresslaw28.EncoderMatches', WHERE WHAT IT READS IS OF BULK AT MOST 1048576: true; the input reads as it did. -/
def encoderMatchesUptoRow : OpenClaim := { program := "ytgglghjnakclmaagreat", sum := "9e962828443ad4ace82f7b9706c2a7f8de44a8fb8a7c305547f2ad44af2619ba", func := "winepress/winepresslaw28.EncoderMatches", spec := "encoderMatches", inPlace := ["internal/bytealg.IndexByte"], unfollowed := true, recurses := true, plainKeys := false, apart := false, narrowed := true }
def EncoderMatchesUptoSaid : Prop := encoderMatchesUptoRow.holds Tryz.pinned (OpenSpec.upto encoderMatchesSpec)

/-- 'winepresslaw28.EncoderSame', WHERE WHAT IT READS IS OF BULK AT MOST 1048576: true; the input reads as it did. -/
def encoderSameUptoRow : OpenClaim := { program := "ytgglghjnakclmaagreat", sum := "9e962828443ad4ace82f7b9706c2a7f8de44a8fb8a7c305547f2ad44af2619ba", func := "winepress/winepresslaw28.EncoderSame", spec := "encoderSame", inPlace := ["internal/bytealg.IndexByte"], unfollowed := true, recurses := true, plainKeys := false, apart := false, narrowed := true }
def EncoderSameUptoSaid : Prop := encoderSameUptoRow.holds Tryz.pinned (OpenSpec.upto encoderSameSpec)

/-- 'winepresslaw28.EncoderRoom', WHERE WHAT IT READS IS OF BULK AT MOST 1048576: true; the input reads as it did. -/
def encoderRoomUptoRow : OpenClaim := { program := "ytgglghjnakclmaagreat", sum := "9e962828443ad4ace82f7b9706c2a7f8de44a8fb8a7c305547f2ad44af2619ba", func := "winepress/winepresslaw28.EncoderRoom", spec := "encoderRoom", inPlace := ["internal/bytealg.IndexByte"], unfollowed := true, recurses := true, plainKeys := false, apart := false, narrowed := true }
def EncoderRoomUptoSaid : Prop := encoderRoomUptoRow.holds Tryz.pinned (OpenSpec.upto encoderRoomSpec)

/-- 'winepresslaw28.EncoderHeld', WHERE WHAT IT READS IS OF BULK AT MOST 1048576: true; the input reads as it did. -/
def encoderHeldUptoRow : OpenClaim := { program := "ytgglghjnakclmaagreat", sum := "9e962828443ad4ace82f7b9706c2a7f8de44a8fb8a7c305547f2ad44af2619ba", func := "winepress/winepresslaw28.EncoderHeld", spec := "encoderHeld", inPlace := ["internal/bytealg.IndexByte"], unfollowed := true, recurses := true, plainKeys := false, apart := false, narrowed := true }
def EncoderHeldUptoSaid : Prop := encoderHeldUptoRow.holds Tryz.pinned (OpenSpec.upto encoderHeldSpec)

/-- 'winepresslaw29.DecoderSame', WHERE WHAT IT READS IS OF BULK AT MOST 1048576: true; the input reads as it did. -/
def decoderSameUptoRow : OpenClaim := { program := "ytgglghjnakclmaagreat", sum := "9e962828443ad4ace82f7b9706c2a7f8de44a8fb8a7c305547f2ad44af2619ba", func := "winepress/winepresslaw29.DecoderSame", spec := "decoderSame", inPlace := ["internal/bytealg.MakeNoZero"], unfollowed := true, recurses := true, plainKeys := false, apart := false, narrowed := true }
def DecoderSameUptoSaid : Prop := decoderSameUptoRow.holds Tryz.pinned (OpenSpec.upto decoderSameSpec)

/-- 'winepresslaw29.DecoderEnds', WHERE WHAT IT READS IS OF BULK AT MOST 1048576: true; the input reads as it did. -/
def decoderEndsUptoRow : OpenClaim := { program := "ytgglghjnakclmaagreat", sum := "9e962828443ad4ace82f7b9706c2a7f8de44a8fb8a7c305547f2ad44af2619ba", func := "winepress/winepresslaw29.DecoderEnds", spec := "decoderEnds", inPlace := ["internal/bytealg.MakeNoZero"], unfollowed := true, recurses := true, plainKeys := false, apart := false, narrowed := true }
def DecoderEndsUptoSaid : Prop := decoderEndsUptoRow.holds Tryz.pinned (OpenSpec.upto decoderEndsSpec)

end Rows
end Go.Proofs.YtgglghjnakclmaaGreat
