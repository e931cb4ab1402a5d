/-
  The statement ScriptLines holds: for all arguments the law returns true and its arguments read as before, with the library's variables as laid. Conditions: none.
-/
import Derived.Test.YtdfalolgngnelaaDoorRows
import Derived.Test.YtdfalolgngnelaaDoorTie
import Derived.Test.YtdfalolgngnelaaDoorCards
import Derived.SevenTiedAt
import Derived.Test.YtdfalolgngnelaaDoorPe
set_option linter.unusedSimpArgs false
set_option linter.unusedVariables false
namespace Go.Proofs.YtdfalolgngnelaaDoor
open Go Go.Vc Go.RowKit Go.ChangeShapes Go.WideShapes Go.Scr
theorem scriptLines_spec {H : Type} (ds : List (DataW H)) (h : ds.length = 4) : Rows.scriptLinesSpec.fn H ds = { results := [.lit (.bool true)], args := ds } := by
  match ds, h with
  | [_, _, _, _], _ => rfl
theorem scriptLines_args {H : Type} {enc : TypeId × Value → H} (W : World) (args : Array Value) (ds : List (DataW H)) (h : ArgL enc Tryd.prog W [9, 9, 3, 9] args.toList) (hw : (DataW.weightsEach Tryd.prog [9, 9, 3, 9] ds).all (· ≤ reachBytes) = true) (hg : Gl W) :
    Cl Tryd.prog [kB] n_law30_ScriptLines args W (fun b w' => b = true ∧ Below W.heap.size W w') := by
  obtain ⟨v0, _, e, a0, v1, _, rfl, a1, v2, _, rfl, a2, v3, _, rfl, a3, rfl⟩ := h
  obtain rfl : args = ⟨[v0, v1, v2, v3]⟩ := by cases args; simp_all
  obtain ⟨x, rfl, _⟩ := a0.string (by kernel_rfl)
  obtain ⟨y, rfl, _⟩ := a1.string (by kernel_rfl)
  obtain ⟨i, rfl, _⟩ := a2.int (k := .i64) (by kernel_rfl)
  obtain ⟨z, rfl, _⟩ := a3.string (by kernel_rfl)
  obtain ⟨x, rfl, hx⟩ := str_every x
  obtain ⟨y, rfl, hy⟩ := str_every y
  obtain ⟨z, rfl, hz⟩ := str_every z
  exact scriptLines_c (Hp.start W) (Gl.old hg) hx hy hz fun w' h' => ⟨rfl, h'.below⟩

set_option maxRecDepth 100000 in
theorem scriptLines_lifted (os : Os) (started : os.Started) (H : Type) (enc : TypeId × Value → H) :
    ReturnsInHanded {} Tryd.checked os 5 .any (fun w args => (Rows.scriptLinesSpec.pre enc Tryd.prog Tryd.f5 [] false w args ∧ laidMetH Tryd.prog Rows.scriptHexRow.laid w) ∧ sizedMet enc Tryd.prog Tryd.f5 (OpenSpec.ofChange Rows.scriptLinesSpec) false w args) (Rows.scriptLinesSpec.post enc Tryd.prog Tryd.f5 false true false false) :=
  law_lift_laid (tb := 4) started (by kernel_rfl) Tryd.func5
    (ChangeSpec.witness_shaped (enc := enc) (C := Tryd.checked) (os := os) (X := fun w _ => laidMetH Tryd.prog Rows.scriptHexRow.laid w) false (World.doorLaid Tryd.prog 62 os) #[.string (ByteArray.mk #[]), .string (ByteArray.mk #[]), .int .i64 0, .string (ByteArray.mk #[])] 8 rfl (World.shaped_of_RefB (by kernel_rfl) (by kernel_rfl)) (by kernel_rfl) (by kernel_rfl) (by kernel_rfl) (door_met os _))
    rfl (by kernel_rfl) (by kernel_rfl) scriptLines_spec (by kernel_rfl) (fun W args ds h hz hg => scriptLines_args W args ds (by rw [Tryd.params5] at h; exact h) (by rw [Tryd.params5] at hz; exact hz) hg)
theorem scriptLines_holds : Rows.ScriptLinesSaid :=
  OpenClaim.holds_of_wide 5 Tryd.f5 rfl rfl rfl rfl rfl rfl rfl ⟨rfl, rfl, rfl, rfl, rfl⟩ rfl rfl rfl rfl rfl (by kernel_rfl) Tryd.func5 (by kernel_rfl)
    (of_decide_eq_true (by kernel_rfl)) (by unfold Func.isWrapper; first | (rw [if_pos (by decide +kernel)]; kernel_rfl) | (rw [if_neg (by decide +kernel)]; exact ⟨rfl, rfl⟩))
    (fun os started H enc _ => scriptLines_lifted os started H enc)
theorem scriptLines_proved : Rows.ScriptLinesCardSaid :=
  Claim7.holds_tied_plain_at .later [] [.data, .data, .data, .sentinel, .sentinel] true (true, "1e9cab63148c6610d9b5ce7a18ac7e0104a661309936e0953e05cded2bacadb0") true
    scriptLines_holds (fun _ h => by cases h) (by kernel_rfl) (fun _ h => by cases h) scriptLines_row_tie rfl ⟨rfl, rfl⟩ (by kernel_rfl) rfl
    (fun f fn hf hfn => by
      obtain rfl : f = 5 := Option.some.inj ((show Tryd.prog.funcNamed "winepress/winepresslaw30.ScriptLines" = some 5 by kernel_rfl).symm.trans hf) |>.symm
      obtain rfl : fn = Tryd.f5 := (Option.some.inj (Tryd.func5.symm.trans hfn)).symm
      exact ⟨by kernel_rfl, fun j t ht => by
        rw [Tryd.params5] at ht
        have hm : t ∈ [9, 9, 3, 9] := by simpa using Array.mem_of_getElem? ht
        have hall : ([9, 9, 3, 9].all fun u => !Tryd.prog.wantsStandIn u) = true := by kernel_rfl
        exact (show Tryd.prog.wantsStandIn t = false by simpa using List.all_eq_true.1 hall t hm)⟩)
    (by kernel_rfl)
end Go.Proofs.YtdfalolgngnelaaDoor
