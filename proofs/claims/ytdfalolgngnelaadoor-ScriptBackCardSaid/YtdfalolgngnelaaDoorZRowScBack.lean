/-
  The statement ScriptBack holds: for all arguments the law returns true and its arguments read as before, with the library's variables as laid. Conditions: none.
-/
import Derived.Test.YtdfalolgngnelaaDoorRows
import Derived.Test.YtdfalolgngnelaaDoorTie
import Derived.Test.YtdfalolgngnelaaDoorCards
import Derived.SevenTiedAt
import Derived.Test.YtdfalolgngnelaaDoorPe
set_option linter.unusedSimpArgs false
set_option linter.unusedVariables false
namespace Go.Proofs.YtdfalolgngnelaaDoor
open Go Go.Vc Go.RowKit Go.ChangeShapes Go.WideShapes Go.Scr
theorem scriptBack_spec {H : Type} (ds : List (DataW H)) (h : ds.length = 2) : Rows.scriptBackSpec.fn H ds = { results := [.lit (.bool true)], args := ds } := by
  match ds, h with
  | [_, _], _ => rfl
theorem scriptBack_args {H : Type} {enc : TypeId × Value → H} (W : World) (args : Array Value) (ds : List (DataW H)) (h : ArgL enc Tryd.prog W [27, 3] args.toList) (hw : (DataW.weightsEach Tryd.prog [27, 3] ds).all (· ≤ reachBytes) = true) (hg : Gl W) :
    Cl Tryd.prog [kB] n_law30_ScriptBack args W (fun b w' => b = true ∧ Below W.heap.size W w') := by
  obtain ⟨v0, _, e, a0, v1, _, rfl, a1, rfl⟩ := h
  obtain rfl : args = ⟨[v0, v1]⟩ := by cases args; simp_all
  obtain ⟨s, ds, sd, ss, sb, sc, rfl, hgood, hr⟩ := scn_arg a0
  obtain ⟨i, rfl, hi⟩ := a1.int (k := .i64) (by kernel_rfl)
  exact scriptBack_c (Hp.start W) (Gl.old hg) (hr []) hgood fun w' h' => ⟨rfl, h'.below⟩

set_option maxRecDepth 100000 in
theorem scriptBack_lifted (os : Os) (started : os.Started) (H : Type) (enc : TypeId × Value → H) :
    ReturnsInHanded {} Tryd.checked os 4 .any (fun w args => (Rows.scriptBackSpec.pre enc Tryd.prog Tryd.f4 [] false w args ∧ laidMetH Tryd.prog Rows.scriptHexRow.laid w) ∧ sizedMet enc Tryd.prog Tryd.f4 (OpenSpec.ofChange Rows.scriptBackSpec) false w args) (Rows.scriptBackSpec.post enc Tryd.prog Tryd.f4 false true false false) :=
  law_lift_laid (tb := 4) started (by kernel_rfl) Tryd.func4
    (ChangeSpec.witness_shaped (enc := enc) (C := Tryd.checked) (os := os) (X := fun w _ => laidMetH Tryd.prog Rows.scriptHexRow.laid w) false (World.doorLaid Tryd.prog 62 os) #[.agg ⟨zS⟩, .int .i64 0] 8 rfl (World.shaped_of_RefB (by kernel_rfl) (by kernel_rfl)) (by kernel_rfl) (by kernel_rfl) (by kernel_rfl) (door_met os _))
    rfl (by kernel_rfl) (by kernel_rfl) scriptBack_spec (by kernel_rfl) (fun W args ds h hz hg => scriptBack_args W args ds (by rw [Tryd.params4] at h; exact h) (by rw [Tryd.params4] at hz; exact hz) hg)
theorem scriptBack_holds : Rows.ScriptBackSaid :=
  OpenClaim.holds_of_wide 4 Tryd.f4 rfl rfl rfl rfl rfl rfl rfl ⟨rfl, rfl, rfl, rfl, rfl⟩ rfl rfl rfl rfl rfl (by kernel_rfl) Tryd.func4 (by kernel_rfl)
    (of_decide_eq_true (by kernel_rfl)) (by unfold Func.isWrapper; first | (rw [if_pos (by decide +kernel)]; kernel_rfl) | (rw [if_neg (by decide +kernel)]; exact ⟨rfl, rfl⟩))
    (fun os started H enc _ => scriptBack_lifted os started H enc)
theorem scriptBack_proved : Rows.ScriptBackCardSaid :=
  Claim7.holds_tied_plain_at .later [] [.data, .data, .data, .sentinel, .sentinel] true (true, "1e9cab63148c6610d9b5ce7a18ac7e0104a661309936e0953e05cded2bacadb0") true
    scriptBack_holds (fun _ h => by cases h) (by kernel_rfl) (fun _ h => by cases h) scriptBack_row_tie rfl ⟨rfl, rfl⟩ (by kernel_rfl) rfl
    (fun f fn hf hfn => by
      obtain rfl : f = 4 := Option.some.inj ((show Tryd.prog.funcNamed "winepress/winepresslaw30.ScriptBack" = some 4 by kernel_rfl).symm.trans hf) |>.symm
      obtain rfl : fn = Tryd.f4 := (Option.some.inj (Tryd.func4.symm.trans hfn)).symm
      exact ⟨by kernel_rfl, fun j t ht => by
        rw [Tryd.params4] at ht
        have hm : t ∈ [27, 3] := by simpa using Array.mem_of_getElem? ht
        have hall : ([27, 3].all fun u => !Tryd.prog.wantsStandIn u) = true := by kernel_rfl
        exact (show Tryd.prog.wantsStandIn t = false by simpa using List.all_eq_true.1 hall t hm)⟩)
    (by kernel_rfl)
end Go.Proofs.YtdfalolgngnelaaDoor
