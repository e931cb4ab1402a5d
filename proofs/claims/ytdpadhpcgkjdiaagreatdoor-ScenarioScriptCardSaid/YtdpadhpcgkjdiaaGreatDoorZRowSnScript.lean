/-
  The statement ScenarioScript holds: for all arguments the law returns true and its arguments read as before, with the library's variables as laid. Conditions: none.
-/
import Derived.Test.YtdpadhpcgkjdiaaGreatDoorRows
import Derived.Test.YtdpadhpcgkjdiaaGreatDoorTie
import Derived.Test.YtdpadhpcgkjdiaaGreatDoorCards
import Derived.SevenTiedAt
import Derived.Test.YtdpadhpcgkjdiaaGreatDoorQwf
set_option linter.unusedSimpArgs false
set_option linter.unusedVariables false
set_option maxRecDepth 20000
namespace Go.Proofs.YtdpadhpcgkjdiaaGreatDoor
open Go.Proofs.Q9 Go Go.Vc Go.RowKit Go.ChangeShapes Go.WideShapes Go.Scr
theorem wc {H : Type} (ds : List (DataW H)) (h : ds.length = 2) : Rows.scenarioScriptSpec.fn H ds = { results := [.lit (.bool true)], args := ds } := by
  match ds, h with
  | [_, _], _ => rfl
theorem wa {H : Type} {enc : TypeId × Value → H} (W : World) (args : Array Value) (ds : List (DataW H)) (h : Nh enc Tryz.prog W [27, 3] args.toList) (hw : (DataW.weightsEach Tryz.prog [27, 3] ds).all (· ≤ reachBytes) = true) (hg : Gl W) :
    Cl Tryz.prog [kB] 6 args W (fun b w' => b = true ∧ Below W.heap.size W w') := by
  obtain ⟨v0, _, e, a0, v1, _, rfl, a1, rfl⟩ := h
  obtain rfl : args = ⟨[v0, v1]⟩ := by cases args; simp_all
  obtain ⟨s, ds, sd, ss, sb, sc, rfl, hgood, hcap, hr⟩ := VD a0
  obtain ⟨i, rfl, hi⟩ := a1.int (k := .i64) (by kernel_rfl)
  exact Aq (Hp.start W) (Gl.Fh hg) (hr []) hgood hcap fun w' h' => ⟨rfl, h'.below⟩
theorem yS : (Rows.scenarioScriptRow.inPlace == Tryz.prog.inPlace 6) = true := by kernel_rfl
theorem oG : (Rows.scenarioScriptRow.unfollowed == Tryz.prog.unfollowed 6) = true := by kernel_rfl
theorem yN : (Rows.scenarioScriptRow.named == Tryz.prog.varsNamed 6) = true := by kernel_rfl
theorem sr : joinedFacts Tryz.prog 6 Tryz.f6 Rows.scenarioScriptSpec Rows.scenarioScriptRow = true := by
  unfold joinedFacts
  exact ec (ec (ec (ec (ec (ec (ec (ec (ec (ec (ec (ec (ec (ec (ec (ec (ec (ec (ec (ec (ec (ec (ec (ec (ec (ec (ec (ec (ec (ec (ec (by kernel_rfl) laidOut) WV) (by kernel_rfl)) (by kernel_rfl)) (by kernel_rfl)) (by kernel_rfl)) (by kernel_rfl)) (by kernel_rfl)) yS) oG) (ab5 oG)) yN) (by kernel_rfl)) (by kernel_rfl)) (by kernel_rfl)) (by kernel_rfl)) (by kernel_rfl)) (by kernel_rfl)) (by kernel_rfl)) (by kernel_rfl)) (by kernel_rfl)) Wx) (by kernel_rfl)) Sf) Sw) S8) We) (by kernel_rfl)) (by kernel_rfl)) (by kernel_rfl)) (by kernel_rfl)
set_option maxRecDepth 100000 in
theorem sg (os : Os) (started : os.Started) (H : Type) (enc : TypeId × Value → H) :
    ReturnsInHanded {} Tryz.checked os 6 .any (fun w args => (Rows.scenarioScriptSpec.pre enc Tryz.prog Tryz.f6 [] false w args ∧ laidMetH Tryz.prog Rows.scenarioBackRow.laid w) ∧ sizedMet enc Tryz.prog Tryz.f6 (OpenSpec.ofChange Rows.scenarioScriptSpec) false w args) (Rows.scenarioScriptSpec.post enc Tryz.prog Tryz.f6 false true false false) :=
  FL (tb := 4) started (by kernel_rfl) Tryz.func6
    (ChangeSpec.witness_shaped (enc := enc) (C := Tryz.checked) (os := os) (X := fun w _ => laidMetH Tryz.prog Rows.scenarioBackRow.laid w) false (World.doorLaid Tryz.prog 62 os) #[.agg ⟨[.int .i64 0, .int .i64 0, .slice none 0 0, .slice none 0 0, .int .i64 0, .slice none 0 0, .int .i64 0, .slice none 0 0]⟩, .int .i64 0] 8 rfl (KV os _) (by kernel_rfl) (by kernel_rfl) (by kernel_rfl) (RN os _))
    rfl (by kernel_rfl) (by kernel_rfl) wc (by kernel_rfl) (fun W args ds h hz hg => wa W args ds (by rw [Tryz.params6] at h; exact h) (by rw [Tryz.params6] at hz; exact hz) hg)
theorem uN : Rows.ScenarioScriptSaid :=
  OpenClaim.holds_of_wide 6 Tryz.f6 rfl rfl rfl rfl rfl rfl rfl ⟨rfl, rfl, rfl, rfl, rfl⟩ rfl rfl rfl rfl rfl (by kernel_rfl) Tryz.func6 sr
    (of_decide_eq_true (by kernel_rfl)) (by unfold Func.isWrapper; first | (rw [if_pos (by decide +kernel)]; kernel_rfl) | (rw [if_neg (by decide +kernel)]; exact ⟨rfl, rfl⟩))
    (fun os started H enc _ => sg os started H enc)
theorem scenarioScript_proved : Rows.ScenarioScriptCardSaid :=
  Claim7.holds_tied_plain_at .later [] _ _ _ _
    uN (fun _ h => by cases h) (by kernel_rfl) (fun _ h => by cases h) scenarioScript_row_tie rfl ⟨rfl, rfl⟩ W6 rfl
    (fun f fn hf hfn => by
      obtain rfl : f = 6 := Option.some.inj ((show Tryz.prog.funcNamed "winepress/winepresslaw31.ScenarioScript" = some 6 by kernel_rfl).symm.trans hf) |>.symm
      obtain rfl : fn = Tryz.f6 := (Option.some.inj (Tryz.func6.symm.trans hfn)).symm
      exact ⟨Ui, fun j t ht => by
        rw [Tryz.params6] at ht
        have hm : t ∈ [27, 3] := by simpa using Array.mem_of_getElem? ht
        have hall : ([27, 3].all fun u => !Tryz.prog.wantsStandIn u) = true := by kernel_rfl
        exact (show Tryz.prog.wantsStandIn t = false by simpa using List.all_eq_true.1 hall t hm)⟩)
    (VJ rfl)
end Go.Proofs.YtdpadhpcgkjdiaaGreatDoor
