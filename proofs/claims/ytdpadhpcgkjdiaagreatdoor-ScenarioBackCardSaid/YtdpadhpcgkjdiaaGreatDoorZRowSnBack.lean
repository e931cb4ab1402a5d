/-
  The statement ScenarioBack holds: for all arguments the law returns true and its arguments read as before, with the library's variables as laid. Conditions: none.
-/
import Derived.Test.YtdpadhpcgkjdiaaGreatDoorRows
import Derived.Test.YtdpadhpcgkjdiaaGreatDoorTie
import Derived.Test.YtdpadhpcgkjdiaaGreatDoorCards
import Derived.SevenTiedAt
import Derived.Test.YtdpadhpcgkjdiaaGreatDoorQsf
set_option linter.unusedSimpArgs false
set_option linter.unusedVariables false
set_option maxRecDepth 20000
namespace Go.Proofs.YtdpadhpcgkjdiaaGreatDoor
open Go.Proofs.Q9 Go Go.Vc Go.RowKit Go.ChangeShapes Go.WideShapes Go.Scr
theorem yl {H : Type} (ds : List (DataW H)) (h : ds.length = 1) : Rows.scenarioBackSpec.fn H ds = { results := [.lit (.bool true)], args := ds } := by
  match ds, h with
  | [_], _ => rfl
theorem yi {H : Type} {enc : TypeId × Value → H} (W : World) (args : Array Value) (ds : List (DataW H)) (h : MZ enc Tryz.prog W [27] args.toList) (hw : (DataW.weightsEach Tryz.prog [27] ds).all (· ≤ reachBytes) = true) (hg : Gl W) :
    Cl Tryz.prog [kB] 3 args W (fun b w' => b = true ∧ Below W.heap.size W w') := by
  obtain ⟨v0, _, e, a0, rfl⟩ := h
  obtain rfl : args = ⟨[v0]⟩ := by cases args; simp_all
  obtain ⟨s, ds, sd, ss, sb, sc, rfl, hgood, hcap, hr⟩ := V9 a0
  exact Dj (Hp.start W) (Gl.Ed hg) (hr []) hgood hcap fun w' h' => ⟨rfl, h'.below⟩
theorem AB : (Rows.scenarioBackRow.inPlace == Tryz.prog.inPlace 3) = true := by kernel_rfl
theorem ql : (Rows.scenarioBackRow.unfollowed == Tryz.prog.unfollowed 3) = true := by kernel_rfl
theorem AN : (Rows.scenarioBackRow.named == Tryz.prog.varsNamed 3) = true := by kernel_rfl
theorem vw : joinedFacts Tryz.prog 3 Tryz.f3 Rows.scenarioBackSpec Rows.scenarioBackRow = true := by
  unfold joinedFacts
  exact dP (dP (dP (dP (dP (dP (dP (dP (dP (dP (dP (dP (dP (dP (dP (dP (dP (dP (dP (dP (dP (dP (dP (dP (dP (dP (dP (dP (dP (dP (dP (by kernel_rfl) laidOut) UW) (by kernel_rfl)) (by kernel_rfl)) (by kernel_rfl)) (by kernel_rfl)) (by kernel_rfl)) (by kernel_rfl)) AB) ql) (abW ql)) AN) (by kernel_rfl)) (by kernel_rfl)) (by kernel_rfl)) (by kernel_rfl)) (by kernel_rfl)) (by kernel_rfl)) (by kernel_rfl)) (by kernel_rfl)) (by kernel_rfl)) Ww) (by kernel_rfl)) Ts) QN) RW) UR) (by kernel_rfl)) (by kernel_rfl)) (by kernel_rfl)) (by kernel_rfl)
set_option maxRecDepth 100000 in
theorem vu (os : Os) (started : os.Started) (H : Type) (enc : TypeId × Value → H) :
    ReturnsInHanded {} Tryz.checked os 3 .any (fun w args => (Rows.scenarioBackSpec.pre enc Tryz.prog Tryz.f3 [] false w args ∧ laidMetH Tryz.prog Rows.scenarioBackRow.laid w) ∧ sizedMet enc Tryz.prog Tryz.f3 (OpenSpec.ofChange Rows.scenarioBackSpec) false w args) (Rows.scenarioBackSpec.post enc Tryz.prog Tryz.f3 false true false false) :=
  EZ (tb := 4) started (by kernel_rfl) Tryz.func3
    (ChangeSpec.witness_shaped (enc := enc) (C := Tryz.checked) (os := os) (X := fun w _ => laidMetH Tryz.prog Rows.scenarioBackRow.laid w) false (World.doorLaid Tryz.prog 62 os) #[.agg ⟨[.int .i64 0, .int .i64 0, .slice none 0 0, .slice none 0 0, .int .i64 0, .slice none 0 0, .int .i64 0, .slice none 0 0]⟩] 8 rfl (Jd os _) (by kernel_rfl) (by kernel_rfl) (by kernel_rfl) (Sb os _))
    rfl (by kernel_rfl) (by kernel_rfl) yl (by kernel_rfl) (fun W args ds h hz hg => yi W args ds (by rw [Tryz.params3] at h; exact h) (by rw [Tryz.params3] at hz; exact hz) hg)
theorem xj : Rows.ScenarioBackSaid :=
  OpenClaim.holds_of_wide 3 Tryz.f3 rfl rfl rfl rfl rfl rfl rfl ⟨rfl, rfl, rfl, rfl, rfl⟩ rfl rfl rfl rfl rfl (by kernel_rfl) Tryz.func3 vw
    (of_decide_eq_true (by kernel_rfl)) (by unfold Func.isWrapper; first | (rw [if_pos (by decide +kernel)]; kernel_rfl) | (rw [if_neg (by decide +kernel)]; exact ⟨rfl, rfl⟩))
    (fun os started H enc _ => vu os started H enc)
theorem scenarioBack_proved : Rows.ScenarioBackCardSaid :=
  Claim7.holds_tied_plain_at .later [] _ _ _ _
    xj (fun _ h => by cases h) (by kernel_rfl) (fun _ h => by cases h) scenarioBack_row_tie rfl ⟨rfl, rfl⟩ Uo rfl
    (fun f fn hf hfn => by
      obtain rfl : f = 3 := Option.some.inj ((show Tryz.prog.funcNamed "winepress/winepresslaw31.ScenarioBack" = some 3 by kernel_rfl).symm.trans hf) |>.symm
      obtain rfl : fn = Tryz.f3 := (Option.some.inj (Tryz.func3.symm.trans hfn)).symm
      exact ⟨SH, fun j t ht => by
        rw [Tryz.params3] at ht
        have hm : t ∈ [27] := by simpa using Array.mem_of_getElem? ht
        have hall : ([27].all fun u => !Tryz.prog.wantsStandIn u) = true := by kernel_rfl
        exact (show Tryz.prog.wantsStandIn t = false by simpa using List.all_eq_true.1 hall t hm)⟩)
    (VK rfl)
end Go.Proofs.YtdpadhpcgkjdiaaGreatDoor
