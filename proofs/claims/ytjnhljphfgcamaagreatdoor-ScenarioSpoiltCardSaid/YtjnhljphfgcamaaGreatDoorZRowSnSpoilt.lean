/-
  The statement ScenarioSpoilt holds: for all arguments the law returns true and its arguments read as before, with the library's variables as laid. Conditions: none.
-/
import Derived.Test.YtjnhljphfgcamaaGreatDoorRows
import Derived.Test.YtjnhljphfgcamaaGreatDoorTie
import Derived.Test.YtjnhljphfgcamaaGreatDoorCards
import Derived.SevenTiedAt
import Derived.Test.YtjnhljphfgcamaaGreatDoorQpf
set_option linter.unusedSimpArgs false
set_option linter.unusedVariables false
set_option maxRecDepth 20000
namespace Go.Proofs.YtjnhljphfgcamaaGreatDoor
open Go.Proofs.Q9 Go Go.Vc Go.RowKit Go.ChangeShapes Go.WideShapes Go.Scr
theorem wK {H : Type} (ds : List (DataW H)) (h : ds.length = 1) : Rows.scenarioSpoiltSpec.fn H ds = { results := [.lit (.bool true)], args := ds } := by
  match ds, h with
  | [_], _ => rfl
theorem wW {H : Type} {enc : TypeId × Value → H} (W : World) (args : Array Value) (ds : List (DataW H)) (h : PT enc Tryz.prog W [27] args.toList) (hw : (DataW.weightsEach Tryz.prog [27] ds).all (· ≤ reachBytes) = true) (hg : Gl W) :
    Cl Tryz.prog [kB] 3 args W (fun b w' => b = true ∧ Below W.heap.size W w') := by
  obtain ⟨v0, _, e, a0, rfl⟩ := h
  obtain rfl : args = ⟨[v0]⟩ := by cases args; simp_all
  obtain ⟨s, ds, sd, ss, sb, sc, rfl, hgood, hcap, hr⟩ := abI a0
  exact Bz (Hp.start W) (Gl.FK hg) (hr []) hgood hcap fun w' h' => ⟨rfl, h'.below⟩
theorem zD : (Rows.scenarioSpoiltRow.inPlace == Tryz.prog.inPlace 3) = true := by kernel_rfl
theorem pv : (Rows.scenarioSpoiltRow.unfollowed == Tryz.prog.unfollowed 3) = true := by kernel_rfl
theorem zI : (Rows.scenarioSpoiltRow.named == Tryz.prog.varsNamed 3) = true := by kernel_rfl
theorem tv : joinedFacts Tryz.prog 3 Tryz.f3 Rows.scenarioSpoiltSpec Rows.scenarioSpoiltRow = true := by
  unfold joinedFacts
  exact eS (eS (eS (eS (eS (eS (eS (eS (eS (eS (eS (eS (eS (eS (eS (eS (eS (eS (eS (eS (eS (eS (eS (eS (eS (eS (eS (eS (eS (eS (eS (by kernel_rfl) laidOut) ac5) (by kernel_rfl)) (by kernel_rfl)) (by kernel_rfl)) (by kernel_rfl)) (by kernel_rfl)) (by kernel_rfl)) zD) pv) (aes pv)) zI) (by kernel_rfl)) (by kernel_rfl)) (by kernel_rfl)) (by kernel_rfl)) (by kernel_rfl)) (by kernel_rfl)) (by kernel_rfl)) (by kernel_rfl)) (by kernel_rfl)) abW) (by kernel_rfl)) Ut) Uy) US) ab7) (by kernel_rfl)) (by kernel_rfl)) (by kernel_rfl)) (by kernel_rfl)
set_option maxRecDepth 100000 in
theorem tI (os : Os) (started : os.Started) (H : Type) (enc : TypeId × Value → H) :
    ReturnsInHanded {} Tryz.checked os 3 .any (fun w args => (Rows.scenarioSpoiltSpec.pre enc Tryz.prog Tryz.f3 [] false w args ∧ laidMetH Tryz.prog Rows.scenarioSpoiltRow.laid w) ∧ sizedMet enc Tryz.prog Tryz.f3 (OpenSpec.ofChange Rows.scenarioSpoiltSpec) false w args) (Rows.scenarioSpoiltSpec.post enc Tryz.prog Tryz.f3 false true false false) :=
  GS (tb := 4) started (by kernel_rfl) Tryz.func3
    (ChangeSpec.witness_shaped (enc := enc) (C := Tryz.checked) (os := os) (X := fun w _ => laidMetH Tryz.prog Rows.scenarioSpoiltRow.laid w) false (World.doorLaid Tryz.prog 62 os) #[.agg ⟨[.int .i64 0, .int .i64 0, .slice none 0 0, .slice none 0 0, .int .i64 0, .slice none 0 0, .int .i64 0, .slice none 0 0]⟩] 8 rfl (KY os _) (by kernel_rfl) (by kernel_rfl) (by kernel_rfl) (V2 os _))
    rfl (by kernel_rfl) (by kernel_rfl) wK (by kernel_rfl) (fun W args ds h hz hg => wW W args ds (by rw [Tryz.params3] at h; exact h) (by rw [Tryz.params3] at hz; exact hz) hg)
theorem uk : Rows.ScenarioSpoiltSaid :=
  OpenClaim.holds_of_wide 3 Tryz.f3 rfl rfl rfl rfl rfl rfl rfl ⟨rfl, rfl, rfl, rfl, rfl⟩ rfl rfl rfl rfl rfl (by kernel_rfl) Tryz.func3 tv
    (of_decide_eq_true (by kernel_rfl)) (by unfold Func.isWrapper; first | (rw [if_pos (by decide +kernel)]; kernel_rfl) | (rw [if_neg (by decide +kernel)]; exact ⟨rfl, rfl⟩))
    (fun os started H enc _ => tI os started H enc)
theorem scenarioSpoilt_proved : Rows.ScenarioSpoiltCardSaid :=
  Claim7.holds_tied_plain_at .later [] _ _ _ _
    uk (fun _ h => by cases h) (by kernel_rfl) (fun _ h => by cases h) scenarioSpoilt_row_tie rfl ⟨rfl, rfl⟩ adt rfl
    (fun f fn hf hfn => by
      obtain rfl : f = 3 := Option.some.inj ((show Tryz.prog.funcNamed "winepress/winepresslaw31.ScenarioSpoilt" = some 3 by kernel_rfl).symm.trans hf) |>.symm
      obtain rfl : fn = Tryz.f3 := (Option.some.inj (Tryz.func3.symm.trans hfn)).symm
      exact ⟨VR, fun j t ht => by
        rw [Tryz.params3] at ht
        have hm : t ∈ [27] := by simpa using Array.mem_of_getElem? ht
        have hall : ([27].all fun u => !Tryz.prog.wantsStandIn u) = true := by kernel_rfl
        exact (show Tryz.prog.wantsStandIn t = false by simpa using List.all_eq_true.1 hall t hm)⟩)
    (abS rfl)
end Go.Proofs.YtjnhljphfgcamaaGreatDoor
