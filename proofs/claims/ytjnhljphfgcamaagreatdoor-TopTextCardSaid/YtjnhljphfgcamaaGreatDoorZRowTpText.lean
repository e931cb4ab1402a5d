/-
  The statement TopText holds: for all arguments the law returns true and its arguments read as before, with the library's variables as laid. Conditions: none.
-/
import Derived.Test.YtjnhljphfgcamaaGreatDoorRows
import Derived.Test.YtjnhljphfgcamaaGreatDoorTie
import Derived.Test.YtjnhljphfgcamaaGreatDoorCards
import Derived.SevenTiedAt
import Derived.Test.YtjnhljphfgcamaaGreatDoorQrf
set_option linter.unusedSimpArgs false
set_option linter.unusedVariables false
set_option maxRecDepth 20000
namespace Go.Proofs.YtjnhljphfgcamaaGreatDoor
open Go.Proofs.Q9 Go Go.Vc Go.RowKit Go.ChangeShapes Go.WideShapes Go.Scr
theorem Jj {H : Type} (ds : List (DataW H)) (h : ds.length = 2) : Rows.topTextSpec.fn H ds = { results := [.lit (.bool true)], args := ds } := by
  match ds, h with
  | [_, _], _ => rfl
theorem IF {H : Type} {enc : TypeId × Value → H} (W : World) (args : Array Value) (ds : List (DataW H)) (h : Qd enc Tryz.prog W [9, 3] args.toList) (hw : (DataW.weightsEach Tryz.prog [9, 3] ds).all (· ≤ reachBytes) = true) (hg : Gl W) :
    Cl Tryz.prog [kB] 4 args W (fun b w' => b = true ∧ Below W.heap.size W w') := by
  obtain ⟨v0, _, e, a0, v1, _, rfl, a1, rfl⟩ := h
  obtain rfl : args = ⟨[v0, v1]⟩ := by cases args; simp_all
  obtain ⟨x, rfl, _⟩ := a0.string (by kernel_rfl)
  obtain ⟨i, rfl, _⟩ := a1.int (k := .i64) (by kernel_rfl)
  obtain ⟨x, rfl, hx⟩ := QC x
  exact Q7 (Hp.start W) (Gl.FM hg) hx fun w' h' => ⟨rfl, h'.below⟩
theorem O7 : (Rows.topTextRow.inPlace == Tryz.prog.inPlace 4) = true := by kernel_rfl
theorem Ct : (Rows.topTextRow.unfollowed == Tryz.prog.unfollowed 4) = true := by kernel_rfl
theorem OO : (Rows.topTextRow.named == Tryz.prog.varsNamed 4) = true := by kernel_rfl
theorem E4 : joinedFacts Tryz.prog 4 Tryz.f4 Rows.topTextSpec Rows.topTextRow = true := by
  unfold joinedFacts
  exact eP (eP (eP (eP (eP (eP (eP (eP (eP (eP (eP (eP (eP (eP (eP (eP (eP (eP (eP (eP (eP (eP (eP (eP (eP (eP (eP (eP (eP (eP (eP (by kernel_rfl) laidOut) acD) (by kernel_rfl)) (by kernel_rfl)) (by kernel_rfl)) (by kernel_rfl)) (by kernel_rfl)) (by kernel_rfl)) O7) Ct) (aeM Ct)) OO) (by kernel_rfl)) (by kernel_rfl)) (by kernel_rfl)) (by kernel_rfl)) (by kernel_rfl)) (by kernel_rfl)) (by kernel_rfl)) (by kernel_rfl)) (by kernel_rfl)) acT) (by kernel_rfl)) UO) aaj) U6) acv) (by kernel_rfl)) (by kernel_rfl)) (by kernel_rfl)) (by kernel_rfl)
set_option maxRecDepth 100000 in
theorem EI (os : Os) (started : os.Started) (H : Type) (enc : TypeId × Value → H) :
    ReturnsInHanded {} Tryz.checked os 4 .any (fun w args => (Rows.topTextSpec.pre enc Tryz.prog Tryz.f4 [] false w args ∧ laidMetH Tryz.prog Rows.scenarioSpoiltRow.laid w) ∧ sizedMet enc Tryz.prog Tryz.f4 (OpenSpec.ofChange Rows.topTextSpec) false w args) (Rows.topTextSpec.post enc Tryz.prog Tryz.f4 false true false false) :=
  GU (tb := 4) started (by kernel_rfl) Tryz.func4
    (ChangeSpec.witness_shaped (enc := enc) (C := Tryz.checked) (os := os) (X := fun w _ => laidMetH Tryz.prog Rows.scenarioSpoiltRow.laid w) false (World.doorLaid Tryz.prog 62 os) #[.string (ByteArray.mk #[]), .int .i64 0] 8 rfl (LX os _) (by kernel_rfl) (by kernel_rfl) (by kernel_rfl) (aan os _))
    rfl (by kernel_rfl) (by kernel_rfl) Jj (by kernel_rfl) (fun W args ds h hz hg => IF W args ds (by rw [Tryz.params4] at h; exact h) (by rw [Tryz.params4] at hz; exact hz) hg)
theorem G5 : Rows.TopTextSaid :=
  OpenClaim.holds_of_wide 4 Tryz.f4 rfl rfl rfl rfl rfl rfl rfl ⟨rfl, rfl, rfl, rfl, rfl⟩ rfl rfl rfl rfl rfl (by kernel_rfl) Tryz.func4 E4
    (of_decide_eq_true (by kernel_rfl)) (by unfold Func.isWrapper; first | (rw [if_pos (by decide +kernel)]; kernel_rfl) | (rw [if_neg (by decide +kernel)]; exact ⟨rfl, rfl⟩))
    (fun os started H enc _ => EI os started H enc)
theorem topText_proved : Rows.TopTextCardSaid :=
  Claim7.holds_tied_plain_at .later [] _ _ _ _
    G5 (fun _ h => by cases h) (by kernel_rfl) (fun _ h => by cases h) topText_row_tie rfl ⟨rfl, rfl⟩ acC rfl
    (fun f fn hf hfn => by
      obtain rfl : f = 4 := Option.some.inj ((show Tryz.prog.funcNamed "winepress/winepresstop.TopText" = some 4 by kernel_rfl).symm.trans hf) |>.symm
      obtain rfl : fn = Tryz.f4 := (Option.some.inj (Tryz.func4.symm.trans hfn)).symm
      exact ⟨UP, fun j t ht => by
        rw [Tryz.params4] at ht
        have hm : t ∈ [9, 3] := by simpa using Array.mem_of_getElem? ht
        have hall : ([9, 3].all fun u => !Tryz.prog.wantsStandIn u) = true := by kernel_rfl
        exact (show Tryz.prog.wantsStandIn t = false by simpa using List.all_eq_true.1 hall t hm)⟩)
    (adH rfl)
end Go.Proofs.YtjnhljphfgcamaaGreatDoor
