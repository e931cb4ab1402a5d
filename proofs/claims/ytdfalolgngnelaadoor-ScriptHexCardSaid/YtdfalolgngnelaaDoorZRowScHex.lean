/-
  The statement ScriptHex holds: for all arguments the law returns true and its arguments read as before, with the library's variables as laid. Conditions: none.
-/
import Derived.Test.YtdfalolgngnelaaDoorRows
import Derived.Test.YtdfalolgngnelaaDoorTie
import Derived.Test.YtdfalolgngnelaaDoorCards
import Derived.SevenTiedAt
import Derived.Test.YtdfalolgngnelaaDoorPe
set_option linter.unusedSimpArgs false
set_option linter.unusedVariables false
namespace Go.Proofs.YtdfalolgngnelaaDoor
open Go Go.Vc Go.RowKit Go.ChangeShapes Go.WideShapes Go.Scr
theorem scriptHex_spec {H : Type} (ds : List (DataW H)) (h : ds.length = 1) : Rows.scriptHexSpec.fn H ds = { results := [.lit (.bool true)], args := ds } := by
  match ds, h with
  | [_], _ => rfl
theorem scriptHex_args {H : Type} {enc : TypeId × Value → H} (W : World) (args : Array Value) (ds : List (DataW H)) (h : ArgL enc Tryd.prog W [24] args.toList) (hw : (DataW.weightsEach Tryd.prog [24] ds).all (· ≤ reachBytes) = true) (hg : Gl W) :
    Cl Tryd.prog [kB] n_law30_ScriptHex args W (fun b w' => b = true ∧ Below W.heap.size W w') := by
  obtain ⟨v0, _, e, a0, rfl⟩ := h
  obtain rfl : args = ⟨[v0]⟩ := by cases args; simp_all
  obtain ⟨s, t, rfl, hs, hsb, hs1, hs2⟩ := a0.bytes (e := 5) (by kernel_rfl) (by kernel_rfl) (by kernel_rfl)
  exact scriptHex_c (b := t) (Hp.start W) (Gl.old hg) (Tells.slT hs) hsb fun w' h' => ⟨rfl, h'.below⟩

set_option maxRecDepth 100000 in
theorem scriptHex_lifted (os : Os) (started : os.Started) (H : Type) (enc : TypeId × Value → H) :
    ReturnsInHanded {} Tryd.checked os 6 .any (fun w args => (Rows.scriptHexSpec.pre enc Tryd.prog Tryd.f6 [] false w args ∧ laidMetH Tryd.prog Rows.scriptHexRow.laid w) ∧ sizedMet enc Tryd.prog Tryd.f6 (OpenSpec.ofChange Rows.scriptHexSpec) false w args) (Rows.scriptHexSpec.post enc Tryd.prog Tryd.f6 false true false false) :=
  law_lift_laid (tb := 4) started (by kernel_rfl) Tryd.func6
    (ChangeSpec.witness_shaped (enc := enc) (C := Tryd.checked) (os := os) (X := fun w _ => laidMetH Tryd.prog Rows.scriptHexRow.laid w) false (World.doorLaid Tryd.prog 62 os) #[.slice none 0 0] 8 rfl (World.shaped_of_RefB (by kernel_rfl) (by kernel_rfl)) (by kernel_rfl) (by kernel_rfl) (by kernel_rfl) (door_met os _))
    rfl (by kernel_rfl) (by kernel_rfl) scriptHex_spec (by kernel_rfl) (fun W args ds h hz hg => scriptHex_args W args ds (by rw [Tryd.params6] at h; exact h) (by rw [Tryd.params6] at hz; exact hz) hg)
theorem scriptHex_holds : Rows.ScriptHexSaid :=
  OpenClaim.holds_of_wide 6 Tryd.f6 rfl rfl rfl rfl rfl rfl rfl ⟨rfl, rfl, rfl, rfl, rfl⟩ rfl rfl rfl rfl rfl (by kernel_rfl) Tryd.func6 (by kernel_rfl)
    (of_decide_eq_true (by kernel_rfl)) (by unfold Func.isWrapper; first | (rw [if_pos (by decide +kernel)]; kernel_rfl) | (rw [if_neg (by decide +kernel)]; exact ⟨rfl, rfl⟩))
    (fun os started H enc _ => scriptHex_lifted os started H enc)
theorem scriptHex_proved : Rows.ScriptHexCardSaid :=
  Claim7.holds_tied_plain_at .later [] [.data, .data, .data, .sentinel, .sentinel] true (true, "1e9cab63148c6610d9b5ce7a18ac7e0104a661309936e0953e05cded2bacadb0") true
    scriptHex_holds (fun _ h => by cases h) (by kernel_rfl) (fun _ h => by cases h) scriptHex_row_tie rfl ⟨rfl, rfl⟩ (by kernel_rfl) rfl
    (fun f fn hf hfn => by
      obtain rfl : f = 6 := Option.some.inj ((show Tryd.prog.funcNamed "winepress/winepresslaw30.ScriptHex" = some 6 by kernel_rfl).symm.trans hf) |>.symm
      obtain rfl : fn = Tryd.f6 := (Option.some.inj (Tryd.func6.symm.trans hfn)).symm
      exact ⟨by kernel_rfl, fun j t ht => by
        rw [Tryd.params6] at ht
        have hm : t ∈ [24] := by simpa using Array.mem_of_getElem? ht
        have hall : ([24].all fun u => !Tryd.prog.wantsStandIn u) = true := by kernel_rfl
        exact (show Tryd.prog.wantsStandIn t = false by simpa using List.all_eq_true.1 hall t hm)⟩)
    (by kernel_rfl)
end Go.Proofs.YtdfalolgngnelaaDoor
