/-
  The statement BlockSymbols holds: for all arguments the law returns true and its arguments read as before. Conditions: none.
-/
import Derived.Test.YtcdpblipagajiaaGreatRows
import Derived.Test.YtcdpblipagajiaaGreatQsf
set_option linter.unusedSimpArgs false
set_option linter.unusedVariables false
set_option maxRecDepth 20000
namespace Go.Proofs.YtcdpblipagajiaaGreat
open Go Go.Vc Go.RowKit Go.ChangeShapes Go.WideShapes
theorem own : ownKnob Tryz.prog.godebug = none := by kernel_rfl
theorem laidOut : laidOutB Tryz.prog = true := by kernel_rfl
theorem blockSymbols_spec {H : Type} (ds : List (DataW H)) (h : ds.length = 1) : Rows.blockSymbolsSpec.fn H ds = { results := [.lit (.bool true)], args := ds } := by
  match ds, h with
  | [_], _ => rfl
theorem blockSymbols_args {H : Type} {enc : TypeId × Value → H} (W : World) (args : Array Value) (ds : List (DataW H)) (h : ArgL enc Tryz.prog W [22] args.toList) (_ : (DataW.weightsEach Tryz.prog [22] ds).all (· ≤ reachBytes) = true) :
    Cl Tryz.prog [kB] n_law25_BlockSymbols args W (fun b w' => b = true ∧ Below W.heap.size W w') := by
  obtain ⟨v0, _, e, a0, rfl⟩ := h
  obtain rfl : args = ⟨[v0]⟩ := by cases args; simp_all
  obtain ⟨s, x, rfl, hs, hsb, hs1, hs2⟩ := a0.bytes (e := 5) (by kernel_rfl) (by kernel_rfl) (by kernel_rfl)
  exact blockSymbols_law (x := x) (Hp.start W) (Tells.slT hs) hsb fun w' h' => ⟨rfl, h'.below⟩

set_option maxRecDepth 100000 in
theorem blockSymbols_lifted (os : Os) (started : os.Started) (H : Type) (enc : TypeId × Value → H) :
    ReturnsInHanded {} Tryz.checked os 7 .any (Rows.blockSymbolsSpec.pre6 enc Tryz.prog Tryz.f7 Rows.blockSymbolsRow.domain false) (Rows.blockSymbolsSpec.post enc Tryz.prog Tryz.f7 false true false false) :=
  law_lift (C := Tryz.checked) (tb := 4) own started (by kernel_rfl) Tryz.func7
    (ChangeSpec.witness6 (enc := enc) (C := Tryz.checked) false ⟨#[], #[.slice none 0 0], []⟩ 8 (by kernel_rfl) (by kernel_rfl) (by kernel_rfl) (by kernel_rfl))
    rfl (by kernel_rfl) (by kernel_rfl) blockSymbols_spec laidOut (by kernel_rfl) (fun W args ds h hz => blockSymbols_args W args ds (by rw [Tryz.params7] at h; exact h) (by rw [Tryz.params7] at hz; exact hz))
theorem blockSymbols_proved : Rows.BlockSymbolsSaid :=
  OpenClaim.holds_of_wide 7 Tryz.f7 rfl rfl rfl rfl rfl rfl rfl ⟨rfl, rfl, rfl, rfl, rfl⟩ rfl rfl rfl rfl rfl (by kernel_rfl) Tryz.func7 (by kernel_rfl)
    (of_decide_eq_true (by kernel_rfl)) (by unfold Func.isWrapper; first | (rw [if_pos (by decide +kernel)]; kernel_rfl) | (rw [if_neg (by decide +kernel)]; exact ⟨rfl, rfl⟩))
    (fun os started H enc _ => blockSymbols_lifted os started H enc)
end Go.Proofs.YtcdpblipagajiaaGreat
