/-
  The statement BlockOther holds: for all arguments the law returns true and its arguments read as before. Conditions: none.
-/
import Derived.Test.YtcdpblipagajiaaGreatRows
import Derived.Test.YtcdpblipagajiaaGreatQof
set_option linter.unusedSimpArgs false
set_option linter.unusedVariables false
set_option maxRecDepth 20000
namespace Go.Proofs.YtcdpblipagajiaaGreat
open Go Go.Vc Go.RowKit Go.ChangeShapes Go.WideShapes
theorem own : ownKnob Tryz.prog.godebug = none := by kernel_rfl
theorem laidOut : laidOutB Tryz.prog = true := by kernel_rfl
theorem blockOther_spec {H : Type} (ds : List (DataW H)) (h : ds.length = 2) : Rows.blockOtherSpec.fn H ds = { results := [.lit (.bool true)], args := ds } := by
  match ds, h with
  | [_, _], _ => rfl
theorem blockOther_args {H : Type} {enc : TypeId × Value → H} (W : World) (args : Array Value) (ds : List (DataW H)) (h : ArgL enc Tryz.prog W [22, 33] args.toList) (_ : (DataW.weightsEach Tryz.prog [22, 33] ds).all (· ≤ reachBytes) = true) :
    Cl Tryz.prog [kB] n_law25_BlockOther args W (fun b w' => b = true ∧ Below W.heap.size W w') := by
  obtain ⟨v0, _, e, a0, v1, _, rfl, a1, rfl⟩ := h
  obtain rfl : args = ⟨[v0, v1]⟩ := by cases args; simp_all
  obtain ⟨s, x, rfl, hs, hsb, hs1, hs2⟩ := a0.bytes (e := 5) (by kernel_rfl) (by kernel_rfl) (by kernel_rfl)
  obtain ⟨u, zs, rfl, hu, hzsw, hu1, hu2⟩ := a1.ints (e := 3) (k := .i64) (by kernel_rfl) (by kernel_rfl) (by kernel_rfl)
  exact blockOther_law (x := x) (zs := zs) (Hp.start W) (Tells.slT hs) (Tells.slT hu) hsb fun w' h' => ⟨rfl, h'.below⟩

set_option maxRecDepth 100000 in
theorem blockOther_lifted (os : Os) (started : os.Started) (H : Type) (enc : TypeId × Value → H) :
    ReturnsInHanded {} Tryz.checked os 5 .any (Rows.blockOtherSpec.pre6 enc Tryz.prog Tryz.f5 Rows.blockOtherRow.domain false) (Rows.blockOtherSpec.post enc Tryz.prog Tryz.f5 false true false false) :=
  law_lift (C := Tryz.checked) (tb := 4) own started (by kernel_rfl) Tryz.func5
    (ChangeSpec.witness6 (enc := enc) (C := Tryz.checked) false ⟨#[], #[.slice none 0 0, .slice none 0 0], []⟩ 8 (by kernel_rfl) (by kernel_rfl) (by kernel_rfl) (by kernel_rfl))
    rfl (by kernel_rfl) (by kernel_rfl) blockOther_spec laidOut (by kernel_rfl) (fun W args ds h hz => blockOther_args W args ds (by rw [Tryz.params5] at h; exact h) (by rw [Tryz.params5] at hz; exact hz))
theorem blockOther_proved : Rows.BlockOtherSaid :=
  OpenClaim.holds_of_wide 5 Tryz.f5 rfl rfl rfl rfl rfl rfl rfl ⟨rfl, rfl, rfl, rfl, rfl⟩ rfl rfl rfl rfl rfl (by kernel_rfl) Tryz.func5 (by kernel_rfl)
    (of_decide_eq_true (by kernel_rfl)) (by unfold Func.isWrapper; first | (rw [if_pos (by decide +kernel)]; kernel_rfl) | (rw [if_neg (by decide +kernel)]; exact ⟨rfl, rfl⟩))
    (fun os started H enc _ => blockOther_lifted os started H enc)
end Go.Proofs.YtcdpblipagajiaaGreat
