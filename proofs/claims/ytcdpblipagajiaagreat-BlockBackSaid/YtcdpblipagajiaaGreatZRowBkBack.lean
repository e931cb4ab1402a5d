/-
  The statement BlockBack holds: for all arguments the law returns true and its arguments read as before. Conditions: none.
-/
import Derived.Test.YtcdpblipagajiaaGreatRows
import Derived.Test.YtcdpblipagajiaaGreatQbe
set_option linter.unusedSimpArgs false
set_option linter.unusedVariables false
set_option maxRecDepth 20000
namespace Go.Proofs.YtcdpblipagajiaaGreat
open Go Go.Vc Go.RowKit Go.ChangeShapes Go.WideShapes
theorem own : ownKnob Tryz.prog.godebug = none := by kernel_rfl
theorem laidOut : laidOutB Tryz.prog = true := by kernel_rfl
theorem blockBack_spec {H : Type} (ds : List (DataW H)) (h : ds.length = 5) : Rows.blockBackSpec.fn H ds = { results := [.lit (.bool true)], args := ds } := by
  match ds, h with
  | [_, _, _, _, _], _ => rfl
theorem blockBack_args {H : Type} {enc : TypeId × Value → H} (W : World) (args : Array Value) (ds : List (DataW H)) (h : ArgL enc Tryz.prog W [22, 3, 3, 22, 3] args.toList) (_ : (DataW.weightsEach Tryz.prog [22, 3, 3, 22, 3] ds).all (· ≤ reachBytes) = true) :
    Cl Tryz.prog [kB] n_law25_BlockBack args W (fun b w' => b = true ∧ Below W.heap.size W w') := by
  obtain ⟨v0, _, e, a0, v1, _, rfl, a1, v2, _, rfl, a2, v3, _, rfl, a3, v4, _, rfl, a4, rfl⟩ := h
  obtain rfl : args = ⟨[v0, v1, v2, v3, v4]⟩ := by cases args; simp_all
  obtain ⟨s, x, rfl, hs, hsb, hs1, hs2⟩ := a0.bytes (e := 5) (by kernel_rfl) (by kernel_rfl) (by kernel_rfl)
  obtain ⟨n, rfl, hn⟩ := a1.int (k := .i64) (by kernel_rfl)
  obtain ⟨m, rfl, hm⟩ := a2.int (k := .i64) (by kernel_rfl)
  obtain ⟨u, z, rfl, hu, hub, hu1, hu2⟩ := a3.bytes (e := 5) (by kernel_rfl) (by kernel_rfl) (by kernel_rfl)
  obtain ⟨q, rfl, hq⟩ := a4.int (k := .i64) (by kernel_rfl)
  exact blockBack_law (x := x) (z := z) (Hp.start W) (Tells.slT hs) (Tells.slT hu) hsb hub fun w' h' => ⟨rfl, h'.below⟩

set_option maxRecDepth 100000 in
theorem blockBack_lifted (os : Os) (started : os.Started) (H : Type) (enc : TypeId × Value → H) :
    ReturnsInHanded {} Tryz.checked os 4 .any (Rows.blockBackSpec.pre6 enc Tryz.prog Tryz.f4 Rows.blockBackRow.domain false) (Rows.blockBackSpec.post enc Tryz.prog Tryz.f4 false true false false) :=
  law_lift (C := Tryz.checked) (tb := 4) own started (by kernel_rfl) Tryz.func4
    (ChangeSpec.witness6 (enc := enc) (C := Tryz.checked) false ⟨#[], #[.slice none 0 0, .int .i64 0, .int .i64 0, .slice none 0 0, .int .i64 0], []⟩ 8 (by kernel_rfl) (by kernel_rfl) (by kernel_rfl) (by kernel_rfl))
    rfl (by kernel_rfl) (by kernel_rfl) blockBack_spec laidOut (by kernel_rfl) (fun W args ds h hz => blockBack_args W args ds (by rw [Tryz.params4] at h; exact h) (by rw [Tryz.params4] at hz; exact hz))
theorem blockBack_proved : Rows.BlockBackSaid :=
  OpenClaim.holds_of_wide 4 Tryz.f4 rfl rfl rfl rfl rfl rfl rfl ⟨rfl, rfl, rfl, rfl, rfl⟩ rfl rfl rfl rfl rfl (by kernel_rfl) Tryz.func4 (by kernel_rfl)
    (of_decide_eq_true (by kernel_rfl)) (by unfold Func.isWrapper; first | (rw [if_pos (by decide +kernel)]; kernel_rfl) | (rw [if_neg (by decide +kernel)]; exact ⟨rfl, rfl⟩))
    (fun os started H enc _ => blockBack_lifted os started H enc)
end Go.Proofs.YtcdpblipagajiaaGreat
