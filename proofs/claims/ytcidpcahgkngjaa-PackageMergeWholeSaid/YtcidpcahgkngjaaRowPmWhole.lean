/-
  The statement PackageMergeWhole holds: for all tallies and limits the law returns true and its arguments read as before. Conditions: none.
-/
import Derived.Test.YtcidpcahgkngjaaRows
import Derived.Test.YtcidpcahgkngjaaLaw07b
import Derived.Test.YtcidpcahgkngjaaLiftA
namespace Go.Proofs.Ytcidpcahgkngjaa
open Go Go.Vc Go.Srt Go.RowKit Go.ChangeShapes Go.WideShapes
theorem own : ownKnob Try.prog.godebug = none := by kernel_rfl
theorem laidOut : laidOutB Try.prog = true := by kernel_rfl
theorem packageMergeWhole_spec {H : Type} (ds : List (DataW H)) (h : ds.length = 2) : Rows.packageMergeWholeSpec.fn H ds = { results := [.lit (.bool true)], args := ds } := by
  match ds, h with
  | [_, _], _ => rfl
theorem packageMergeWhole_args {H : Type} {enc : TypeId × Value → H} (W : World) (args : Array Value) (ds : List (DataW H)) (h : ArgL enc Try.prog W [39, 3] args.toList) (hw : (DataW.weightsEach Try.prog [39, 3] ds).all (· ≤ reachBytes) = true) :
    Cl Try.prog [kB] n_law07_PackageMergeWhole args W (fun b w' => b = true ∧ Below W.heap.size W w') := by
  obtain ⟨v0, _, e, a0, v1, _, rfl, a1, rfl⟩ := h
  obtain rfl : args = ⟨[v0, v1]⟩ := by cases args; simp_all
  obtain ⟨t, rfl, ht, _⟩ := a0.i64s (n := 258) (e := 3) (by kernel_rfl) (by kernel_rfl) (by kernel_rfl) (by kernel_rfl)
  obtain ⟨L, rfl, hL⟩ := a1.int (k := .i64) (by kernel_rfl)
  exact pmWhole_law (t := t) (Hp.start W) ht fun w' h' => ⟨rfl, h'.below⟩

set_option maxRecDepth 100000 in
theorem packageMergeWhole_lifted (os : Os) (started : os.Started) (H : Type) (enc : TypeId × Value → H) :
    ReturnsInHanded {} Try.checked os 7 .any (Rows.packageMergeWholeSpec.pre6 enc Try.prog Try.f7 Rows.packageMergeWholeRow.domain false) (Rows.packageMergeWholeSpec.post enc Try.prog Try.f7 false true false false) :=
  law_lift (C := Try.checked) (tb := 4) own started (by kernel_rfl) Try.func7
    (ChangeSpec.witness6 (enc := enc) (C := Try.checked) false ⟨#[], #[.agg ⟨List.replicate 258 (.int .i64 0)⟩, .int .i64 0], []⟩ 8 (by kernel_rfl) (by kernel_rfl) (by kernel_rfl) (by kernel_rfl))
    rfl (by kernel_rfl) (by kernel_rfl) packageMergeWhole_spec laidOut (by kernel_rfl) (fun W args ds h hz => packageMergeWhole_args W args ds (by rw [Try.params7] at h; exact h) (by rw [Try.params7] at hz; exact hz))
theorem packageMergeWhole_proved : Rows.PackageMergeWholeSaid :=
  OpenClaim.holds_of_wide 7 Try.f7 rfl rfl rfl rfl rfl rfl rfl ⟨rfl, rfl, rfl, rfl, rfl⟩ rfl rfl rfl rfl rfl (by kernel_rfl) Try.func7 (by kernel_rfl)
    (of_decide_eq_true (by kernel_rfl)) (by unfold Func.isWrapper; first | (rw [if_pos (by decide +kernel)]; kernel_rfl) | (rw [if_neg (by decide +kernel)]; exact ⟨rfl, rfl⟩))
    (fun os started H enc _ => packageMergeWhole_lifted os started H enc)
end Go.Proofs.Ytcidpcahgkngjaa
