/-
  The statement HistogramMost holds: for all numbers the law returns true and its arguments read as before. Conditions: none.
-/
import Derived.Test.YtbldlpljfppmgaaRows
import Derived.Test.YtbldlpljfppmgaaLaw06c
import Derived.Test.YtbldlpljfppmgaaLiftA
namespace Go.Proofs.Ytbldlpljfppmgaa
open Go Go.Vc Go.RowKit Go.ChangeShapes Go.WideShapes
theorem own : ownKnob Try.prog.godebug = none := by kernel_rfl
theorem laidOut : laidOutB Try.prog = true := by kernel_rfl
theorem histogramMost_spec {H : Type} (ds : List (DataW H)) (h : ds.length = 2) : Rows.histogramMostSpec.fn H ds = { results := [.lit (.bool true)], args := ds } := by
  match ds, h with
  | [_, _], _ => rfl
theorem histogramMost_args {H : Type} {enc : TypeId × Value → H} (W : World) (args : Array Value) (ds : List (DataW H)) (h : ArgL enc Try.prog W [3, 3] args.toList) (hw : (DataW.weightsEach Try.prog [3, 3] ds).all (· ≤ reachBytes) = true) :
    Cl Try.prog [kB] n_law06_HistogramMost args W (fun b w' => b = true ∧ Below W.heap.size W w') := by
  obtain ⟨v0, _, e, a0, v1, _, rfl, a1, rfl⟩ := h
  obtain rfl : args = ⟨[v0, v1]⟩ := by cases args; simp_all
  obtain ⟨s, rfl, hs⟩ := a0.int (k := .i64) (by kernel_rfl)
  obtain ⟨m, rfl, hm⟩ := a1.int (k := .i64) (by kernel_rfl)
  exact hMost_law (Hp.start W) fun w' h' => ⟨rfl, h'.below⟩

set_option maxRecDepth 100000 in
theorem histogramMost_lifted (os : Os) (started : os.Started) (H : Type) (enc : TypeId × Value → H) :
    ReturnsInHanded {} Try.checked os 6 .any (Rows.histogramMostSpec.pre6 enc Try.prog Try.f6 Rows.histogramMostRow.domain false) (Rows.histogramMostSpec.post enc Try.prog Try.f6 false true false false) :=
  law_lift (C := Try.checked) (tb := 4) own started (by kernel_rfl) Try.func6
    (ChangeSpec.witness6 (enc := enc) (C := Try.checked) false ⟨#[], #[.int .i64 0, .int .i64 0], []⟩ 8 (by kernel_rfl) (by kernel_rfl) (by kernel_rfl) (by kernel_rfl))
    rfl (by kernel_rfl) (by kernel_rfl) histogramMost_spec laidOut (by kernel_rfl) (fun W args ds h hz => histogramMost_args W args ds (by rw [Try.params6] at h; exact h) (by rw [Try.params6] at hz; exact hz))
theorem histogramMost_proved : Rows.HistogramMostSaid :=
  OpenClaim.holds_of_wide 6 Try.f6 rfl rfl rfl rfl rfl rfl rfl ⟨rfl, rfl, rfl, rfl, rfl⟩ rfl rfl rfl rfl rfl (by kernel_rfl) Try.func6 (by kernel_rfl)
    (of_decide_eq_true (by kernel_rfl)) (by unfold Func.isWrapper; first | (rw [if_pos (by decide +kernel)]; kernel_rfl) | (rw [if_neg (by decide +kernel)]; exact ⟨rfl, rfl⟩))
    (fun os started H enc _ => histogramMost_lifted os started H enc)
end Go.Proofs.Ytbldlpljfppmgaa
