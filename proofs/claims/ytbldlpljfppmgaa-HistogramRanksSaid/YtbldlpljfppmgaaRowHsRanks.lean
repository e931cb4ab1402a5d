/-
  The statement HistogramRanks holds: for all tallies the law returns true and its argument reads as before. Conditions: none.
-/
import Derived.Test.YtbldlpljfppmgaaRows
import Derived.Test.YtbldlpljfppmgaaLaw06b
import Derived.Test.YtbldlpljfppmgaaLiftA
namespace Go.Proofs.Ytbldlpljfppmgaa
open Go Go.Vc Go.RowKit Go.ChangeShapes Go.WideShapes
theorem own : ownKnob Try.prog.godebug = none := by kernel_rfl
theorem laidOut : laidOutB Try.prog = true := by kernel_rfl
theorem histogramRanks_spec {H : Type} (ds : List (DataW H)) (h : ds.length = 1) : Rows.histogramRanksSpec.fn H ds = { results := [.lit (.bool true)], args := ds } := by
  match ds, h with
  | [_], _ => rfl
theorem histogramRanks_args {H : Type} {enc : TypeId × Value → H} (W : World) (args : Array Value) (ds : List (DataW H)) (h : ArgL enc Try.prog W [23] args.toList) (hw : (DataW.weightsEach Try.prog [23] ds).all (· ≤ reachBytes) = true) :
    Cl Try.prog [kB] n_law06_HistogramRanks args W (fun b w' => b = true ∧ Below W.heap.size W w') := by
  obtain ⟨v0, _, e, a0, rfl⟩ := h
  obtain rfl : args = ⟨[v0]⟩ := by cases args; simp_all
  obtain ⟨t, rfl, ht, htb⟩ := a0.i64s (n := 258) (e := 3) (by kernel_rfl) (by kernel_rfl) (by kernel_rfl) (by kernel_rfl)
  exact hRanks_law (t := t) (Hp.start W) ht fun w' h' => ⟨rfl, h'.below⟩

set_option maxRecDepth 100000 in
theorem histogramRanks_lifted (os : Os) (started : os.Started) (H : Type) (enc : TypeId × Value → H) :
    ReturnsInHanded {} Try.checked os 5 .any (Rows.histogramRanksSpec.pre6 enc Try.prog Try.f5 Rows.histogramRanksRow.domain false) (Rows.histogramRanksSpec.post enc Try.prog Try.f5 false true false false) :=
  law_lift (C := Try.checked) (tb := 4) own started (by kernel_rfl) Try.func5
    (ChangeSpec.witness6 (enc := enc) (C := Try.checked) false ⟨#[], #[.agg ⟨List.replicate 258 (.int .i64 0)⟩], []⟩ 8 (by kernel_rfl) (by kernel_rfl) (by kernel_rfl) (by kernel_rfl))
    rfl (by kernel_rfl) (by kernel_rfl) histogramRanks_spec laidOut (by kernel_rfl) (fun W args ds h hz => histogramRanks_args W args ds (by rw [Try.params5] at h; exact h) (by rw [Try.params5] at hz; exact hz))
theorem histogramRanks_proved : Rows.HistogramRanksSaid :=
  OpenClaim.holds_of_wide 5 Try.f5 rfl rfl rfl rfl rfl rfl rfl ⟨rfl, rfl, rfl, rfl, rfl⟩ rfl rfl rfl rfl rfl (by kernel_rfl) Try.func5 (by kernel_rfl)
    (of_decide_eq_true (by kernel_rfl)) (by unfold Func.isWrapper; first | (rw [if_pos (by decide +kernel)]; kernel_rfl) | (rw [if_neg (by decide +kernel)]; exact ⟨rfl, rfl⟩))
    (fun os started H enc _ => histogramRanks_lifted os started H enc)
end Go.Proofs.Ytbldlpljfppmgaa
