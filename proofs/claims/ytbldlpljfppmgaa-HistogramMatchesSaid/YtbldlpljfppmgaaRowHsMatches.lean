/-
  The statement HistogramMatches holds: for all tallies, symbols and lists of tallies the law returns true and its arguments read as before. Conditions: none.
-/
import Derived.Test.YtbldlpljfppmgaaRows
import Derived.Test.YtbldlpljfppmgaaLaw06b
import Derived.Test.YtbldlpljfppmgaaLiftA
namespace Go.Proofs.Ytbldlpljfppmgaa
open Go Go.Vc Go.RowKit Go.ChangeShapes Go.WideShapes
theorem own : ownKnob Try.prog.godebug = none := by kernel_rfl
theorem laidOut : laidOutB Try.prog = true := by kernel_rfl
theorem histogramMatches_spec {H : Type} (ds : List (DataW H)) (h : ds.length = 3) : Rows.histogramMatchesSpec.fn H ds = { results := [.lit (.bool true)], args := ds } := by
  match ds, h with
  | [_, _, _], _ => rfl
theorem histogramMatches_args {H : Type} {enc : TypeId × Value → H} (W : World) (args : Array Value) (ds : List (DataW H)) (h : ArgL enc Try.prog W [23, 24, 25] args.toList) (hw : (DataW.weightsEach Try.prog [23, 24, 25] ds).all (· ≤ reachBytes) = true) :
    Cl Try.prog [kB] n_law06_HistogramMatches args W (fun b w' => b = true ∧ Below W.heap.size W w') := by
  obtain ⟨v0, _, e, a0, v1, _, rfl, a1, v2, _, rfl, a2, rfl⟩ := h
  obtain rfl : args = ⟨[v0, v1, v2]⟩ := by cases args; simp_all
  obtain ⟨t, rfl, ht, htb⟩ := a0.i64s (n := 258) (e := 3) (by kernel_rfl) (by kernel_rfl) (by kernel_rfl) (by kernel_rfl)
  obtain ⟨s, zs, rfl, hs, hzsw, hs1, hs2⟩ := a1.ints (e := 3) (k := .i64) (by kernel_rfl) (by kernel_rfl) (by kernel_rfl)
  obtain ⟨sl, xs, hv, h2, h3, h4, h5, h6, h7⟩ := (a2.slice (e := 23) (by kernel_rfl)).slice (e := 23) (by kernel_rfl)
  have hv : v2 = .slice sl.base sl.len sl.cap := by simpa using hv
  subst hv
  obtain ⟨ts, rfl, _⟩ := rows_of (g := gT) (Good := fun _ => True) (xs := xs) fun x hx => by
    obtain ⟨l, hl1, hl2, _⟩ := (h5 x hx).nums (n := 258) (e := 3) (k := .i64) (by kernel_rfl) (by kernel_rfl) (by kernel_rfl) (by kernel_rfl)
    exact ⟨⟨l, hl2⟩, hl1, trivial⟩
  have hcl : Try.prog.cellsOf 23 = 258 := by kernel_rfl
  rw [hcl, ← List.flatMap_def] at h7
  exact hMatches_law (t := t) (zs := zs) (ts := ts) (Hp.start W) ht (Tells.slT hs) (Tells.slT h7) fun w' h' => ⟨rfl, h'.below⟩

set_option maxRecDepth 100000 in
theorem histogramMatches_lifted (os : Os) (started : os.Started) (H : Type) (enc : TypeId × Value → H) :
    ReturnsInHanded {} Try.checked os 3 .any (Rows.histogramMatchesSpec.pre6 enc Try.prog Try.f3 Rows.histogramMatchesRow.domain false) (Rows.histogramMatchesSpec.post enc Try.prog Try.f3 false true false false) :=
  law_lift (C := Try.checked) (tb := 4) own started (by kernel_rfl) Try.func3
    (ChangeSpec.witness6 (enc := enc) (C := Try.checked) false ⟨#[], #[.agg ⟨List.replicate 258 (.int .i64 0)⟩, .slice none 0 0, .slice none 0 0], []⟩ 8 (by kernel_rfl) (by kernel_rfl) (by kernel_rfl) (by kernel_rfl))
    rfl (by kernel_rfl) (by kernel_rfl) histogramMatches_spec laidOut (by kernel_rfl) (fun W args ds h hz => histogramMatches_args W args ds (by rw [Try.params3] at h; exact h) (by rw [Try.params3] at hz; exact hz))
theorem histogramMatches_proved : Rows.HistogramMatchesSaid :=
  OpenClaim.holds_of_wide 3 Try.f3 rfl rfl rfl rfl rfl rfl rfl ⟨rfl, rfl, rfl, rfl, rfl⟩ rfl rfl rfl rfl rfl (by kernel_rfl) Try.func3 (by kernel_rfl)
    (of_decide_eq_true (by kernel_rfl)) (by unfold Func.isWrapper; first | (rw [if_pos (by decide +kernel)]; kernel_rfl) | (rw [if_neg (by decide +kernel)]; exact ⟨rfl, rfl⟩))
    (fun os started H enc _ => histogramMatches_lifted os started H enc)
end Go.Proofs.Ytbldlpljfppmgaa
