/-
  The statement BwtMatches holds: for all bytes and numbers the law returns true and its arguments read as before. Conditions: none.
-/
import Derived.Test.YtbldlpljfppmgaaRows
import Derived.Test.YtbldlpljfppmgaaLaw17
import Derived.Test.YtbldlpljfppmgaaLiftA
namespace Go.Proofs.Ytbldlpljfppmgaa
open Go Go.Vc Go.RowKit Go.ChangeShapes Go.WideShapes
theorem own : ownKnob Try.prog.godebug = none := by kernel_rfl
theorem laidOut : laidOutB Try.prog = true := by kernel_rfl
theorem bwtMatches_spec {H : Type} (ds : List (DataW H)) (h : ds.length = 6) : Rows.bwtMatchesSpec.fn H ds = { results := [.lit (.bool true)], args := ds } := by
  match ds, h with
  | [_, _, _, _, _, _], _ => rfl
theorem bwtMatches_args {H : Type} {enc : TypeId × Value → H} (W : World) (args : Array Value) (ds : List (DataW H)) (h : ArgL enc Try.prog W [42, 42, 3, 3, 3, 3] args.toList) (hw : (DataW.weightsEach Try.prog [42, 42, 3, 3, 3, 3] ds).all (· ≤ reachBytes) = true) :
    Cl Try.prog [kB] n_law17_BwtMatches args W (fun b w' => b = true ∧ Below W.heap.size W w') := by
  obtain ⟨v0, _, e, a0, v1, _, rfl, a1, v2, _, rfl, a2, v3, _, rfl, a3, v4, _, rfl, a4, v5, _, rfl, a5, rfl⟩ := h
  obtain rfl : args = ⟨[v0, v1, v2, v3, v4, v5]⟩ := by cases args; simp_all
  obtain ⟨s, t, rfl, hs, hsb, hs1, hs2⟩ := a0.bytes (e := 5) (by kernel_rfl) (by kernel_rfl) (by kernel_rfl)
  obtain ⟨u, l, rfl, hu, hub, hu1, hu2⟩ := a1.bytes (e := 5) (by kernel_rfl) (by kernel_rfl) (by kernel_rfl)
  obtain ⟨i, rfl, hi⟩ := a2.int (k := .i64) (by kernel_rfl)
  obtain ⟨k, rfl, hk⟩ := a3.int (k := .i64) (by kernel_rfl)
  obtain ⟨x, rfl, hx⟩ := a4.int (k := .i64) (by kernel_rfl)
  obtain ⟨r, rfl, hr⟩ := a5.int (k := .i64) (by kernel_rfl)
  exact bwMatches_law (t := t) (last := l) (Hp.start W) (Tells.slT hs) hsb hs1 (Tells.slT hu) hub fun w' h' => ⟨rfl, h'.below⟩

set_option maxRecDepth 100000 in
theorem bwtMatches_lifted (os : Os) (started : os.Started) (H : Type) (enc : TypeId × Value → H) :
    ReturnsInHanded {} Try.checked os 7 .any (Rows.bwtMatchesSpec.pre6 enc Try.prog Try.f7 Rows.bwtMatchesRow.domain false) (Rows.bwtMatchesSpec.post enc Try.prog Try.f7 false true false false) :=
  law_lift (C := Try.checked) (tb := 4) own started (by kernel_rfl) Try.func7
    (ChangeSpec.witness6 (enc := enc) (C := Try.checked) false ⟨#[], #[.slice none 0 0, .slice none 0 0, .int .i64 0, .int .i64 0, .int .i64 0, .int .i64 0], []⟩ 8 (by kernel_rfl) (by kernel_rfl) (by kernel_rfl) (by kernel_rfl))
    rfl (by kernel_rfl) (by kernel_rfl) bwtMatches_spec laidOut (by kernel_rfl) (fun W args ds h hz => bwtMatches_args W args ds (by rw [Try.params7] at h; exact h) (by rw [Try.params7] at hz; exact hz))
theorem bwtMatches_proved : Rows.BwtMatchesSaid :=
  OpenClaim.holds_of_wide 7 Try.f7 rfl rfl rfl rfl rfl rfl rfl ⟨rfl, rfl, rfl, rfl, rfl⟩ rfl rfl rfl rfl rfl (by kernel_rfl) Try.func7 (by kernel_rfl)
    (of_decide_eq_true (by kernel_rfl)) (by unfold Func.isWrapper; first | (rw [if_pos (by decide +kernel)]; kernel_rfl) | (rw [if_neg (by decide +kernel)]; exact ⟨rfl, rfl⟩))
    (fun os started H enc _ => bwtMatches_lifted os started H enc)
end Go.Proofs.Ytbldlpljfppmgaa
