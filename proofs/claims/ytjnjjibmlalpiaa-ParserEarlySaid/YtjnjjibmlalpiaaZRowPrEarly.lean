/-
  The statement ParserEarly holds: for all bytes and numbers the law returns true and its arguments read as before. Conditions: none.
-/
import Derived.Test.YtjnjjibmlalpiaaRows
import Derived.Test.YtjnjjibmlalpiaaPf
set_option linter.unusedSimpArgs false
set_option linter.unusedVariables false
namespace Go.Proofs.Ytjnjjibmlalpiaa
open Go Go.Vc Go.RowKit Go.ChangeShapes Go.WideShapes
theorem own : ownKnob Try.prog.godebug = none := by kernel_rfl
theorem laidOut : laidOutB Try.prog = true := by kernel_rfl
theorem parserEarly_spec {H : Type} (ds : List (DataW H)) (h : ds.length = 2) : Rows.parserEarlySpec.fn H ds = { results := [.lit (.bool true)], args := ds } := by
  match ds, h with
  | [_, _], _ => rfl
theorem parserEarly_args {H : Type} {enc : TypeId × Value → H} (W : World) (args : Array Value) (ds : List (DataW H)) (h : ArgL enc Try.prog W [25, 3] args.toList) (_ : (DataW.weightsEach Try.prog [25, 3] ds).all (· ≤ reachBytes) = true) :
    Cl Try.prog [kB] n_law27_ParserEarly args W (fun b w' => b = true ∧ Below W.heap.size W w') := by
  obtain ⟨v0, _, e, a0, v1, _, rfl, a1, rfl⟩ := h
  obtain rfl : args = ⟨[v0, v1]⟩ := by cases args; simp_all
  obtain ⟨s, c, rfl, hs, hsb, hs1, hs2⟩ := a0.bytes (e := 5) (by kernel_rfl) (by kernel_rfl) (by kernel_rfl)
  obtain ⟨i, rfl, hi⟩ := a1.int (k := .i64) (by kernel_rfl)
  exact early_law (c := c) (Hp.start W) (Tells.slT hs) hsb hs1 fun w' h' => ⟨rfl, h'.below⟩

set_option maxRecDepth 100000 in
theorem parserEarly_lifted (os : Os) (started : os.Started) (H : Type) (enc : TypeId × Value → H) :
    ReturnsInHanded {} Try.checked os 4 .any (Rows.parserEarlySpec.pre6 enc Try.prog Try.f4 Rows.parserEarlyRow.domain false) (Rows.parserEarlySpec.post enc Try.prog Try.f4 false true false false) :=
  law_lift (C := Try.checked) (tb := 4) own started (by kernel_rfl) Try.func4
    (ChangeSpec.witness6 (enc := enc) (C := Try.checked) false ⟨#[], #[.slice none 0 0, .int .i64 0], []⟩ 8 (by kernel_rfl) (by kernel_rfl) (by kernel_rfl) (by kernel_rfl))
    rfl (by kernel_rfl) (by kernel_rfl) parserEarly_spec laidOut (by kernel_rfl) (fun W args ds h hz => parserEarly_args W args ds (by rw [Try.params4] at h; exact h) (by rw [Try.params4] at hz; exact hz))
theorem parserEarly_proved : Rows.ParserEarlySaid :=
  OpenClaim.holds_of_wide 4 Try.f4 rfl rfl rfl rfl rfl rfl rfl ⟨rfl, rfl, rfl, rfl, rfl⟩ rfl rfl rfl rfl rfl (by kernel_rfl) Try.func4 (by kernel_rfl)
    (of_decide_eq_true (by kernel_rfl)) (by unfold Func.isWrapper; first | (rw [if_pos (by decide +kernel)]; kernel_rfl) | (rw [if_neg (by decide +kernel)]; exact ⟨rfl, rfl⟩))
    (fun os started H enc _ => parserEarly_lifted os started H enc)
end Go.Proofs.Ytjnjjibmlalpiaa
