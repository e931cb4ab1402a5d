/-
  The statement BwtNext holds: for all bytes and numbers the law returns true and its arguments read as before. Conditions: none.
-/
import Derived.Test.YtbldlpljfppmgaaRows
import Derived.Test.YtbldlpljfppmgaaLaw17e
import Derived.Test.YtbldlpljfppmgaaLiftA
namespace Go.Proofs.Ytbldlpljfppmgaa
open Go Go.Vc Go.RowKit Go.ChangeShapes Go.WideShapes
theorem own : ownKnob Try.prog.godebug = none := by kernel_rfl
theorem laidOut : laidOutB Try.prog = true := by kernel_rfl
theorem bwtNext_spec {H : Type} (ds : List (DataW H)) (h : ds.length = 2) : Rows.bwtNextSpec.fn H ds = { results := [.lit (.bool true)], args := ds } := by
  match ds, h with
  | [_, _], _ => rfl
theorem bwtNext_args {H : Type} {enc : TypeId × Value → H} (W : World) (args : Array Value) (ds : List (DataW H)) (h : ArgL enc Try.prog W [42, 3] args.toList) (hw : (DataW.weightsEach Try.prog [42, 3] ds).all (· ≤ reachBytes) = true) :
    Cl Try.prog [kB] n_law17_BwtNext args W (fun b w' => b = true ∧ Below W.heap.size W w') := by
  obtain ⟨v0, _, e, a0, v1, _, rfl, a1, rfl⟩ := h
  obtain rfl : args = ⟨[v0, v1]⟩ := by cases args; simp_all
  obtain ⟨s, t, rfl, hs, hsb, hs1, hs2⟩ := a0.bytes (e := 5) (by kernel_rfl) (by kernel_rfl) (by kernel_rfl)
  obtain ⟨i, rfl, hi⟩ := a1.int (k := .i64) (by kernel_rfl)
  exact bwNext_law (last := t) (Hp.start W) (Tells.slT hs) hsb fun w' h' => ⟨rfl, h'.below⟩

set_option maxRecDepth 100000 in
theorem bwtNext_lifted (os : Os) (started : os.Started) (H : Type) (enc : TypeId × Value → H) :
    ReturnsInHanded {} Try.checked os 11 .any (Rows.bwtNextSpec.pre6 enc Try.prog Try.f11 Rows.bwtNextRow.domain false) (Rows.bwtNextSpec.post enc Try.prog Try.f11 false true false false) :=
  law_lift (C := Try.checked) (tb := 4) own started (by kernel_rfl) Try.func11
    (ChangeSpec.witness6 (enc := enc) (C := Try.checked) false ⟨#[], #[.slice none 0 0, .int .i64 0], []⟩ 8 (by kernel_rfl) (by kernel_rfl) (by kernel_rfl) (by kernel_rfl))
    rfl (by kernel_rfl) (by kernel_rfl) bwtNext_spec laidOut (by kernel_rfl) (fun W args ds h hz => bwtNext_args W args ds (by rw [Try.params11] at h; exact h) (by rw [Try.params11] at hz; exact hz))
theorem bwtNext_proved : Rows.BwtNextSaid :=
  OpenClaim.holds_of_wide 11 Try.f11 rfl rfl rfl rfl rfl rfl rfl ⟨rfl, rfl, rfl, rfl, rfl⟩ rfl rfl rfl rfl rfl (by kernel_rfl) Try.func11 (by kernel_rfl)
    (of_decide_eq_true (by kernel_rfl)) (by unfold Func.isWrapper; first | (rw [if_pos (by decide +kernel)]; kernel_rfl) | (rw [if_neg (by decide +kernel)]; exact ⟨rfl, rfl⟩))
    (fun os started H enc _ => bwtNext_lifted os started H enc)
end Go.Proofs.Ytbldlpljfppmgaa
