/-
  The statement BitReaderAlign holds: for every slice of bytes and every number the law returns true and its arguments read as before. Conditions: none.
-/
import Derived.Test.YtmpoijocebbenaaRows
import Derived.Test.YtmpoijocebbenaaLawA
import Derived.Test.YtmpoijocebbenaaLift
namespace Go.Proofs.Ytmpoijocebbenaa
open Go Go.Vc Go.Bits Go.RowKit Go.ChangeShapes Go.WideShapes

theorem own : ownKnob Try.prog.godebug = none := by kernel_rfl
theorem laidOut : laidOutB Try.prog = true := by kernel_rfl
theorem bitReaderAlign_spec {H : Type} (ds : List (DataW H)) (h : ds.length = 2) : Rows.bitReaderAlignSpec.fn H ds = { results := [.lit (.bool true)], args := ds } := by
  match ds, h with
  | [_, _], _ => rfl
theorem bitReaderAlign_args {H : Type} {enc : TypeId × Value → H} (W : World) (args : Array Value) (ds : List (DataW H)) (h : ArgL enc Try.prog W [28, 3] args.toList) (_ : (DataW.weightsEach Try.prog [28, 3] ds).all (· ≤ reachBytes) = true) :
    Cl Try.prog [kB] n_law03_BitReaderAlign args W (fun b w' => b = true ∧ Below W.heap.size W w') := by
  obtain ⟨v0, _, e, a0, v1, _, rfl, a1, rfl⟩ := h
  obtain rfl : args = ⟨[v0, v1]⟩ := by cases args; simp_all
  obtain ⟨s, b, rfl, h1, h2, _⟩ := a0.bytes (e := 5) (by kernel_rfl) (by kernel_rfl) (by kernel_rfl)
  obtain ⟨n, rfl, hn⟩ := a1.int (k := .i64) (by kernel_rfl)
  exact align_law (Hp.start W) (Tells.slT h1) h2 (wf_i64 hn) fun w' h' => ⟨rfl, h'.below⟩

set_option maxRecDepth 100000 in
theorem bitReaderAlign_lifted (os : Os) (started : os.Started) (H : Type) (enc : TypeId × Value → H) :
    ReturnsInHanded {} Try.checked os 5 .any (Rows.bitReaderAlignSpec.pre6 enc Try.prog Try.f5 Rows.bitReaderAlignRow.domain false) (Rows.bitReaderAlignSpec.post enc Try.prog Try.f5 false true false false) :=
  law_lift (C := Try.checked) (tb := 4) own started (by kernel_rfl) Try.func5
    (ChangeSpec.witness6 (enc := enc) (C := Try.checked) false ⟨#[], #[.slice none 0 0, .int .i64 0], []⟩ 8 (by kernel_rfl) (by kernel_rfl) (by kernel_rfl) (by kernel_rfl))
    rfl (by kernel_rfl) (by kernel_rfl) bitReaderAlign_spec laidOut (by kernel_rfl) (fun W args ds h hz => bitReaderAlign_args W args ds (by rw [Try.params5] at h; exact h) (by rw [Try.params5] at hz; exact hz))
theorem bitReaderAlign_proved : Rows.BitReaderAlignSaid :=
  OpenClaim.holds_of_wide 5 Try.f5 rfl rfl rfl rfl rfl rfl rfl ⟨rfl, rfl, rfl, rfl, rfl⟩ rfl rfl rfl rfl rfl (by kernel_rfl) Try.func5 (by kernel_rfl)
    (of_decide_eq_true (by kernel_rfl)) (by unfold Func.isWrapper; first | (rw [if_pos (by decide +kernel)]; kernel_rfl) | (rw [if_neg (by decide +kernel)]; exact ⟨rfl, rfl⟩))
    (fun os started H enc _ => bitReaderAlign_lifted os started H enc)
end Go.Proofs.Ytmpoijocebbenaa
