/-
  The statement BitReaderOwn holds: for every slice of bytes the law returns true and its argument reads as before. Conditions: none.
-/
import Derived.Test.YtmpoijocebbenaaRows
import Derived.Test.YtmpoijocebbenaaLawA
import Derived.Test.YtmpoijocebbenaaLift
namespace Go.Proofs.Ytmpoijocebbenaa
open Go Go.Vc Go.Bits Go.RowKit Go.ChangeShapes Go.WideShapes

theorem own : ownKnob Try.prog.godebug = none := by kernel_rfl
theorem laidOut : laidOutB Try.prog = true := by kernel_rfl
theorem bitReaderOwn_spec {H : Type} (ds : List (DataW H)) (h : ds.length = 1) : Rows.bitReaderOwnSpec.fn H ds = { results := [.lit (.bool true)], args := ds } := by
  match ds, h with
  | [_], _ => rfl
theorem bitReaderOwn_args {H : Type} {enc : TypeId × Value → H} (W : World) (args : Array Value) (ds : List (DataW H)) (h : ArgL enc Try.prog W [28] args.toList) (_ : (DataW.weightsEach Try.prog [28] ds).all (· ≤ reachBytes) = true) :
    Cl Try.prog [kB] n_law03_BitReaderOwn args W (fun b w' => b = true ∧ Below W.heap.size W w') := by
  obtain ⟨v0, _, e, a0, rfl⟩ := h
  obtain rfl : args = ⟨[v0]⟩ := by cases args; simp_all
  obtain ⟨s, b, rfl, h1, h2, _⟩ := a0.bytes (e := 5) (by kernel_rfl) (by kernel_rfl) (by kernel_rfl)
  exact own_c (Hp.start W) (Tells.slT h1) h2 fun w' h' => ⟨rfl, h'.below⟩

set_option maxRecDepth 100000 in
theorem bitReaderOwn_lifted (os : Os) (started : os.Started) (H : Type) (enc : TypeId × Value → H) :
    ReturnsInHanded {} Try.checked os 6 .any (Rows.bitReaderOwnSpec.pre6 enc Try.prog Try.f6 Rows.bitReaderOwnRow.domain false) (Rows.bitReaderOwnSpec.post enc Try.prog Try.f6 false true false false) :=
  law_lift (C := Try.checked) (tb := 4) own started (by kernel_rfl) Try.func6
    (ChangeSpec.witness6 (enc := enc) (C := Try.checked) false ⟨#[], #[.slice none 0 0], []⟩ 8 (by kernel_rfl) (by kernel_rfl) (by kernel_rfl) (by kernel_rfl))
    rfl (by kernel_rfl) (by kernel_rfl) bitReaderOwn_spec laidOut (by kernel_rfl) (fun W args ds h hz => bitReaderOwn_args W args ds (by rw [Try.params6] at h; exact h) (by rw [Try.params6] at hz; exact hz))
theorem bitReaderOwn_proved : Rows.BitReaderOwnSaid :=
  OpenClaim.holds_of_wide 6 Try.f6 rfl rfl rfl rfl rfl rfl rfl ⟨rfl, rfl, rfl, rfl, rfl⟩ rfl rfl rfl rfl rfl (by kernel_rfl) Try.func6 (by kernel_rfl)
    (of_decide_eq_true (by kernel_rfl)) (by unfold Func.isWrapper; first | (rw [if_pos (by decide +kernel)]; kernel_rfl) | (rw [if_neg (by decide +kernel)]; exact ⟨rfl, rfl⟩))
    (fun os started H enc _ => bitReaderOwn_lifted os started H enc)
end Go.Proofs.Ytmpoijocebbenaa
