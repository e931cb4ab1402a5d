/-
  The statement CanonicalPrefix holds: for all lengths the law returns true and its argument reads as before. Conditions: none.
-/
import Derived.Test.YtcidpcahgkngjaaRows
import Derived.Test.YtcidpcahgkngjaaLaw09b
import Derived.Test.YtcidpcahgkngjaaLiftA
namespace Go.Proofs.Ytcidpcahgkngjaa
open Go Go.Vc Go.Srt Go.RowKit Go.ChangeShapes Go.WideShapes
theorem own : ownKnob Try.prog.godebug = none := by kernel_rfl
theorem laidOut : laidOutB Try.prog = true := by kernel_rfl
theorem canonicalPrefix_spec {H : Type} (ds : List (DataW H)) (h : ds.length = 1) : Rows.canonicalPrefixSpec.fn H ds = { results := [.lit (.bool true)], args := ds } := by
  match ds, h with
  | [_], _ => rfl
theorem canonicalPrefix_args {H : Type} {enc : TypeId × Value → H} (W : World) (args : Array Value) (ds : List (DataW H)) (h : ArgL enc Try.prog W [23] args.toList) (_ : (DataW.weightsEach Try.prog [23] ds).all (· ≤ reachBytes) = true) :
    Cl Try.prog [kB] n_law09_CanonicalPrefix args W (fun b w' => b = true ∧ Below W.heap.size W w') := by
  obtain ⟨v0, _, e, a0, rfl⟩ := h
  obtain rfl : args = ⟨[v0]⟩ := by cases args; simp_all
  obtain ⟨l, rfl, hl, _⟩ := a0.u8s (n := 258) (e := 5) (by kernel_rfl) (by kernel_rfl) (by kernel_rfl) (by kernel_rfl)
  exact prefix_law (Hp.start W) hl fun w' h' => ⟨rfl, h'.below⟩

set_option maxRecDepth 100000 in
theorem canonicalPrefix_lifted (os : Os) (started : os.Started) (H : Type) (enc : TypeId × Value → H) :
    ReturnsInHanded {} Try.checked os 3 .any (Rows.canonicalPrefixSpec.pre6 enc Try.prog Try.f3 Rows.canonicalPrefixRow.domain false) (Rows.canonicalPrefixSpec.post enc Try.prog Try.f3 false true false false) :=
  law_lift (C := Try.checked) (tb := 4) own started (by kernel_rfl) Try.func3
    (ChangeSpec.witness6 (enc := enc) (C := Try.checked) false ⟨#[], #[.agg ⟨List.replicate 258 (.int .u8 0)⟩], []⟩ 8 (by kernel_rfl) (by kernel_rfl) (by kernel_rfl) (by kernel_rfl))
    rfl (by kernel_rfl) (by kernel_rfl) canonicalPrefix_spec laidOut (by kernel_rfl) (fun W args ds h hz => canonicalPrefix_args W args ds (by rw [Try.params3] at h; exact h) (by rw [Try.params3] at hz; exact hz))
theorem canonicalPrefix_proved : Rows.CanonicalPrefixSaid :=
  OpenClaim.holds_of_wide 3 Try.f3 rfl rfl rfl rfl rfl rfl rfl ⟨rfl, rfl, rfl, rfl, rfl⟩ rfl rfl rfl rfl rfl (by kernel_rfl) Try.func3 (by kernel_rfl)
    (of_decide_eq_true (by kernel_rfl)) (by unfold Func.isWrapper; first | (rw [if_pos (by decide +kernel)]; kernel_rfl) | (rw [if_neg (by decide +kernel)]; exact ⟨rfl, rfl⟩))
    (fun os started H enc _ => canonicalPrefix_lifted os started H enc)
end Go.Proofs.Ytcidpcahgkngjaa
