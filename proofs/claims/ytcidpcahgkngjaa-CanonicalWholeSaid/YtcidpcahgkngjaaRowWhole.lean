/-
  The statement CanonicalWhole holds: for all lengths and bits the law returns true and its arguments read as before. Conditions: none.
-/
import Derived.Test.YtcidpcahgkngjaaRows
import Derived.Test.YtcidpcahgkngjaaLaw09b
import Derived.Test.YtcidpcahgkngjaaLiftA
namespace Go.Proofs.Ytcidpcahgkngjaa
open Go Go.Vc Go.Srt Go.RowKit Go.ChangeShapes Go.WideShapes
theorem own : ownKnob Try.prog.godebug = none := by kernel_rfl
theorem laidOut : laidOutB Try.prog = true := by kernel_rfl
theorem canonicalWhole_spec {H : Type} (ds : List (DataW H)) (h : ds.length = 2) : Rows.canonicalWholeSpec.fn H ds = { results := [.lit (.bool true)], args := ds } := by
  match ds, h with
  | [_, _], _ => rfl
theorem canonicalWhole_args {H : Type} {enc : TypeId × Value → H} (W : World) (args : Array Value) (ds : List (DataW H)) (h : ArgL enc Try.prog W [23, 26] args.toList) (_ : (DataW.weightsEach Try.prog [23, 26] ds).all (· ≤ reachBytes) = true) :
    Cl Try.prog [kB] n_law09_CanonicalWhole args W (fun b w' => b = true ∧ Below W.heap.size W w') := by
  obtain ⟨v0, _, e, a0, v1, _, rfl, a1, rfl⟩ := h
  obtain rfl : args = ⟨[v0, v1]⟩ := by cases args; simp_all
  obtain ⟨l, rfl, hl, _⟩ := a0.u8s (n := 258) (e := 5) (by kernel_rfl) (by kernel_rfl) (by kernel_rfl) (by kernel_rfl)
  obtain ⟨x, rfl, hx⟩ := a1.int (k := .u32) (by kernel_rfl)
  have hx := wf_u32 hx
  obtain ⟨m, rfl⟩ := Int.eq_ofNat_of_zero_le hx.1
  exact whole_law (Hp.start W) hl (by omega) fun w' h' => ⟨rfl, h'.below⟩

set_option maxRecDepth 100000 in
theorem canonicalWhole_lifted (os : Os) (started : os.Started) (H : Type) (enc : TypeId × Value → H) :
    ReturnsInHanded {} Try.checked os 4 .any (Rows.canonicalWholeSpec.pre6 enc Try.prog Try.f4 Rows.canonicalWholeRow.domain false) (Rows.canonicalWholeSpec.post enc Try.prog Try.f4 false true false false) :=
  law_lift (C := Try.checked) (tb := 4) own started (by kernel_rfl) Try.func4
    (ChangeSpec.witness6 (enc := enc) (C := Try.checked) false ⟨#[], #[.agg ⟨List.replicate 258 (.int .u8 0)⟩, .int .u32 0], []⟩ 8 (by kernel_rfl) (by kernel_rfl) (by kernel_rfl) (by kernel_rfl))
    rfl (by kernel_rfl) (by kernel_rfl) canonicalWhole_spec laidOut (by kernel_rfl) (fun W args ds h hz => canonicalWhole_args W args ds (by rw [Try.params4] at h; exact h) (by rw [Try.params4] at hz; exact hz))
theorem canonicalWhole_proved : Rows.CanonicalWholeSaid :=
  OpenClaim.holds_of_wide 4 Try.f4 rfl rfl rfl rfl rfl rfl rfl ⟨rfl, rfl, rfl, rfl, rfl⟩ rfl rfl rfl rfl rfl (by kernel_rfl) Try.func4 (by kernel_rfl)
    (of_decide_eq_true (by kernel_rfl)) (by unfold Func.isWrapper; first | (rw [if_pos (by decide +kernel)]; kernel_rfl) | (rw [if_neg (by decide +kernel)]; exact ⟨rfl, rfl⟩))
    (fun os started H enc _ => canonicalWhole_lifted os started H enc)
end Go.Proofs.Ytcidpcahgkngjaa
