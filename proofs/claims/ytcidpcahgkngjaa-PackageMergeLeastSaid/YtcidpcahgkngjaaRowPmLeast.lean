/-
  The statement PackageMergeLeast holds: for all lists of counts and limits the law returns true and its arguments read as before. Conditions: none.
-/
import Derived.Test.YtcidpcahgkngjaaRows
import Derived.Test.YtcidpcahgkngjaaLaw07e
import Derived.Test.YtcidpcahgkngjaaLiftA
namespace Go.Proofs.Ytcidpcahgkngjaa
open Go Go.Vc Go.Srt Go.RowKit Go.ChangeShapes Go.WideShapes
theorem own : ownKnob Try.prog.godebug = none := by kernel_rfl
theorem laidOut : laidOutB Try.prog = true := by kernel_rfl
theorem packageMergeLeast_spec {H : Type} (ds : List (DataW H)) (h : ds.length = 2) : Rows.packageMergeLeastSpec.fn H ds = { results := [.lit (.bool true)], args := ds } := by
  match ds, h with
  | [_, _], _ => rfl
theorem packageMergeLeast_args {H : Type} {enc : TypeId × Value → H} (W : World) (args : Array Value) (ds : List (DataW H)) (h : ArgL enc Try.prog W [32, 3] args.toList) (hw : (DataW.weightsEach Try.prog [32, 3] ds).all (· ≤ reachBytes) = true) :
    Cl Try.prog [kB] n_law07_PackageMergeLeast args W (fun b w' => b = true ∧ Below W.heap.size W w') := by
  obtain ⟨v0, _, e, a0, v1, _, rfl, a1, rfl⟩ := h
  obtain rfl : args = ⟨[v0, v1]⟩ := by cases args; simp_all
  obtain ⟨s, cs, rfl, hs, hcs, h1, h2⟩ := a0.ints (e := 3) (k := .i64) (by kernel_rfl) (by kernel_rfl) (by kernel_rfl)
  obtain ⟨L, rfl, hL⟩ := a1.int (k := .i64) (by kernel_rfl)
  exact pmLeast_law (cs := cs) (Hp.start W) (Tells.slT hs) fun w' h' => ⟨rfl, h'.below⟩

set_option maxRecDepth 100000 in
theorem packageMergeLeast_lifted (os : Os) (started : os.Started) (H : Type) (enc : TypeId × Value → H) :
    ReturnsInHanded {} Try.checked os 6 .any (Rows.packageMergeLeastSpec.pre6 enc Try.prog Try.f6 Rows.packageMergeLeastRow.domain false) (Rows.packageMergeLeastSpec.post enc Try.prog Try.f6 false true false false) :=
  law_lift (C := Try.checked) (tb := 4) own started (by kernel_rfl) Try.func6
    (ChangeSpec.witness6 (enc := enc) (C := Try.checked) false ⟨#[], #[.slice none 0 0, .int .i64 0], []⟩ 8 (by kernel_rfl) (by kernel_rfl) (by kernel_rfl) (by kernel_rfl))
    rfl (by kernel_rfl) (by kernel_rfl) packageMergeLeast_spec laidOut (by kernel_rfl) (fun W args ds h hz => packageMergeLeast_args W args ds (by rw [Try.params6] at h; exact h) (by rw [Try.params6] at hz; exact hz))
theorem packageMergeLeast_proved : Rows.PackageMergeLeastSaid :=
  OpenClaim.holds_of_wide 6 Try.f6 rfl rfl rfl rfl rfl rfl rfl ⟨rfl, rfl, rfl, rfl, rfl⟩ rfl rfl rfl rfl rfl (by kernel_rfl) Try.func6 (by kernel_rfl)
    (of_decide_eq_true (by kernel_rfl)) (by unfold Func.isWrapper; first | (rw [if_pos (by decide +kernel)]; kernel_rfl) | (rw [if_neg (by decide +kernel)]; exact ⟨rfl, rfl⟩))
    (fun os started H enc _ => packageMergeLeast_lifted os started H enc)
end Go.Proofs.Ytcidpcahgkngjaa
