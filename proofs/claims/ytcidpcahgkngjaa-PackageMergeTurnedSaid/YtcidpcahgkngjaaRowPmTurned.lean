/-
  The statement PackageMergeTurned holds: for all tallies, limits, symbols and counts the law returns true and its arguments read as before. Conditions: none.
-/
import Derived.Test.YtcidpcahgkngjaaRows
import Derived.Test.YtcidpcahgkngjaaLaw07d
import Derived.Test.YtcidpcahgkngjaaLiftA
namespace Go.Proofs.Ytcidpcahgkngjaa
open Go Go.Vc Go.Srt Go.RowKit Go.ChangeShapes Go.WideShapes
theorem own : ownKnob Try.prog.godebug = none := by kernel_rfl
theorem laidOut : laidOutB Try.prog = true := by kernel_rfl
theorem packageMergeTurned_spec {H : Type} (ds : List (DataW H)) (h : ds.length = 5) : Rows.packageMergeTurnedSpec.fn H ds = { results := [.lit (.bool true)], args := ds } := by
  match ds, h with
  | [_, _, _, _, _], _ => rfl
theorem packageMergeTurned_args {H : Type} {enc : TypeId × Value → H} (W : World) (args : Array Value) (ds : List (DataW H)) (h : ArgL enc Try.prog W [39, 3, 3, 3, 3] args.toList) (hw : (DataW.weightsEach Try.prog [39, 3, 3, 3, 3] ds).all (· ≤ reachBytes) = true) :
    Cl Try.prog [kB] n_law07_PackageMergeTurned args W (fun b w' => b = true ∧ Below W.heap.size W w') := by
  obtain ⟨v0, _, e, a0, v1, _, rfl, a1, v2, _, rfl, a2, v3, _, rfl, a3, v4, _, rfl, a4, rfl⟩ := h
  obtain rfl : args = ⟨[v0, v1, v2, v3, v4]⟩ := by cases args; simp_all
  obtain ⟨t, rfl, ht, _⟩ := a0.i64s (n := 258) (e := 3) (by kernel_rfl) (by kernel_rfl) (by kernel_rfl) (by kernel_rfl)
  obtain ⟨L, rfl, hL⟩ := a1.int (k := .i64) (by kernel_rfl)
  obtain ⟨i, rfl, hi⟩ := a2.int (k := .i64) (by kernel_rfl)
  obtain ⟨k, rfl, hk⟩ := a3.int (k := .i64) (by kernel_rfl)
  obtain ⟨c, rfl, hc⟩ := a4.int (k := .i64) (by kernel_rfl)
  exact pmTurned_law (t := t) (Hp.start W) ht fun w' h' => ⟨rfl, h'.below⟩

set_option maxRecDepth 100000 in
theorem packageMergeTurned_lifted (os : Os) (started : os.Started) (H : Type) (enc : TypeId × Value → H) :
    ReturnsInHanded {} Try.checked os 9 .any (Rows.packageMergeTurnedSpec.pre6 enc Try.prog Try.f9 Rows.packageMergeTurnedRow.domain false) (Rows.packageMergeTurnedSpec.post enc Try.prog Try.f9 false true false false) :=
  law_lift (C := Try.checked) (tb := 4) own started (by kernel_rfl) Try.func9
    (ChangeSpec.witness6 (enc := enc) (C := Try.checked) false ⟨#[], #[.agg ⟨List.replicate 258 (.int .i64 0)⟩, .int .i64 0, .int .i64 0, .int .i64 0, .int .i64 0], []⟩ 8 (by kernel_rfl) (by kernel_rfl) (by kernel_rfl) (by kernel_rfl))
    rfl (by kernel_rfl) (by kernel_rfl) packageMergeTurned_spec laidOut (by kernel_rfl) (fun W args ds h hz => packageMergeTurned_args W args ds (by rw [Try.params9] at h; exact h) (by rw [Try.params9] at hz; exact hz))
theorem packageMergeTurned_proved : Rows.PackageMergeTurnedSaid :=
  OpenClaim.holds_of_wide 9 Try.f9 rfl rfl rfl rfl rfl rfl rfl ⟨rfl, rfl, rfl, rfl, rfl⟩ rfl rfl rfl rfl rfl (by kernel_rfl) Try.func9 (by kernel_rfl)
    (of_decide_eq_true (by kernel_rfl)) (by unfold Func.isWrapper; first | (rw [if_pos (by decide +kernel)]; kernel_rfl) | (rw [if_neg (by decide +kernel)]; exact ⟨rfl, rfl⟩))
    (fun os started H enc _ => packageMergeTurned_lifted os started H enc)
end Go.Proofs.Ytcidpcahgkngjaa
