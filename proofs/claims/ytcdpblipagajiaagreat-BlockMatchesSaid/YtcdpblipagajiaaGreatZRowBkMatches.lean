/-
  The statement BlockMatches holds: for all arguments the law returns true and its arguments read as before. Conditions: none.
-/
import Derived.Test.YtcdpblipagajiaaGreatRows
import Derived.Test.YtcdpblipagajiaaGreatQmf
set_option linter.unusedSimpArgs false
set_option linter.unusedVariables false
set_option maxRecDepth 20000
namespace Go.Proofs.YtcdpblipagajiaaGreat
open Go Go.Vc Go.RowKit Go.ChangeShapes Go.WideShapes
theorem own : ownKnob Tryz.prog.godebug = none := by kernel_rfl
theorem laidOut : laidOutB Tryz.prog = true := by kernel_rfl
theorem tQ {H : Type} (ds : List (DataW H)) (h : ds.length = 3) : Rows.blockMatchesSpec.fn H ds = { results := [.lit (.bool true)], args := ds } := by
  match ds, h with
  | [_, _, _], _ => rfl
theorem tV {H : Type} {enc : TypeId × Value → H} (W : World) (args : Array Value) (ds : List (DataW H)) (h : Fg enc Tryz.prog W [3, 22, 22] args.toList) (_ : (DataW.weightsEach Tryz.prog [3, 22, 22] ds).all (· ≤ reachBytes) = true) :
    Cl Tryz.prog [kB] gj args W (fun b w' => b = true ∧ Below W.heap.size W w') := by
  obtain ⟨v0, _, e, a0, v1, _, rfl, a1, v2, _, rfl, a2, rfl⟩ := h
  obtain rfl : args = ⟨[v0, v1, v2]⟩ := by cases args; simp_all
  obtain ⟨n, rfl, hn⟩ := a0.int (k := .i64) (by kernel_rfl)
  obtain ⟨s, x, rfl, hs, hsb, hs1, hs2⟩ := a1.bytes (e := 5) (by kernel_rfl) (by kernel_rfl) (by kernel_rfl)
  obtain ⟨u, b, rfl, hu, hub, hu1, hu2⟩ := a2.bytes (e := 5) (by kernel_rfl) (by kernel_rfl) (by kernel_rfl)
  exact u3 (n := n) (x := x) (b := b) (Hp.start W) (ab.NG hs) (ab.NG hu) hsb hub hu1 fun w' h' => ⟨rfl, h'.below⟩

set_option maxRecDepth 100000 in
theorem r0 (os : Os) (started : os.Started) (H : Type) (enc : TypeId × Value → H) :
    ReturnsInHanded {} Tryz.checked os 3 .any (Rows.blockMatchesSpec.pre6 enc Tryz.prog Tryz.f3 Rows.blockMatchesRow.domain false) (Rows.blockMatchesSpec.post enc Tryz.prog Tryz.f3 false true false false) :=
  II (C := Tryz.checked) (tb := 4) own started (by kernel_rfl) Tryz.func3
    (ChangeSpec.witness6 (enc := enc) (C := Tryz.checked) false ⟨#[], #[.int .i64 0, .slice none 0 0, .slice none 0 0], []⟩ 8 (by kernel_rfl) (by kernel_rfl) (by kernel_rfl) (by kernel_rfl))
    rfl (by kernel_rfl) (by kernel_rfl) tQ laidOut (by kernel_rfl) (fun W args ds h hz => tV W args ds (by rw [Tryz.params3] at h; exact h) (by rw [Tryz.params3] at hz; exact hz))
theorem blockMatches_proved : Rows.BlockMatchesSaid :=
  OpenClaim.holds_of_wide 3 Tryz.f3 rfl rfl rfl rfl rfl rfl rfl ⟨rfl, rfl, rfl, rfl, rfl⟩ rfl rfl rfl rfl rfl (by kernel_rfl) Tryz.func3 (by kernel_rfl)
    (of_decide_eq_true (by kernel_rfl)) (by unfold Func.isWrapper; first | (rw [if_pos (by decide +kernel)]; kernel_rfl) | (rw [if_neg (by decide +kernel)]; exact ⟨rfl, rfl⟩))
    (fun os started H enc _ => r0 os started H enc)
end Go.Proofs.YtcdpblipagajiaaGreat
