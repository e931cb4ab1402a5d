/-
  The statement StreamBlocks holds: for all arguments the law returns true and its arguments read as before. Conditions: none.
-/
import Derived.Test.YtcdpblipagajiaaGreatRows
import Derived.Test.YtcdpblipagajiaaGreatQke
set_option linter.unusedSimpArgs false
set_option linter.unusedVariables false
set_option maxRecDepth 20000
namespace Go.Proofs.YtcdpblipagajiaaGreat
open Go Go.Vc Go.RowKit Go.ChangeShapes Go.WideShapes
theorem own : ownKnob Tryz.prog.godebug = none := by kernel_rfl
theorem laidOut : laidOutB Tryz.prog = true := by kernel_rfl
theorem rl {H : Type} (ds : List (DataW H)) (h : ds.length = 4) : Rows.streamBlocksSpec.fn H ds = { results := [.lit (.bool true)], args := ds } := by
  match ds, h with
  | [_, _, _, _], _ => rfl
theorem rq {H : Type} {enc : TypeId × Value → H} (W : World) (args : Array Value) (ds : List (DataW H)) (h : Cp enc Tryz.prog W [3, 51, 3, 22] args.toList) (_ : (DataW.weightsEach Tryz.prog [3, 51, 3, 22] ds).all (· ≤ reachBytes) = true) :
    Cl Tryz.prog [kB] fA args W (fun b w' => b = true ∧ Below W.heap.size W w') := by
  obtain ⟨v0, _, e, a0, v1, _, rfl, a1, v2, _, rfl, a2, v3, _, rfl, a3, rfl⟩ := h
  obtain rfl : args = ⟨[v0, v1, v2, v3]⟩ := by cases args; simp_all
  obtain ⟨n, rfl, hn⟩ := a0.int (k := .i64) (by kernel_rfl)
  obtain ⟨s, ps, rfl, hs1, hs2, _⟩ := a1.chunks (e := 22) (u := 5) (by kernel_rfl) (by kernel_rfl) (by kernel_rfl) (by kernel_rfl) (by kernel_rfl)
  obtain ⟨m, rfl, hm⟩ := a2.int (k := .i64) (by kernel_rfl)
  obtain ⟨u, o, rfl, hu, hub, hu1, hu2⟩ := a3.bytes (e := 5) (by kernel_rfl) (by kernel_rfl) (by kernel_rfl)
  exact rU (ps := ps) (o := o) (Hp.start W) (fun w f a b => ⟨ab.JA hs1 w f a b, fun x hx => ab.JA (hs2 x hx).1 w f a b⟩) (fun x hx => (hs2 x hx).2.2.1) (fun x hx => (hs2 x hx).2.1) (ab.JA hu) hub hu1 fun w' h' => ⟨rfl, h'.below⟩

set_option maxRecDepth 100000 in
theorem pS (os : Os) (started : os.Started) (H : Type) (enc : TypeId × Value → H) :
    ReturnsInHanded {} Tryz.checked os 10 .any (Rows.streamBlocksSpec.pre6 enc Tryz.prog Tryz.f10 Rows.streamBlocksRow.domain false) (Rows.streamBlocksSpec.post enc Tryz.prog Tryz.f10 false true false false) :=
  GK (C := Tryz.checked) (tb := 4) own started (by kernel_rfl) Tryz.func10
    (ChangeSpec.witness6 (enc := enc) (C := Tryz.checked) false ⟨#[], #[.int .i64 0, .slice none 0 0, .int .i64 0, .slice none 0 0], []⟩ 8 (by kernel_rfl) (by kernel_rfl) (by kernel_rfl) (by kernel_rfl))
    rfl (by kernel_rfl) (by kernel_rfl) rl laidOut (by kernel_rfl) (fun W args ds h hz => rq W args ds (by rw [Tryz.params10] at h; exact h) (by rw [Tryz.params10] at hz; exact hz))
theorem streamBlocks_proved : Rows.StreamBlocksSaid :=
  OpenClaim.holds_of_wide 10 Tryz.f10 rfl rfl rfl rfl rfl rfl rfl ⟨rfl, rfl, rfl, rfl, rfl⟩ rfl rfl rfl rfl rfl (by kernel_rfl) Tryz.func10 (by kernel_rfl)
    (of_decide_eq_true (by kernel_rfl)) (by unfold Func.isWrapper; first | (rw [if_pos (by decide +kernel)]; kernel_rfl) | (rw [if_neg (by decide +kernel)]; exact ⟨rfl, rfl⟩))
    (fun os started H enc _ => pS os started H enc)
end Go.Proofs.YtcdpblipagajiaaGreat
