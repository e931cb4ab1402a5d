/-
  The statement StreamCut holds: for all arguments the law returns true and its arguments read as before. Conditions: none.
-/
import Derived.Test.YtcdpblipagajiaaGreatRows
import Derived.Test.YtcdpblipagajiaaGreatQce
set_option linter.unusedSimpArgs false
set_option linter.unusedVariables false
set_option maxRecDepth 20000
namespace Go.Proofs.YtcdpblipagajiaaGreat
open Go Go.Vc Go.RowKit Go.ChangeShapes Go.WideShapes
theorem own : ownKnob Tryz.prog.godebug = none := by kernel_rfl
theorem laidOut : laidOutB Tryz.prog = true := by kernel_rfl
theorem ux {H : Type} (ds : List (DataW H)) (h : ds.length = 4) : Rows.streamCutSpec.fn H ds = { results := [.lit (.bool true)], args := ds } := by
  match ds, h with
  | [_, _, _, _], _ => rfl
theorem uO {H : Type} {enc : TypeId × Value → H} (W : World) (args : Array Value) (ds : List (DataW H)) (h : CC enc Tryz.prog W [3, 51, 3, 22] args.toList) (_ : (DataW.weightsEach Tryz.prog [3, 51, 3, 22] ds).all (· ≤ reachBytes) = true) :
    Cl Tryz.prog [kB] gY args W (fun b w' => b = true ∧ Below W.heap.size W w') := by
  obtain ⟨v0, _, e, a0, v1, _, rfl, a1, v2, _, rfl, a2, v3, _, rfl, a3, rfl⟩ := h
  obtain rfl : args = ⟨[v0, v1, v2, v3]⟩ := by cases args; simp_all
  obtain ⟨n, rfl, hn⟩ := a0.int (k := .i64) (by kernel_rfl)
  obtain ⟨s, ps, rfl, hs1, hs2, _⟩ := a1.chunks (e := 22) (u := 5) (by kernel_rfl) (by kernel_rfl) (by kernel_rfl) (by kernel_rfl) (by kernel_rfl)
  obtain ⟨m, rfl, hm⟩ := a2.int (k := .i64) (by kernel_rfl)
  obtain ⟨u, o, rfl, hu, hub, hu1, hu2⟩ := a3.bytes (e := 5) (by kernel_rfl) (by kernel_rfl) (by kernel_rfl)
  exact wA (ps := ps) (o := o) (Hp.start W) (fun w f a b => ⟨ab.Ir hs1 w f a b, fun x hx => ab.Ir (hs2 x hx).1 w f a b⟩) (fun x hx => (hs2 x hx).2.2.1) (fun x hx => (hs2 x hx).2.1) (ab.Ir hu) hub fun w' h' => ⟨rfl, h'.below⟩

set_option maxRecDepth 100000 in
theorem sg (os : Os) (started : os.Started) (H : Type) (enc : TypeId × Value → H) :
    ReturnsInHanded {} Tryz.checked os 9 .any (Rows.streamCutSpec.pre6 enc Tryz.prog Tryz.f9 Rows.streamCutRow.domain false) (Rows.streamCutSpec.post enc Tryz.prog Tryz.f9 false true false false) :=
  ET (C := Tryz.checked) (tb := 4) own started (by kernel_rfl) Tryz.func9
    (ChangeSpec.witness6 (enc := enc) (C := Tryz.checked) false ⟨#[], #[.int .i64 0, .slice none 0 0, .int .i64 0, .slice none 0 0], []⟩ 8 (by kernel_rfl) (by kernel_rfl) (by kernel_rfl) (by kernel_rfl))
    rfl (by kernel_rfl) (by kernel_rfl) ux laidOut (by kernel_rfl) (fun W args ds h hz => uO W args ds (by rw [Tryz.params9] at h; exact h) (by rw [Tryz.params9] at hz; exact hz))
theorem streamCut_proved : Rows.StreamCutSaid :=
  OpenClaim.holds_of_wide 9 Tryz.f9 rfl rfl rfl rfl rfl rfl rfl ⟨rfl, rfl, rfl, rfl, rfl⟩ rfl rfl rfl rfl rfl (by kernel_rfl) Tryz.func9 (by kernel_rfl)
    (of_decide_eq_true (by kernel_rfl)) (by unfold Func.isWrapper; first | (rw [if_pos (by decide +kernel)]; kernel_rfl) | (rw [if_neg (by decide +kernel)]; exact ⟨rfl, rfl⟩))
    (fun os started H enc _ => sg os started H enc)
end Go.Proofs.YtcdpblipagajiaaGreat
