/-
  The statement BlockHeads holds: for all arguments the law returns true and its arguments read as before. Conditions: none.
-/
import Derived.Test.YtcdpblipagajiaaGreatRows
import Derived.Test.YtcdpblipagajiaaGreatQhe
set_option linter.unusedSimpArgs false
set_option linter.unusedVariables false
set_option maxRecDepth 20000
namespace Go.Proofs.YtcdpblipagajiaaGreat
open Go Go.Vc Go.RowKit Go.ChangeShapes Go.WideShapes
theorem own : ownKnob Tryz.prog.godebug = none := by kernel_rfl
theorem laidOut : laidOutB Tryz.prog = true := by kernel_rfl
theorem tV {H : Type} (ds : List (DataW H)) (h : ds.length = 4) : Rows.blockHeadsSpec.fn H ds = { results := [.lit (.bool true)], args := ds } := by
  match ds, h with
  | [_, _, _, _], _ => rfl
theorem sX {H : Type} {enc : TypeId × Value → H} (W : World) (args : Array Value) (ds : List (DataW H)) (h : BQ enc Tryz.prog W [22, 3, 49, 3] args.toList) (_ : (DataW.weightsEach Tryz.prog [22, 3, 49, 3] ds).all (· ≤ reachBytes) = true) :
    Cl Tryz.prog [kB] fW args W (fun b w' => b = true ∧ Below W.heap.size W w') := by
  obtain ⟨v0, _, e, a0, v1, _, rfl, a1, v2, _, rfl, a2, v3, _, rfl, a3, rfl⟩ := h
  obtain rfl : args = ⟨[v0, v1, v2, v3]⟩ := by cases args; simp_all
  obtain ⟨s, x, rfl, hs, hsb, hs1, hs2⟩ := a0.bytes (e := 5) (by kernel_rfl) (by kernel_rfl) (by kernel_rfl)
  obtain ⟨n, rfl, hn⟩ := a1.int (k := .i64) (by kernel_rfl)
  obtain ⟨c, rfl, hc⟩ := a2.int (k := .u32) (by kernel_rfl)
  obtain ⟨m, rfl, hm⟩ := a3.int (k := .i64) (by kernel_rfl)
  have hc := wf_u32 hc
  obtain ⟨k, rfl⟩ : ∃ k : Nat, c = (k : Int) := ⟨c.toNat, by omega⟩
  exact uf (x := x) (Hp.start W) (ab.Ke hs) hsb (by omega) fun w' h' => ⟨rfl, h'.below⟩

set_option maxRecDepth 100000 in
theorem rm (os : Os) (started : os.Started) (H : Type) (enc : TypeId × Value → H) :
    ReturnsInHanded {} Tryz.checked os 6 .any (Rows.blockHeadsSpec.pre6 enc Tryz.prog Tryz.f6 Rows.blockHeadsRow.domain false) (Rows.blockHeadsSpec.post enc Tryz.prog Tryz.f6 false true false false) :=
  E3 (C := Tryz.checked) (tb := 4) own started (by kernel_rfl) Tryz.func6
    (ChangeSpec.witness6 (enc := enc) (C := Tryz.checked) false ⟨#[], #[.slice none 0 0, .int .i64 0, .int .u32 0, .int .i64 0], []⟩ 8 (by kernel_rfl) (by kernel_rfl) (by kernel_rfl) (by kernel_rfl))
    rfl (by kernel_rfl) (by kernel_rfl) tV laidOut (by kernel_rfl) (fun W args ds h hz => sX W args ds (by rw [Tryz.params6] at h; exact h) (by rw [Tryz.params6] at hz; exact hz))
theorem blockHeads_proved : Rows.BlockHeadsSaid :=
  OpenClaim.holds_of_wide 6 Tryz.f6 rfl rfl rfl rfl rfl rfl rfl ⟨rfl, rfl, rfl, rfl, rfl⟩ rfl rfl rfl rfl rfl (by kernel_rfl) Tryz.func6 (by kernel_rfl)
    (of_decide_eq_true (by kernel_rfl)) (by unfold Func.isWrapper; first | (rw [if_pos (by decide +kernel)]; kernel_rfl) | (rw [if_neg (by decide +kernel)]; exact ⟨rfl, rfl⟩))
    (fun os started H enc _ => rm os started H enc)
end Go.Proofs.YtcdpblipagajiaaGreat
