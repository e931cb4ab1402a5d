/-
  The statement ParserChunks holds: for all chunks of bytes the law returns true and its argument reads as before. Conditions: none.
-/
import Derived.Test.YtjnjjibmlalpiaaRows
import Derived.Test.YtjnjjibmlalpiaaPf
set_option linter.unusedSimpArgs false
set_option linter.unusedVariables false
namespace Go.Proofs.Ytjnjjibmlalpiaa
open Go Go.Vc Go.RowKit Go.ChangeShapes Go.WideShapes
theorem own : ownKnob Try.prog.godebug = none := by kernel_rfl
theorem laidOut : laidOutB Try.prog = true := by kernel_rfl
theorem parserChunks_spec {H : Type} (ds : List (DataW H)) (h : ds.length = 1) : Rows.parserChunksSpec.fn H ds = { results := [.lit (.bool true)], args := ds } := by
  match ds, h with
  | [_], _ => rfl
theorem parserChunks_args {H : Type} {enc : TypeId × Value → H} (W : World) (args : Array Value) (ds : List (DataW H)) (h : ArgL enc Try.prog W [22] args.toList) (_ : (DataW.weightsEach Try.prog [22] ds).all (· ≤ reachBytes) = true) :
    Cl Try.prog [kB] n_law27_ParserChunks args W (fun b w' => b = true ∧ Below W.heap.size W w') := by
  obtain ⟨v0, _, e, a0, rfl⟩ := h
  obtain rfl : args = ⟨[v0]⟩ := by cases args; simp_all
  obtain ⟨s, l, rfl, h1, h2, _⟩ := a0.chunks (e := 25) (u := 5) (by kernel_rfl) (by kernel_rfl) (by kernel_rfl) (by kernel_rfl) (by kernel_rfl)
  refine chunks_law (cs := l.map (·.1)) (bs := l.map (·.2)) (Hp.start W) (Tells.slT (by rw [List.map_map]; exact h1)) (by simp) ?_ ?_ fun w' h' => ⟨rfl, h'.below⟩
  · intro i hi
    have hi' : i < l.length := by simpa using hi
    have := (h2 _ (List.getElem_mem hi')).1
    simp only [List.getElem_map, List.getD_eq_getElem?_getD, List.getElem?_map, List.getElem?_eq_getElem hi', Option.map_some, Option.getD_some]
    exact Tells.slT this
  · intro b hb
    obtain ⟨a, ha, rfl⟩ := List.mem_map.1 hb
    exact (h2 a ha).2.1

set_option maxRecDepth 100000 in
theorem parserChunks_lifted (os : Os) (started : os.Started) (H : Type) (enc : TypeId × Value → H) :
    ReturnsInHanded {} Try.checked os 3 .any (Rows.parserChunksSpec.pre6 enc Try.prog Try.f3 Rows.parserChunksRow.domain false) (Rows.parserChunksSpec.post enc Try.prog Try.f3 false true false false) :=
  law_lift (C := Try.checked) (tb := 4) own started (by kernel_rfl) Try.func3
    (ChangeSpec.witness6 (enc := enc) (C := Try.checked) false ⟨#[], #[.slice none 0 0], []⟩ 8 (by kernel_rfl) (by kernel_rfl) (by kernel_rfl) (by kernel_rfl))
    rfl (by kernel_rfl) (by kernel_rfl) parserChunks_spec laidOut (by kernel_rfl) (fun W args ds h hz => parserChunks_args W args ds (by rw [Try.params3] at h; exact h) (by rw [Try.params3] at hz; exact hz))
theorem parserChunks_proved : Rows.ParserChunksSaid :=
  OpenClaim.holds_of_wide 3 Try.f3 rfl rfl rfl rfl rfl rfl rfl ⟨rfl, rfl, rfl, rfl, rfl⟩ rfl rfl rfl rfl rfl (by kernel_rfl) Try.func3 (by kernel_rfl)
    (of_decide_eq_true (by kernel_rfl)) (by unfold Func.isWrapper; first | (rw [if_pos (by decide +kernel)]; kernel_rfl) | (rw [if_neg (by decide +kernel)]; exact ⟨rfl, rfl⟩))
    (fun os started H enc _ => parserChunks_lifted os started H enc)
end Go.Proofs.Ytjnjjibmlalpiaa
