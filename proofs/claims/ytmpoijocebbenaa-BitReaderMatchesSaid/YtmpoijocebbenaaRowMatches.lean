/-
  The statement BitReaderMatches holds: for all lists of operations the law returns true and its argument reads as before. Conditions: none.
-/
import Derived.Test.YtmpoijocebbenaaRows
import Derived.Test.YtmpoijocebbenaaLawB
import Derived.Test.YtmpoijocebbenaaLift
namespace Go.Proofs.Ytmpoijocebbenaa
open Go Go.Vc Go.Bits Go.RowKit Go.ChangeShapes Go.WideShapes

theorem own : ownKnob Try.prog.godebug = none := by kernel_rfl
theorem laidOut : laidOutB Try.prog = true := by kernel_rfl
theorem bitReaderMatches_spec {H : Type} (ds : List (DataW H)) (h : ds.length = 1) : Rows.bitReaderMatchesSpec.fn H ds = { results := [.lit (.bool true)], args := ds } := by
  match ds, h with
  | [_], _ => rfl
theorem bitReaderMatches_args {H : Type} {enc : TypeId × Value → H} (W : World) (args : Array Value) (ds : List (DataW H)) (h : ArgL enc Try.prog W [22] args.toList) (_ : (DataW.weightsEach Try.prog [22] ds).all (· ≤ reachBytes) = true) :
    Cl Try.prog [kB] n_law03_BitReaderMatches args W (fun b w' => b = true ∧ Below W.heap.size W w') := by
  obtain ⟨v0, _, e, a0, rfl⟩ := h
  obtain rfl : args = ⟨[v0]⟩ := by cases args; simp_all
  obtain ⟨s, xs, hv, h2, h3, h4, h5, h6, h7⟩ := (a0.slice (e := 32) (by kernel_rfl)).slice (e := 32) (by kernel_rfl)
  have hv : v0 = .slice s.base s.len s.cap := by simpa using hv
  subst hv
  obtain ⟨l, rfl, hl⟩ := rows_of (g := fun a : Op3 => [Value.int .i64 a.doo, .int .i64 a.width, .slice a.chunk.base a.chunk.len a.chunk.cap]) (Good := fun a => IsBytes W a.chunk a.bytes) (xs := xs) fun x hx => by
    have hx5 := h5 x hx
    have hlen := hx5.flen 3 (by kernel_rfl)
    match x, hlen with
    | [x0, x1, x2], _ =>
      obtain ⟨d, hd, _⟩ := (hx5.field 0 3 0 1 (by kernel_rfl)).int (k := .i64) (by kernel_rfl)
      obtain ⟨n, hn, _⟩ := (hx5.field 1 3 1 1 (by kernel_rfl)).int (k := .i64) (by kernel_rfl)
      obtain ⟨c, b, hc, hb⟩ := (hx5.field 2 28 2 1 (by kernel_rfl)).bytes (e := 5) (by kernel_rfl) (by kernel_rfl) (by kernel_rfl)
      simp only [List.drop_zero, List.take_succ_cons, List.take_zero, List.drop_succ_cons, List.cons.injEq, and_true] at hd hn hc
      subst hd; subst hn; subst hc
      exact ⟨⟨d, n, c, b⟩, rfl, hb⟩
  have hcl : Try.prog.cellsOf 32 = 3 := by kernel_rfl
  rw [hcl] at h7
  refine matches_law (l := l) (Hp.start W) (Tells.slT (by unfold opCells; rw [List.flatMap_def]; exact h7)) (by simpa using h4.symm) (fun a ha => Tells.slT (hl a ha).1) (fun a ha => (hl a ha).2.1) fun w' h' => ⟨rfl, h'.below⟩

set_option maxRecDepth 100000 in
theorem bitReaderMatches_lifted (os : Os) (started : os.Started) (H : Type) (enc : TypeId × Value → H) :
    ReturnsInHanded {} Try.checked os 3 .any (Rows.bitReaderMatchesSpec.pre6 enc Try.prog Try.f3 Rows.bitReaderMatchesRow.domain false) (Rows.bitReaderMatchesSpec.post enc Try.prog Try.f3 false true false false) :=
  law_lift (C := Try.checked) (tb := 4) own started (by kernel_rfl) Try.func3
    (ChangeSpec.witness6 (enc := enc) (C := Try.checked) false ⟨#[], #[.slice none 0 0], []⟩ 8 (by kernel_rfl) (by kernel_rfl) (by kernel_rfl) (by kernel_rfl))
    rfl (by kernel_rfl) (by kernel_rfl) bitReaderMatches_spec laidOut (by kernel_rfl) (fun W args ds h hz => bitReaderMatches_args W args ds (by rw [Try.params3] at h; exact h) (by rw [Try.params3] at hz; exact hz))
theorem bitReaderMatches_proved : Rows.BitReaderMatchesSaid :=
  OpenClaim.holds_of_wide 3 Try.f3 rfl rfl rfl rfl rfl rfl rfl ⟨rfl, rfl, rfl, rfl, rfl⟩ rfl rfl rfl rfl rfl (by kernel_rfl) Try.func3 (by kernel_rfl)
    (of_decide_eq_true (by kernel_rfl)) (by unfold Func.isWrapper; first | (rw [if_pos (by decide +kernel)]; kernel_rfl) | (rw [if_neg (by decide +kernel)]; exact ⟨rfl, rfl⟩))
    (fun os started H enc _ => bitReaderMatches_lifted os started H enc)
end Go.Proofs.Ytmpoijocebbenaa
