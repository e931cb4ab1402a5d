/-
  The statement PrefixEncParts holds: for all lengths, symbols and split points the law returns true and its arguments read as before. Conditions: none.
-/
import Derived.Test.YtajpnkioigcejaaRows
import Derived.Test.YtajpnkioigcejaaLaw11d
import Derived.Test.YtajpnkioigcejaaLiftA
namespace Go.Proofs.Ytajpnkioigcejaa
open Go Go.Vc Go.Srt Go.RowKit Go.ChangeShapes Go.WideShapes
theorem own : ownKnob Try.prog.godebug = none := by kernel_rfl
theorem laidOut : laidOutB Try.prog = true := by kernel_rfl
theorem prefixEncParts_spec {H : Type} (ds : List (DataW H)) (h : ds.length = 3) : Rows.prefixEncPartsSpec.fn H ds = { results := [.lit (.bool true)], args := ds } := by
  match ds, h with
  | [_, _, _], _ => rfl
theorem prefixEncParts_args {H : Type} {enc : TypeId × Value → H} (W : World) (args : Array Value) (ds : List (DataW H)) (h : ArgL enc Try.prog W [23, 24, 3] args.toList) (hw : (DataW.weightsEach Try.prog [23, 24, 3] ds).all (· ≤ reachBytes) = true) :
    Cl Try.prog [kB] n_law11_PrefixEncParts args W (fun b w' => b = true ∧ Below W.heap.size W w') := by
  obtain ⟨v0, _, e, a0, v1, _, rfl, a1, v2, _, rfl, a2, rfl⟩ := h
  obtain rfl : args = ⟨[v0, v1, v2]⟩ := by cases args; simp_all
  obtain ⟨l, rfl, hl, hlb⟩ := a0.u8s (n := 258) (e := 5) (by kernel_rfl) (by kernel_rfl) (by kernel_rfl) (by kernel_rfl)
  obtain ⟨s, zs, rfl, hs, hzsw, hs1, hs2⟩ := a1.ints (e := 3) (k := .i64) (by kernel_rfl) (by kernel_rfl) (by kernel_rfl)
  obtain ⟨p, rfl, hp⟩ := a2.int (k := .i64) (by kernel_rfl)
  exact encParts_law (zs := zs) (Hp.start W) hl (Tells.slT hs) hs1 fun w' h' => ⟨rfl, h'.below⟩

set_option maxRecDepth 100000 in
theorem prefixEncParts_lifted (os : Os) (started : os.Started) (H : Type) (enc : TypeId × Value → H) :
    ReturnsInHanded {} Try.checked os 8 .any (Rows.prefixEncPartsSpec.pre6 enc Try.prog Try.f8 Rows.prefixEncPartsRow.domain false) (Rows.prefixEncPartsSpec.post enc Try.prog Try.f8 false true false false) :=
  law_lift (C := Try.checked) (tb := 4) own started (by kernel_rfl) Try.func8
    (ChangeSpec.witness6 (enc := enc) (C := Try.checked) false ⟨#[], #[.agg ⟨List.replicate 258 (.int .u8 0)⟩, .slice none 0 0, .int .i64 0], []⟩ 8 (by kernel_rfl) (by kernel_rfl) (by kernel_rfl) (by kernel_rfl))
    rfl (by kernel_rfl) (by kernel_rfl) prefixEncParts_spec laidOut (by kernel_rfl) (fun W args ds h hz => prefixEncParts_args W args ds (by rw [Try.params8] at h; exact h) (by rw [Try.params8] at hz; exact hz))
theorem prefixEncParts_proved : Rows.PrefixEncPartsSaid :=
  OpenClaim.holds_of_wide 8 Try.f8 rfl rfl rfl rfl rfl rfl rfl ⟨rfl, rfl, rfl, rfl, rfl⟩ rfl rfl rfl rfl rfl (by kernel_rfl) Try.func8 (by kernel_rfl)
    (of_decide_eq_true (by kernel_rfl)) (by unfold Func.isWrapper; first | (rw [if_pos (by decide +kernel)]; kernel_rfl) | (rw [if_neg (by decide +kernel)]; exact ⟨rfl, rfl⟩))
    (fun os started H enc _ => prefixEncParts_lifted os started H enc)
end Go.Proofs.Ytajpnkioigcejaa
