/-
  The statement PrefixEncMatches holds: for all arguments the law returns true and its arguments read as before. Conditions: none.
-/
import Derived.Test.YtajpnkioigcejaaRows
import Derived.Test.YtajpnkioigcejaaLaw11e
import Derived.Test.YtajpnkioigcejaaLiftA
namespace Go.Proofs.Ytajpnkioigcejaa
open Go Go.Vc Go.Srt Go.RowKit Go.ChangeShapes Go.WideShapes
theorem own : ownKnob Try.prog.godebug = none := by kernel_rfl
theorem laidOut : laidOutB Try.prog = true := by kernel_rfl
theorem prefixEncMatches_spec {H : Type} (ds : List (DataW H)) (h : ds.length = 6) : Rows.prefixEncMatchesSpec.fn H ds = { results := [.lit (.bool true)], args := ds } := by
  match ds, h with
  | [_, _, _, _, _, _], _ => rfl
theorem prefixEncMatches_args {H : Type} {enc : TypeId × Value → H} (W : World) (args : Array Value) (ds : List (DataW H)) (h : ArgL enc Try.prog W [23, 24, 44, 3, 44, 3] args.toList) (hw : (DataW.weightsEach Try.prog [23, 24, 44, 3, 44, 3] ds).all (· ≤ reachBytes) = true) :
    Cl Try.prog [kB] n_law11_PrefixEncMatches args W (fun b w' => b = true ∧ Below W.heap.size W w') := by
  obtain ⟨v0, _, e, a0, v1, _, rfl, a1, v2, _, rfl, a2, v3, _, rfl, a3, v4, _, rfl, a4, v5, _, rfl, a5, rfl⟩ := h
  obtain rfl : args = ⟨[v0, v1, v2, v3, v4, v5]⟩ := by cases args; simp_all
  obtain ⟨l, rfl, hl, hlb⟩ := a0.u8s (n := 258) (e := 5) (by kernel_rfl) (by kernel_rfl) (by kernel_rfl) (by kernel_rfl)
  obtain ⟨s, zs, rfl, hs, hzsw, hs1, hs2⟩ := a1.ints (e := 3) (k := .i64) (by kernel_rfl) (by kernel_rfl) (by kernel_rfl)
  obtain ⟨sb, bs, rfl, hsb, hsbb, hsb1, hsb2⟩ := a2.bytes (e := 5) (by kernel_rfl) (by kernel_rfl) (by kernel_rfl)
  obtain ⟨m, rfl, hm⟩ := a3.int (k := .i64) (by kernel_rfl)
  obtain ⟨sa, ab, rfl, hsa, hsab, hsa1, hsa2⟩ := a4.bytes (e := 5) (by kernel_rfl) (by kernel_rfl) (by kernel_rfl)
  obtain ⟨f, rfl, hf⟩ := a5.int (k := .i64) (by kernel_rfl)
  exact encMatches_law (zs := zs) (bs := bs) (ab := ab) (Hp.start W) hl (fun x hx => by have := hlb x hx; omega) (Tells.slT hs) (Tells.slT hsb) hsbb (Tells.slT hsa) hsab fun w' h' => ⟨rfl, h'.below⟩

set_option maxRecDepth 100000 in
theorem prefixEncMatches_lifted (os : Os) (started : os.Started) (H : Type) (enc : TypeId × Value → H) :
    ReturnsInHanded {} Try.checked os 5 .any (Rows.prefixEncMatchesSpec.pre6 enc Try.prog Try.f5 Rows.prefixEncMatchesRow.domain false) (Rows.prefixEncMatchesSpec.post enc Try.prog Try.f5 false true false false) :=
  law_lift (C := Try.checked) (tb := 4) own started (by kernel_rfl) Try.func5
    (ChangeSpec.witness6 (enc := enc) (C := Try.checked) false ⟨#[], #[.agg ⟨List.replicate 258 (.int .u8 0)⟩, .slice none 0 0, .slice none 0 0, .int .i64 0, .slice none 0 0, .int .i64 0], []⟩ 8 (by kernel_rfl) (by kernel_rfl) (by kernel_rfl) (by kernel_rfl))
    rfl (by kernel_rfl) (by kernel_rfl) prefixEncMatches_spec laidOut (by kernel_rfl) (fun W args ds h hz => prefixEncMatches_args W args ds (by rw [Try.params5] at h; exact h) (by rw [Try.params5] at hz; exact hz))
theorem prefixEncMatches_proved : Rows.PrefixEncMatchesSaid :=
  OpenClaim.holds_of_wide 5 Try.f5 rfl rfl rfl rfl rfl rfl rfl ⟨rfl, rfl, rfl, rfl, rfl⟩ rfl rfl rfl rfl rfl (by kernel_rfl) Try.func5 (by kernel_rfl)
    (of_decide_eq_true (by kernel_rfl)) (by unfold Func.isWrapper; first | (rw [if_pos (by decide +kernel)]; kernel_rfl) | (rw [if_neg (by decide +kernel)]; exact ⟨rfl, rfl⟩))
    (fun os started H enc _ => prefixEncMatches_lifted os started H enc)
end Go.Proofs.Ytajpnkioigcejaa
