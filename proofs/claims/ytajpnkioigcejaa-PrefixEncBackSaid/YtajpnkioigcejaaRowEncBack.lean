/-
  The statement PrefixEncBack holds: for all lengths and symbols the law returns true and its arguments read as before. Conditions: none.
-/
import Derived.Test.YtajpnkioigcejaaRows
import Derived.Test.YtajpnkioigcejaaLaw11b
import Derived.Test.YtajpnkioigcejaaLiftA
namespace Go.Proofs.Ytajpnkioigcejaa
open Go Go.Vc Go.Srt Go.RowKit Go.ChangeShapes Go.WideShapes
theorem own : ownKnob Try.prog.godebug = none := by kernel_rfl
theorem laidOut : laidOutB Try.prog = true := by kernel_rfl
theorem prefixEncBack_spec {H : Type} (ds : List (DataW H)) (h : ds.length = 2) : Rows.prefixEncBackSpec.fn H ds = { results := [.lit (.bool true)], args := ds } := by
  match ds, h with
  | [_, _], _ => rfl
theorem prefixEncBack_args {H : Type} {enc : TypeId × Value → H} (W : World) (args : Array Value) (ds : List (DataW H)) (h : ArgL enc Try.prog W [23, 24] args.toList) (hw : (DataW.weightsEach Try.prog [23, 24] ds).all (· ≤ reachBytes) = true) :
    Cl Try.prog [kB] n_law11_PrefixEncBack args W (fun b w' => b = true ∧ Below W.heap.size W w') := by
  obtain ⟨v0, _, e, a0, v1, _, rfl, a1, rfl⟩ := h
  obtain rfl : args = ⟨[v0, v1]⟩ := by cases args; simp_all
  obtain ⟨l, rfl, hl, hlb⟩ := a0.u8s (n := 258) (e := 5) (by kernel_rfl) (by kernel_rfl) (by kernel_rfl) (by kernel_rfl)
  obtain ⟨s, zs, rfl, hs, hzsw, hs1, hs2⟩ := a1.ints (e := 3) (k := .i64) (by kernel_rfl) (by kernel_rfl) (by kernel_rfl)
  exact encBack_law (zs := zs) (Hp.start W) hl (Tells.slT hs) fun w' h' => ⟨rfl, h'.below⟩

set_option maxRecDepth 100000 in
theorem prefixEncBack_lifted (os : Os) (started : os.Started) (H : Type) (enc : TypeId × Value → H) :
    ReturnsInHanded {} Try.checked os 6 .any (Rows.prefixEncBackSpec.pre6 enc Try.prog Try.f6 Rows.prefixEncBackRow.domain false) (Rows.prefixEncBackSpec.post enc Try.prog Try.f6 false true false false) :=
  law_lift (C := Try.checked) (tb := 4) own started (by kernel_rfl) Try.func6
    (ChangeSpec.witness6 (enc := enc) (C := Try.checked) false ⟨#[], #[.agg ⟨List.replicate 258 (.int .u8 0)⟩, .slice none 0 0], []⟩ 8 (by kernel_rfl) (by kernel_rfl) (by kernel_rfl) (by kernel_rfl))
    rfl (by kernel_rfl) (by kernel_rfl) prefixEncBack_spec laidOut (by kernel_rfl) (fun W args ds h hz => prefixEncBack_args W args ds (by rw [Try.params6] at h; exact h) (by rw [Try.params6] at hz; exact hz))
theorem prefixEncBack_proved : Rows.PrefixEncBackSaid :=
  OpenClaim.holds_of_wide 6 Try.f6 rfl rfl rfl rfl rfl rfl rfl ⟨rfl, rfl, rfl, rfl, rfl⟩ rfl rfl rfl rfl rfl (by kernel_rfl) Try.func6 (by kernel_rfl)
    (of_decide_eq_true (by kernel_rfl)) (by unfold Func.isWrapper; first | (rw [if_pos (by decide +kernel)]; kernel_rfl) | (rw [if_neg (by decide +kernel)]; exact ⟨rfl, rfl⟩))
    (fun os started H enc _ => prefixEncBack_lifted os started H enc)
end Go.Proofs.Ytajpnkioigcejaa
