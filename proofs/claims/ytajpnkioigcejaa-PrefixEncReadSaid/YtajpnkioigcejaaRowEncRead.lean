/-
  The statement PrefixEncRead holds: for all lengths, bytes and numbers the law returns true and its arguments read as before. Conditions: none.
-/
import Derived.Test.YtajpnkioigcejaaRows
import Derived.Test.YtajpnkioigcejaaLaw11c
import Derived.Test.YtajpnkioigcejaaLiftA
namespace Go.Proofs.Ytajpnkioigcejaa
open Go Go.Vc Go.Srt Go.RowKit Go.ChangeShapes Go.WideShapes
theorem own : ownKnob Try.prog.godebug = none := by kernel_rfl
theorem laidOut : laidOutB Try.prog = true := by kernel_rfl
theorem prefixEncRead_spec {H : Type} (ds : List (DataW H)) (h : ds.length = 4) : Rows.prefixEncReadSpec.fn H ds = { results := [.lit (.bool true)], args := ds } := by
  match ds, h with
  | [_, _, _, _], _ => rfl
theorem prefixEncRead_args {H : Type} {enc : TypeId × Value → H} (W : World) (args : Array Value) (ds : List (DataW H)) (h : ArgL enc Try.prog W [23, 44, 3, 3] args.toList) (hw : (DataW.weightsEach Try.prog [23, 44, 3, 3] ds).all (· ≤ reachBytes) = true) :
    Cl Try.prog [kB] n_law11_PrefixEncRead args W (fun b w' => b = true ∧ Below W.heap.size W w') := by
  obtain ⟨v0, _, e, a0, v1, _, rfl, a1, v2, _, rfl, a2, v3, _, rfl, a3, rfl⟩ := h
  obtain rfl : args = ⟨[v0, v1, v2, v3]⟩ := by cases args; simp_all
  obtain ⟨l, rfl, hl, hlb⟩ := a0.u8s (n := 258) (e := 5) (by kernel_rfl) (by kernel_rfl) (by kernel_rfl) (by kernel_rfl)
  obtain ⟨s, b, rfl, hs, hsb, hs1, hs2⟩ := a1.bytes (e := 5) (by kernel_rfl) (by kernel_rfl) (by kernel_rfl)
  obtain ⟨m, rfl, hm⟩ := a2.int (k := .i64) (by kernel_rfl)
  obtain ⟨p, rfl, hp⟩ := a3.int (k := .i64) (by kernel_rfl)
  exact encRead_law (bs := b) (Hp.start W) hl (Tells.slT hs) hsb fun w' h' => ⟨rfl, h'.below⟩

set_option maxRecDepth 100000 in
theorem prefixEncRead_lifted (os : Os) (started : os.Started) (H : Type) (enc : TypeId × Value → H) :
    ReturnsInHanded {} Try.checked os 7 .any (Rows.prefixEncReadSpec.pre6 enc Try.prog Try.f7 Rows.prefixEncReadRow.domain false) (Rows.prefixEncReadSpec.post enc Try.prog Try.f7 false true false false) :=
  law_lift (C := Try.checked) (tb := 4) own started (by kernel_rfl) Try.func7
    (ChangeSpec.witness6 (enc := enc) (C := Try.checked) false ⟨#[], #[.agg ⟨List.replicate 258 (.int .u8 0)⟩, .slice none 0 0, .int .i64 0, .int .i64 0], []⟩ 8 (by kernel_rfl) (by kernel_rfl) (by kernel_rfl) (by kernel_rfl))
    rfl (by kernel_rfl) (by kernel_rfl) prefixEncRead_spec laidOut (by kernel_rfl) (fun W args ds h hz => prefixEncRead_args W args ds (by rw [Try.params7] at h; exact h) (by rw [Try.params7] at hz; exact hz))
theorem prefixEncRead_proved : Rows.PrefixEncReadSaid :=
  OpenClaim.holds_of_wide 7 Try.f7 rfl rfl rfl rfl rfl rfl rfl ⟨rfl, rfl, rfl, rfl, rfl⟩ rfl rfl rfl rfl rfl (by kernel_rfl) Try.func7 (by kernel_rfl)
    (of_decide_eq_true (by kernel_rfl)) (by unfold Func.isWrapper; first | (rw [if_pos (by decide +kernel)]; kernel_rfl) | (rw [if_neg (by decide +kernel)]; exact ⟨rfl, rfl⟩))
    (fun os started H enc _ => prefixEncRead_lifted os started H enc)
end Go.Proofs.Ytajpnkioigcejaa
