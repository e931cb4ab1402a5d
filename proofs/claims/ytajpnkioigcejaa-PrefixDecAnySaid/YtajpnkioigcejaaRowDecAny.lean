/-
  The statement PrefixDecAny holds: for all lengths and bits the law returns true and its arguments read as before. Conditions: none.
-/
import Derived.Test.YtajpnkioigcejaaRows
import Derived.Test.YtajpnkioigcejaaLaw12b
import Derived.Test.YtajpnkioigcejaaLiftA
namespace Go.Proofs.Ytajpnkioigcejaa
open Go Go.Vc Go.Srt Go.RowKit Go.ChangeShapes Go.WideShapes
theorem own : ownKnob Try.prog.godebug = none := by kernel_rfl
theorem laidOut : laidOutB Try.prog = true := by kernel_rfl
theorem prefixDecAny_spec {H : Type} (ds : List (DataW H)) (h : ds.length = 2) : Rows.prefixDecAnySpec.fn H ds = { results := [.lit (.bool true)], args := ds } := by
  match ds, h with
  | [_, _], _ => rfl
theorem prefixDecAny_args {H : Type} {enc : TypeId × Value → H} (W : World) (args : Array Value) (ds : List (DataW H)) (h : ArgL enc Try.prog W [23, 24] args.toList) (hw : (DataW.weightsEach Try.prog [23, 24] ds).all (· ≤ reachBytes) = true) :
    Cl Try.prog [kB] n_law12_PrefixDecAny args W (fun b w' => b = true ∧ Below W.heap.size W w') := by
  obtain ⟨v0, _, e, a0, v1, _, rfl, a1, rfl⟩ := h
  obtain rfl : args = ⟨[v0, v1]⟩ := by cases args; simp_all
  obtain ⟨l, rfl, hl, hlb⟩ := a0.u8s (n := 258) (e := 5) (by kernel_rfl) (by kernel_rfl) (by kernel_rfl) (by kernel_rfl)
  obtain ⟨s, bs, rfl, hs, hbsw, hs1, hs2⟩ := a1.ints (e := 3) (k := .i64) (by kernel_rfl) (by kernel_rfl) (by kernel_rfl)
  exact any12_law (bs := bs) (Hp.start W) hl (fun x hx => by have := hlb x hx; omega) (Tells.slT hs) fun w' h' => ⟨rfl, h'.below⟩

set_option maxRecDepth 100000 in
theorem prefixDecAny_lifted (os : Os) (started : os.Started) (H : Type) (enc : TypeId × Value → H) :
    ReturnsInHanded {} Try.checked os 3 .any (Rows.prefixDecAnySpec.pre6 enc Try.prog Try.f3 Rows.prefixDecAnyRow.domain false) (Rows.prefixDecAnySpec.post enc Try.prog Try.f3 false true false false) :=
  law_lift (C := Try.checked) (tb := 4) own started (by kernel_rfl) Try.func3
    (ChangeSpec.witness6 (enc := enc) (C := Try.checked) false ⟨#[], #[.agg ⟨List.replicate 258 (.int .u8 0)⟩, .slice none 0 0], []⟩ 8 (by kernel_rfl) (by kernel_rfl) (by kernel_rfl) (by kernel_rfl))
    rfl (by kernel_rfl) (by kernel_rfl) prefixDecAny_spec laidOut (by kernel_rfl) (fun W args ds h hz => prefixDecAny_args W args ds (by rw [Try.params3] at h; exact h) (by rw [Try.params3] at hz; exact hz))
theorem prefixDecAny_proved : Rows.PrefixDecAnySaid :=
  OpenClaim.holds_of_wide 3 Try.f3 rfl rfl rfl rfl rfl rfl rfl ⟨rfl, rfl, rfl, rfl, rfl⟩ rfl rfl rfl rfl rfl (by kernel_rfl) Try.func3 (by kernel_rfl)
    (of_decide_eq_true (by kernel_rfl)) (by unfold Func.isWrapper; first | (rw [if_pos (by decide +kernel)]; kernel_rfl) | (rw [if_neg (by decide +kernel)]; exact ⟨rfl, rfl⟩))
    (fun os started H enc _ => prefixDecAny_lifted os started H enc)
end Go.Proofs.Ytajpnkioigcejaa
