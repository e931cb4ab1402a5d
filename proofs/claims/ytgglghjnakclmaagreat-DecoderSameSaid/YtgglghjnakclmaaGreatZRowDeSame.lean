/-
  The statement DecoderSame holds: for all arguments the law returns true and its arguments read as before. Conditions: none.
-/
import Derived.Test.YtgglghjnakclmaaGreatRows
import Derived.Test.YtgglghjnakclmaaGreatQge
set_option linter.unusedSimpArgs false
set_option linter.unusedVariables false
set_option maxRecDepth 20000
namespace Go.Proofs.YtgglghjnakclmaaGreat
open Go Go.Vc Go.RowKit Go.ChangeShapes Go.WideShapes
theorem own : ownKnob Tryz.prog.godebug = none := by kernel_rfl
theorem laidOut : laidOutB Tryz.prog = true := by kernel_rfl
theorem sy {H : Type} (ds : List (DataW H)) (h : ds.length = 5) : Rows.decoderSameSpec.fn H ds = { results := [.lit (.bool true)], args := ds } := by
  match ds, h with
  | [_, _, _, _, _], _ => rfl
theorem sa {H : Type} {enc : TypeId × Value → H} (W : World) (args : Array Value) (ds : List (DataW H)) (h : AU enc Tryz.prog W [26, 3, 3, 3, 3] args.toList) (_ : (DataW.weightsEach Tryz.prog [26, 3, 3, 3, 3] ds).all (· ≤ reachBytes) = true) :
    Cl Tryz.prog [kB] gh args W (fun b w' => b = true ∧ Below W.heap.size W w') := by
  obtain ⟨v0, _, e, a0, v1, _, rfl, a1, v2, _, rfl, a2, v3, _, rfl, a3, v4, _, rfl, a4, rfl⟩ := h
  obtain rfl : args = ⟨[v0, v1, v2, v3, v4]⟩ := by cases args; simp_all
  obtain ⟨s, c, rfl, hs, hsb, hs1, hs2⟩ := a0.bytes (e := 5) (by kernel_rfl) (by kernel_rfl) (by kernel_rfl)
  obtain ⟨n, rfl, hn⟩ := a1.int (k := .i64) (by kernel_rfl)
  obtain ⟨m, rfl, hm⟩ := a2.int (k := .i64) (by kernel_rfl)
  obtain ⟨p, rfl, hp⟩ := a3.int (k := .i64) (by kernel_rfl)
  obtain ⟨q, rfl, hq⟩ := a4.int (k := .i64) (by kernel_rfl)
  exact tp (c := c) (Hp.start W) (ah.Mp hs) hsb hs1 fun w' h' => ⟨rfl, h'.below⟩
set_option maxRecDepth 100000 in
theorem p8 (os : Os) (started : os.Started) (H : Type) (enc : TypeId × Value → H) :
    ReturnsInHanded {} Tryz.checked os 9 .any (Rows.decoderSameSpec.pre6 enc Tryz.prog Tryz.f9 Rows.decoderSameRow.domain false) (Rows.decoderSameSpec.post enc Tryz.prog Tryz.f9 false true false false) :=
  E9 (C := Tryz.checked) (tb := 4) own started (by kernel_rfl) Tryz.func9
    (ChangeSpec.witness6 (enc := enc) (C := Tryz.checked) false ⟨#[], #[.slice none 0 0, .int .i64 0, .int .i64 0, .int .i64 0, .int .i64 0], []⟩ 8 (by kernel_rfl) (by kernel_rfl) (by kernel_rfl) (by kernel_rfl))
    rfl (by kernel_rfl) (by kernel_rfl) sy laidOut (by kernel_rfl) (fun W args ds h hz => sa W args ds (by rw [Tryz.params9] at h; exact h) (by rw [Tryz.params9] at hz; exact hz))
theorem KV : mapsRowed Tryz.prog = true := by kernel_rfl
theorem Ml : Tryz.prog.stopsHeard = true := by kernel_rfl
theorem uH : Tryz.prog.inPlace 9 = Rows.decoderSameRow.inPlace := by kernel_rfl
theorem uv : Tryz.prog.unfollowed 9 = Rows.decoderSameRow.unfollowed := by kernel_rfl
theorem uD : Tryz.prog.recurses 9 = Rows.decoderSameRow.recurses := by kernel_rfl
theorem ue : Tryz.prog.varsNamed 9 = Rows.decoderSameRow.named := by kernel_rfl
theorem qo : joinedFacts Tryz.prog 9 Tryz.f9 Rows.decoderSameSpec Rows.decoderSameRow = true := by
  unfold joinedFacts
  rw [laidOut, KV, Ml, uH, uv, uD, ue]
  kernel_rfl
theorem decoderSame_proved : Rows.DecoderSameSaid :=
  OpenClaim.holds_of_wide 9 Tryz.f9 rfl rfl rfl rfl rfl rfl rfl ⟨rfl, rfl, rfl, rfl, rfl⟩ rfl rfl rfl rfl rfl (by kernel_rfl) Tryz.func9 qo
    (of_decide_eq_true (by kernel_rfl)) (by unfold Func.isWrapper; first | (rw [if_pos (by decide +kernel)]; kernel_rfl) | (rw [if_neg (by decide +kernel)]; exact ⟨rfl, rfl⟩))
    (fun os started H enc _ => p8 os started H enc)
end Go.Proofs.YtgglghjnakclmaaGreat
