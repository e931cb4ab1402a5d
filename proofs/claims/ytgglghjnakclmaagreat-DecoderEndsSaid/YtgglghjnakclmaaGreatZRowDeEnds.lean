/-
  The statement DecoderEnds holds: for all arguments the law returns true and its arguments read as before. Conditions: none.
-/
import Derived.Test.YtgglghjnakclmaaGreatRows
import Derived.Test.YtgglghjnakclmaaGreatQhf
set_option linter.unusedSimpArgs false
set_option linter.unusedVariables false
set_option maxRecDepth 20000
namespace Go.Proofs.YtgglghjnakclmaaGreat
open Go Go.Vc Go.RowKit Go.ChangeShapes Go.WideShapes
theorem own : ownKnob Tryz.prog.godebug = none := by kernel_rfl
theorem laidOut : laidOutB Tryz.prog = true := by kernel_rfl
theorem wO {H : Type} (ds : List (DataW H)) (h : ds.length = 4) : Rows.decoderEndsSpec.fn H ds = { results := [.lit (.bool true)], args := ds } := by
  match ds, h with
  | [_, _, _, _], _ => rfl
theorem xe {H : Type} {enc : TypeId × Value → H} (W : World) (args : Array Value) (ds : List (DataW H)) (h : HU enc Tryz.prog W [3, 3, 47, 3] args.toList) (_ : (DataW.weightsEach Tryz.prog [3, 3, 47, 3] ds).all (· ≤ reachBytes) = true) :
    Cl Tryz.prog [kB] iE args W (fun b w' => b = true ∧ Below W.heap.size W w') := by
  obtain ⟨v0, _, e, a0, v1, _, rfl, a1, v2, _, rfl, a2, v3, _, rfl, a3, rfl⟩ := h
  obtain rfl : args = ⟨[v0, v1, v2, v3]⟩ := by cases args; simp_all
  obtain ⟨n, rfl, hn⟩ := a0.int (k := .i64) (by kernel_rfl)
  obtain ⟨m, rfl, hm⟩ := a1.int (k := .i64) (by kernel_rfl)
  obtain ⟨s, ps, rfl, hs1, hs2, _⟩ := a2.chunks (e := 26) (u := 5) (by kernel_rfl) (by kernel_rfl) (by kernel_rfl) (by kernel_rfl) (by kernel_rfl)
  obtain ⟨p, rfl, hp⟩ := a3.int (k := .i64) (by kernel_rfl)
  exact zD (ps := ps) (Hp.start W) (fun w f a b => ⟨ad.Uu hs1 w f a b, fun x hx => ad.Uu (hs2 x hx).1 w f a b⟩) (fun x hx => (hs2 x hx).2.2.1) (fun x hx => (hs2 x hx).2.1) fun w' h' => ⟨rfl, h'.below⟩
set_option maxRecDepth 100000 in
theorem uE (os : Os) (started : os.Started) (H : Type) (enc : TypeId × Value → H) :
    ReturnsInHanded {} Tryz.checked os 10 .any (Rows.decoderEndsSpec.pre6 enc Tryz.prog Tryz.f10 Rows.decoderEndsRow.domain false) (Rows.decoderEndsSpec.post enc Tryz.prog Tryz.f10 false true false false) :=
  My (C := Tryz.checked) (tb := 4) own started (by kernel_rfl) Tryz.func10
    (ChangeSpec.witness6 (enc := enc) (C := Tryz.checked) false ⟨#[], #[.int .i64 0, .int .i64 0, .slice none 0 0, .int .i64 0], []⟩ 8 (by kernel_rfl) (by kernel_rfl) (by kernel_rfl) (by kernel_rfl))
    rfl (by kernel_rfl) (by kernel_rfl) wO laidOut (by kernel_rfl) (fun W args ds h hz => xe W args ds (by rw [Tryz.params10] at h; exact h) (by rw [Tryz.params10] at hz; exact hz))
theorem TD : mapsRowed Tryz.prog = true := by kernel_rfl
theorem Vk : Tryz.prog.stopsHeard = true := by kernel_rfl
theorem zU : Tryz.prog.inPlace 10 = Rows.decoderEndsRow.inPlace := by kernel_rfl
theorem Ac : Tryz.prog.unfollowed 10 = Rows.decoderEndsRow.unfollowed := by kernel_rfl
theorem Af : Tryz.prog.recurses 10 = Rows.decoderEndsRow.recurses := by kernel_rfl
theorem Aq : Tryz.prog.varsNamed 10 = Rows.decoderEndsRow.named := by kernel_rfl
theorem uV : joinedFacts Tryz.prog 10 Tryz.f10 Rows.decoderEndsSpec Rows.decoderEndsRow = true := by
  unfold joinedFacts
  rw [laidOut, TD, Vk, zU, Ac, Af, Aq]
  kernel_rfl
theorem decoderEnds_proved : Rows.DecoderEndsSaid :=
  OpenClaim.holds_of_wide 10 Tryz.f10 rfl rfl rfl rfl rfl rfl rfl ⟨rfl, rfl, rfl, rfl, rfl⟩ rfl rfl rfl rfl rfl (by kernel_rfl) Tryz.func10 uV
    (of_decide_eq_true (by kernel_rfl)) (by unfold Func.isWrapper; first | (rw [if_pos (by decide +kernel)]; kernel_rfl) | (rw [if_neg (by decide +kernel)]; exact ⟨rfl, rfl⟩))
    (fun os started H enc _ => uE os started H enc)
end Go.Proofs.YtgglghjnakclmaaGreat
