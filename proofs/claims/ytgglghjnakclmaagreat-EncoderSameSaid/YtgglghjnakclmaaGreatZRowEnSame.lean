/-
  The statement EncoderSame holds: for all arguments the law returns true and its arguments read as before. Conditions: none.
-/
import Derived.Test.YtgglghjnakclmaaGreatRows
import Derived.Test.YtgglghjnakclmaaGreatQce
set_option linter.unusedSimpArgs false
set_option linter.unusedVariables false
set_option maxRecDepth 20000
namespace Go.Proofs.YtgglghjnakclmaaGreat
open Go Go.Vc Go.RowKit Go.ChangeShapes Go.WideShapes
theorem own : ownKnob Tryz.prog.godebug = none := by kernel_rfl
theorem laidOut : laidOutB Tryz.prog = true := by kernel_rfl
theorem tO {H : Type} (ds : List (DataW H)) (h : ds.length = 6) : Rows.encoderSameSpec.fn H ds = { results := [.lit (.bool true)], args := ds } := by
  match ds, h with
  | [_, _, _, _, _, _], _ => rfl
theorem tD {H : Type} {enc : TypeId × Value → H} (W : World) (args : Array Value) (ds : List (DataW H)) (h : DB enc Tryz.prog W [3, 3, 3, 47, 3, 3] args.toList) (_ : (DataW.weightsEach Tryz.prog [3, 3, 3, 47, 3, 3] ds).all (· ≤ reachBytes) = true) :
    Cl Tryz.prog [kB] gk args W (fun b w' => b = true ∧ Below W.heap.size W w') := by
  obtain ⟨v0, _, e, a0, v1, _, rfl, a1, v2, _, rfl, a2, v3, _, rfl, a3, v4, _, rfl, a4, v5, _, rfl, a5, rfl⟩ := h
  obtain rfl : args = ⟨[v0, v1, v2, v3, v4, v5]⟩ := by cases args; simp_all
  obtain ⟨n, rfl, hn⟩ := a0.int (k := .i64) (by kernel_rfl)
  obtain ⟨m, rfl, hm⟩ := a1.int (k := .i64) (by kernel_rfl)
  obtain ⟨q, rfl, hq⟩ := a2.int (k := .i64) (by kernel_rfl)
  obtain ⟨s, ps, rfl, hs1, hs2, _⟩ := a3.chunks (e := 26) (u := 5) (by kernel_rfl) (by kernel_rfl) (by kernel_rfl) (by kernel_rfl) (by kernel_rfl)
  obtain ⟨p, rfl, hp⟩ := a4.int (k := .i64) (by kernel_rfl)
  obtain ⟨r, rfl, hr⟩ := a5.int (k := .i64) (by kernel_rfl)
  exact vY (ps := ps) (Hp.start W) (fun w f a b => ⟨ad.LK hs1 w f a b, fun x hx => ad.LK (hs2 x hx).1 w f a b⟩) (fun x hx => (hs2 x hx).2.2.1) (fun x hx => (hs2 x hx).2.1) fun w' h' => ⟨rfl, h'.below⟩
set_option maxRecDepth 100000 in
theorem rB (os : Os) (started : os.Started) (H : Type) (enc : TypeId × Value → H) :
    ReturnsInHanded {} Tryz.checked os 6 .any (Rows.encoderSameSpec.pre6 enc Tryz.prog Tryz.f6 Rows.encoderSameRow.domain false) (Rows.encoderSameSpec.post enc Tryz.prog Tryz.f6 false true false false) :=
  F8 (C := Tryz.checked) (tb := 4) own started (by kernel_rfl) Tryz.func6
    (ChangeSpec.witness6 (enc := enc) (C := Tryz.checked) false ⟨#[], #[.int .i64 0, .int .i64 0, .int .i64 0, .slice none 0 0, .int .i64 0, .int .i64 0], []⟩ 8 (by kernel_rfl) (by kernel_rfl) (by kernel_rfl) (by kernel_rfl))
    rfl (by kernel_rfl) (by kernel_rfl) tO laidOut (by kernel_rfl) (fun W args ds h hz => tD W args ds (by rw [Tryz.params6] at h; exact h) (by rw [Tryz.params6] at hz; exact hz))
theorem Lu : mapsRowed Tryz.prog = true := by kernel_rfl
theorem Me : Tryz.prog.stopsHeard = true := by kernel_rfl
theorem wj : Tryz.prog.inPlace 6 = Rows.encoderSameRow.inPlace := by kernel_rfl
theorem wo : Tryz.prog.unfollowed 6 = Rows.encoderSameRow.unfollowed := by kernel_rfl
theorem wz : Tryz.prog.recurses 6 = Rows.encoderSameRow.recurses := by kernel_rfl
theorem xl : Tryz.prog.varsNamed 6 = Rows.encoderSameRow.named := by kernel_rfl
theorem rR : joinedFacts Tryz.prog 6 Tryz.f6 Rows.encoderSameSpec Rows.encoderSameRow = true := by
  unfold joinedFacts
  rw [laidOut, Lu, Me, wj, wo, wz, xl]
  kernel_rfl
theorem encoderSame_proved : Rows.EncoderSameSaid :=
  OpenClaim.holds_of_wide 6 Tryz.f6 rfl rfl rfl rfl rfl rfl rfl ⟨rfl, rfl, rfl, rfl, rfl⟩ rfl rfl rfl rfl rfl (by kernel_rfl) Tryz.func6 rR
    (of_decide_eq_true (by kernel_rfl)) (by unfold Func.isWrapper; first | (rw [if_pos (by decide +kernel)]; kernel_rfl) | (rw [if_neg (by decide +kernel)]; exact ⟨rfl, rfl⟩))
    (fun os started H enc _ => rB os started H enc)
end Go.Proofs.YtgglghjnakclmaaGreat
