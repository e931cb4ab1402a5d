/-
  The statement EncoderRoom holds: for all arguments the law returns true and its arguments read as before. Conditions: none.
-/
import Derived.Test.YtgglghjnakclmaaGreatRows
import Derived.Test.YtgglghjnakclmaaGreatQbe
set_option linter.unusedSimpArgs false
set_option linter.unusedVariables false
set_option maxRecDepth 20000
namespace Go.Proofs.YtgglghjnakclmaaGreat
open Go Go.Vc Go.RowKit Go.ChangeShapes Go.WideShapes
theorem own : ownKnob Tryz.prog.godebug = none := by kernel_rfl
theorem laidOut : laidOutB Tryz.prog = true := by kernel_rfl
theorem tP {H : Type} (ds : List (DataW H)) (h : ds.length = 3) : Rows.encoderRoomSpec.fn H ds = { results := [.lit (.bool true)], args := ds } := by
  match ds, h with
  | [_, _, _], _ => rfl
theorem uy {H : Type} {enc : TypeId × Value → H} (W : World) (args : Array Value) (ds : List (DataW H)) (h : CR enc Tryz.prog W [3, 3, 47] args.toList) (_ : (DataW.weightsEach Tryz.prog [3, 3, 47] ds).all (· ≤ reachBytes) = true) :
    Cl Tryz.prog [kB] gk args W (fun b w' => b = true ∧ Below W.heap.size W w') := by
  obtain ⟨v0, _, e, a0, v1, _, rfl, a1, v2, _, rfl, a2, rfl⟩ := h
  obtain rfl : args = ⟨[v0, v1, v2]⟩ := by cases args; simp_all
  obtain ⟨n, rfl, hn⟩ := a0.int (k := .i64) (by kernel_rfl)
  obtain ⟨m, rfl, hm⟩ := a1.int (k := .i64) (by kernel_rfl)
  obtain ⟨s, ps, rfl, hs1, hs2, _⟩ := a2.chunks (e := 26) (u := 5) (by kernel_rfl) (by kernel_rfl) (by kernel_rfl) (by kernel_rfl) (by kernel_rfl)
  exact uC (ps := ps) (Hp.start W) (fun w f a b => ⟨ad.LO hs1 w f a b, fun x hx => ad.LO (hs2 x hx).1 w f a b⟩) (fun x hx => (hs2 x hx).2.2.1) (fun x hx => (hs2 x hx).2.1) fun w' h' => ⟨rfl, h'.below⟩
set_option maxRecDepth 100000 in
theorem ru (os : Os) (started : os.Started) (H : Type) (enc : TypeId × Value → H) :
    ReturnsInHanded {} Tryz.checked os 7 .any (Rows.encoderRoomSpec.pre6 enc Tryz.prog Tryz.f7 Rows.encoderRoomRow.domain false) (Rows.encoderRoomSpec.post enc Tryz.prog Tryz.f7 false true false false) :=
  Gr (C := Tryz.checked) (tb := 4) own started (by kernel_rfl) Tryz.func7
    (ChangeSpec.witness6 (enc := enc) (C := Tryz.checked) false ⟨#[], #[.int .i64 0, .int .i64 0, .slice none 0 0], []⟩ 8 (by kernel_rfl) (by kernel_rfl) (by kernel_rfl) (by kernel_rfl))
    rfl (by kernel_rfl) (by kernel_rfl) tP laidOut (by kernel_rfl) (fun W args ds h hz => uy W args ds (by rw [Tryz.params7] at h; exact h) (by rw [Tryz.params7] at hz; exact hz))
theorem Ln : mapsRowed Tryz.prog = true := by kernel_rfl
theorem Md : Tryz.prog.stopsHeard = true := by kernel_rfl
theorem xd : Tryz.prog.inPlace 7 = Rows.encoderRoomRow.inPlace := by kernel_rfl
theorem wa : Tryz.prog.unfollowed 7 = Rows.encoderRoomRow.unfollowed := by kernel_rfl
theorem xg : Tryz.prog.recurses 7 = Rows.encoderRoomRow.recurses := by kernel_rfl
theorem wx : Tryz.prog.varsNamed 7 = Rows.encoderRoomRow.named := by kernel_rfl
theorem rq : joinedFacts Tryz.prog 7 Tryz.f7 Rows.encoderRoomSpec Rows.encoderRoomRow = true := by
  unfold joinedFacts
  rw [laidOut, Ln, Md, xd, wa, xg, wx]
  kernel_rfl
theorem encoderRoom_proved : Rows.EncoderRoomSaid :=
  OpenClaim.holds_of_wide 7 Tryz.f7 rfl rfl rfl rfl rfl rfl rfl ⟨rfl, rfl, rfl, rfl, rfl⟩ rfl rfl rfl rfl rfl (by kernel_rfl) Tryz.func7 rq
    (of_decide_eq_true (by kernel_rfl)) (by unfold Func.isWrapper; first | (rw [if_pos (by decide +kernel)]; kernel_rfl) | (rw [if_neg (by decide +kernel)]; exact ⟨rfl, rfl⟩))
    (fun os started H enc _ => ru os started H enc)
end Go.Proofs.YtgglghjnakclmaaGreat
