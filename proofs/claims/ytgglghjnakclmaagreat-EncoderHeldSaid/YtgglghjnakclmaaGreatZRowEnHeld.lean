/-
  The statement EncoderHeld holds: for all arguments the law returns true and its arguments read as before. Conditions: none.
-/
import Derived.Test.YtgglghjnakclmaaGreatRows
import Derived.Test.YtgglghjnakclmaaGreatQae
set_option linter.unusedSimpArgs false
set_option linter.unusedVariables false
set_option maxRecDepth 20000
namespace Go.Proofs.YtgglghjnakclmaaGreat
open Go Go.Vc Go.RowKit Go.ChangeShapes Go.WideShapes
theorem own : ownKnob Tryz.prog.godebug = none := by kernel_rfl
theorem laidOut : laidOutB Tryz.prog = true := by kernel_rfl
theorem tm {H : Type} (ds : List (DataW H)) (h : ds.length = 2) : Rows.encoderHeldSpec.fn H ds = { results := [.lit (.bool true)], args := ds } := by
  match ds, h with
  | [_, _], _ => rfl
theorem tZ {H : Type} {enc : TypeId × Value → H} (W : World) (args : Array Value) (ds : List (DataW H)) (h : C2 enc Tryz.prog W [3, 47] args.toList) (_ : (DataW.weightsEach Tryz.prog [3, 47] ds).all (· ≤ reachBytes) = true) :
    Cl Tryz.prog [kB] gk args W (fun b w' => b = true ∧ Below W.heap.size W w') := by
  obtain ⟨v0, _, e, a0, v1, _, rfl, a1, rfl⟩ := h
  obtain rfl : args = ⟨[v0, v1]⟩ := by cases args; simp_all
  obtain ⟨n, rfl, hn⟩ := a0.int (k := .i64) (by kernel_rfl)
  obtain ⟨s, ps, rfl, hs1, hs2, _⟩ := a1.chunks (e := 26) (u := 5) (by kernel_rfl) (by kernel_rfl) (by kernel_rfl) (by kernel_rfl) (by kernel_rfl)
  exact uq (ps := ps) (Hp.start W) (fun w f a b => ⟨ad.LB hs1 w f a b, fun x hx => ad.LB (hs2 x hx).1 w f a b⟩) (fun x hx => (hs2 x hx).2.2.1) (fun x hx => (hs2 x hx).2.1) fun w' h' => ⟨rfl, h'.below⟩
set_option maxRecDepth 100000 in
theorem rR (os : Os) (started : os.Started) (H : Type) (enc : TypeId × Value → H) :
    ReturnsInHanded {} Tryz.checked os 8 .any (Rows.encoderHeldSpec.pre6 enc Tryz.prog Tryz.f8 Rows.encoderHeldRow.domain false) (Rows.encoderHeldSpec.post enc Tryz.prog Tryz.f8 false true false false) :=
  Gr (C := Tryz.checked) (tb := 4) own started (by kernel_rfl) Tryz.func8
    (ChangeSpec.witness6 (enc := enc) (C := Tryz.checked) false ⟨#[], #[.int .i64 0, .slice none 0 0], []⟩ 8 (by kernel_rfl) (by kernel_rfl) (by kernel_rfl) (by kernel_rfl))
    rfl (by kernel_rfl) (by kernel_rfl) tm laidOut (by kernel_rfl) (fun W args ds h hz => tZ W args ds (by rw [Tryz.params8] at h; exact h) (by rw [Tryz.params8] at hz; exact hz))
theorem Le : mapsRowed Tryz.prog = true := by kernel_rfl
theorem LZ : Tryz.prog.stopsHeard = true := by kernel_rfl
theorem wj : Tryz.prog.inPlace 8 = Rows.encoderHeldRow.inPlace := by kernel_rfl
theorem wD : Tryz.prog.unfollowed 8 = Rows.encoderHeldRow.unfollowed := by kernel_rfl
theorem vT : Tryz.prog.recurses 8 = Rows.encoderHeldRow.recurses := by kernel_rfl
theorem wN : Tryz.prog.varsNamed 8 = Rows.encoderHeldRow.named := by kernel_rfl
theorem rH : joinedFacts Tryz.prog 8 Tryz.f8 Rows.encoderHeldSpec Rows.encoderHeldRow = true := by
  unfold joinedFacts
  rw [laidOut, Le, LZ, wj, wD, vT, wN]
  kernel_rfl
theorem encoderHeld_proved : Rows.EncoderHeldSaid :=
  OpenClaim.holds_of_wide 8 Tryz.f8 rfl rfl rfl rfl rfl rfl rfl ⟨rfl, rfl, rfl, rfl, rfl⟩ rfl rfl rfl rfl rfl (by kernel_rfl) Tryz.func8 rH
    (of_decide_eq_true (by kernel_rfl)) (by unfold Func.isWrapper; first | (rw [if_pos (by decide +kernel)]; kernel_rfl) | (rw [if_neg (by decide +kernel)]; exact ⟨rfl, rfl⟩))
    (fun os started H enc _ => rR os started H enc)
end Go.Proofs.YtgglghjnakclmaaGreat
