/-
  The statement TopJoin holds: for all arguments the law returns true and its arguments read as before. Conditions: none.
-/
import Derived.Test.YtamdpnpkldgkcaaGreatRows
import Derived.Test.YtamdpnpkldgkcaaGreatQuf
set_option linter.unusedSimpArgs false
set_option linter.unusedVariables false
set_option maxRecDepth 20000
namespace Go.Proofs.YtamdpnpkldgkcaaGreat
open Go.Proofs.Q9 Go Go.Vc Go.RowKit Go.ChangeShapes Go.WideShapes
theorem own : ownKnob Tryz.prog.godebug = none := by kernel_rfl
theorem laidOut : laidOutB Tryz.prog = true := by kernel_rfl
theorem Hl {H : Type} (ds : List (DataW H)) (h : ds.length = 2) : Rows.topJoinSpec.fn H ds = { results := [.lit (.bool true)], args := ds } := by
  match ds, h with
  | [_, _], _ => rfl
theorem Ik {H : Type} {enc : TypeId × Value → H} (W : World) (args : Array Value) (ds : List (DataW H)) (h : zQ enc Tryz.prog W [3, 22] args.toList) (_ : (DataW.weightsEach Tryz.prog [3, 22] ds).all (· ≤ reachBytes) = true) :
    Cl Tryz.prog [kB] 3 args W (fun b w' => b = true ∧ Below W.heap.size W w') := by
  obtain ⟨v0, _, e, a0, v1, _, rfl, a1, rfl⟩ := h
  obtain rfl : args = ⟨[v0, v1]⟩ := by cases args; simp_all
  obtain ⟨n, rfl, hn⟩ := a0.int (k := .i64) (by kernel_rfl)
  obtain ⟨s, ps, rfl, hs1, hs2, _⟩ := a1.chunks (e := 25) (u := 5) (by kernel_rfl) (by kernel_rfl) (by kernel_rfl) (by kernel_rfl) (by kernel_rfl)
  exact JX (ps := ps) (Hp.start W) (fun w f a b => ⟨ad.B6 hs1 w f a b, fun x hx => ad.B6 (hs2 x hx).1 w f a b⟩) (fun x hx => (hs2 x hx).2.2.1) (fun x hx => (hs2 x hx).2.1) fun w' h' => ⟨rfl, h'.below⟩
set_option maxRecDepth 100000 in
theorem Cg (os : Os) (started : os.Started) (H : Type) (enc : TypeId × Value → H) :
    ReturnsInHanded {} Tryz.checked os 3 .any (Rows.topJoinSpec.pre6 enc Tryz.prog Tryz.f3 Rows.topJoinRow.domain false) (Rows.topJoinSpec.post enc Tryz.prog Tryz.f3 false true false false) :=
  tk (C := Tryz.checked) (tb := 4) own started (by kernel_rfl) Tryz.func3
    (ChangeSpec.witness6 (enc := enc) (C := Tryz.checked) false ⟨#[], #[.int .i64 0, .slice none 0 0], []⟩ 8 (by kernel_rfl) (by kernel_rfl) (by kernel_rfl) (by kernel_rfl))
    rfl (by kernel_rfl) (by kernel_rfl) Hl laidOut (by kernel_rfl) (fun W args ds h hz => Ik W args ds (by rw [Tryz.params3] at h; exact h) (by rw [Tryz.params3] at hz; exact hz))
theorem tq : mapsRowed Tryz.prog = true := by kernel_rfl
theorem Js : Tryz.prog.stopsHeard = true := by kernel_rfl
theorem MD : Tryz.prog.inPlace 3 = Rows.topJoinRow.inPlace := by kernel_rfl
theorem N4 : Tryz.prog.unfollowed 3 = Rows.topJoinRow.unfollowed := by kernel_rfl
theorem M6 : Tryz.prog.recurses 3 = Rows.topJoinRow.recurses := by kernel_rfl
theorem ML : Tryz.prog.varsNamed 3 = Rows.topJoinRow.named := by kernel_rfl
theorem CX : joinedFacts Tryz.prog 3 Tryz.f3 Rows.topJoinSpec Rows.topJoinRow = true := by
  unfold joinedFacts
  rw [laidOut, tq, Js, MD, N4, M6, ML]
  kernel_rfl
theorem topJoin_proved : Rows.TopJoinSaid :=
  OpenClaim.holds_of_wide 3 Tryz.f3 rfl rfl rfl rfl rfl rfl rfl ⟨rfl, rfl, rfl, rfl, rfl⟩ rfl rfl rfl rfl rfl (by kernel_rfl) Tryz.func3 CX
    (of_decide_eq_true (by kernel_rfl)) (by unfold Func.isWrapper; first | (rw [if_pos (by decide +kernel)]; kernel_rfl) | (rw [if_neg (by decide +kernel)]; exact ⟨rfl, rfl⟩))
    (fun os started H enc _ => Cg os started H enc)
end Go.Proofs.YtamdpnpkldgkcaaGreat
