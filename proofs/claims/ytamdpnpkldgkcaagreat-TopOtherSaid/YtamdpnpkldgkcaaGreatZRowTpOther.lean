/-
  The statement TopOther holds: for all arguments the law returns true and its arguments read as before. Conditions: none.
-/
import Derived.Test.YtamdpnpkldgkcaaGreatRows
import Derived.Test.YtamdpnpkldgkcaaGreatQuf
set_option linter.unusedSimpArgs false
set_option linter.unusedVariables false
set_option maxRecDepth 20000
namespace Go.Proofs.YtamdpnpkldgkcaaGreat
open Go.Proofs.Q9 Go Go.Vc Go.RowKit Go.ChangeShapes Go.WideShapes
theorem own : ownKnob Tryz.prog.godebug = none := by kernel_rfl
theorem laidOut : laidOutB Tryz.prog = true := by kernel_rfl
theorem Fo {H : Type} (ds : List (DataW H)) (h : ds.length = 3) : Rows.topOtherSpec.fn H ds = { results := [.lit (.bool true)], args := ds } := by
  match ds, h with
  | [_, _, _], _ => rfl
theorem Fq {H : Type} {enc : TypeId × Value → H} (W : World) (args : Array Value) (ds : List (DataW H)) (h : zQ enc Tryz.prog W [3, 22, 22] args.toList) (_ : (DataW.weightsEach Tryz.prog [3, 22, 22] ds).all (· ≤ reachBytes) = true) :
    Cl Tryz.prog [kB] 4 args W (fun b w' => b = true ∧ Below W.heap.size W w') := by
  obtain ⟨v0, _, e, a0, v1, _, rfl, a1, v2, _, rfl, a2, rfl⟩ := h
  obtain rfl : args = ⟨[v0, v1, v2]⟩ := by cases args; simp_all
  obtain ⟨n, rfl, hn⟩ := a0.int (k := .i64) (by kernel_rfl)
  obtain ⟨s, ps, rfl, hs1, hs2, _⟩ := a1.chunks (e := 25) (u := 5) (by kernel_rfl) (by kernel_rfl) (by kernel_rfl) (by kernel_rfl) (by kernel_rfl)
  obtain ⟨q, qs, rfl, hq1, hq2, _⟩ := a2.chunks (e := 25) (u := 5) (by kernel_rfl) (by kernel_rfl) (by kernel_rfl) (by kernel_rfl) (by kernel_rfl)
  exact F1 (p1 := ps) (p2 := qs) (Hp.start W) (fun w f a b => ⟨ad.B6 hs1 w f a b, fun x hx => ad.B6 (hs2 x hx).1 w f a b⟩) (fun x hx => (hs2 x hx).2.2.1) (fun x hx => (hs2 x hx).2.1) (fun w f a b => ⟨ad.B6 hq1 w f a b, fun x hx => ad.B6 (hq2 x hx).1 w f a b⟩) (fun x hx => (hq2 x hx).2.2.1) (fun x hx => (hq2 x hx).2.1) fun w' h' => ⟨rfl, h'.below⟩
set_option maxRecDepth 100000 in
theorem BT (os : Os) (started : os.Started) (H : Type) (enc : TypeId × Value → H) :
    ReturnsInHanded {} Tryz.checked os 4 .any (Rows.topOtherSpec.pre6 enc Tryz.prog Tryz.f4 Rows.topOtherRow.domain false) (Rows.topOtherSpec.post enc Tryz.prog Tryz.f4 false true false false) :=
  tk (C := Tryz.checked) (tb := 4) own started (by kernel_rfl) Tryz.func4
    (ChangeSpec.witness6 (enc := enc) (C := Tryz.checked) false ⟨#[], #[.int .i64 0, .slice none 0 0, .slice none 0 0], []⟩ 8 (by kernel_rfl) (by kernel_rfl) (by kernel_rfl) (by kernel_rfl))
    rfl (by kernel_rfl) (by kernel_rfl) Fo laidOut (by kernel_rfl) (fun W args ds h hz => Fq W args ds (by rw [Tryz.params4] at h; exact h) (by rw [Tryz.params4] at hz; exact hz))
theorem tq : mapsRowed Tryz.prog = true := by kernel_rfl
theorem Js : Tryz.prog.stopsHeard = true := by kernel_rfl
theorem JH : Tryz.prog.inPlace 4 = Rows.topOtherRow.inPlace := by kernel_rfl
theorem Jw : Tryz.prog.unfollowed 4 = Rows.topOtherRow.unfollowed := by kernel_rfl
theorem J8 : Tryz.prog.recurses 4 = Rows.topOtherRow.recurses := by kernel_rfl
theorem Kp : Tryz.prog.varsNamed 4 = Rows.topOtherRow.named := by kernel_rfl
theorem Ax : joinedFacts Tryz.prog 4 Tryz.f4 Rows.topOtherSpec Rows.topOtherRow = true := by
  unfold joinedFacts
  rw [laidOut, tq, Js, JH, Jw, J8, Kp]
  kernel_rfl
theorem topOther_proved : Rows.TopOtherSaid :=
  OpenClaim.holds_of_wide 4 Tryz.f4 rfl rfl rfl rfl rfl rfl rfl ⟨rfl, rfl, rfl, rfl, rfl⟩ rfl rfl rfl rfl rfl (by kernel_rfl) Tryz.func4 Ax
    (of_decide_eq_true (by kernel_rfl)) (by unfold Func.isWrapper; first | (rw [if_pos (by decide +kernel)]; kernel_rfl) | (rw [if_neg (by decide +kernel)]; exact ⟨rfl, rfl⟩))
    (fun os started H enc _ => BT os started H enc)
end Go.Proofs.YtamdpnpkldgkcaaGreat
