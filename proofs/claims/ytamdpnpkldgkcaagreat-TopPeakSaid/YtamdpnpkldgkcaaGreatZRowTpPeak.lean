/-
  The statement TopPeak holds: for all arguments the law returns true and its arguments read as before. Conditions: none.
-/
import Derived.Test.YtamdpnpkldgkcaaGreatRows
import Derived.Test.YtamdpnpkldgkcaaGreatQuf
set_option linter.unusedSimpArgs false
set_option linter.unusedVariables false
set_option maxRecDepth 20000
namespace Go.Proofs.YtamdpnpkldgkcaaGreat
open Go.Proofs.Q9 Go Go.Vc Go.RowKit Go.ChangeShapes Go.WideShapes
theorem own : ownKnob Tryz.prog.godebug = none := by kernel_rfl
theorem laidOut : laidOutB Tryz.prog = true := by kernel_rfl
theorem Ie {H : Type} (ds : List (DataW H)) (h : ds.length = 5) : Rows.topPeakSpec.fn H ds = { results := [.lit (.bool true)], args := ds } := by
  match ds, h with
  | [_, _, _, _, _], _ => rfl
theorem Ja {H : Type} {enc : TypeId × Value → H} (W : World) (args : Array Value) (ds : List (DataW H)) (h : zQ enc Tryz.prog W [3, 3, 3, 22, 3] args.toList) (_ : (DataW.weightsEach Tryz.prog [3, 3, 3, 22, 3] ds).all (· ≤ reachBytes) = true) :
    Cl Tryz.prog [kB] 7 args W (fun b w' => b = true ∧ Below W.heap.size W w') := by
  obtain ⟨v0, _, e, a0, v1, _, rfl, a1, v2, _, rfl, a2, v3, _, rfl, a3, v4, _, rfl, a4, rfl⟩ := h
  obtain rfl : args = ⟨[v0, v1, v2, v3, v4]⟩ := by cases args; simp_all
  obtain ⟨n, rfl, hn⟩ := a0.int (k := .i64) (by kernel_rfl)
  obtain ⟨m, rfl, hm⟩ := a1.int (k := .i64) (by kernel_rfl)
  obtain ⟨o, rfl, ho⟩ := a2.int (k := .i64) (by kernel_rfl)
  obtain ⟨s, ps, rfl, hs1, hs2, _⟩ := a3.chunks (e := 25) (u := 5) (by kernel_rfl) (by kernel_rfl) (by kernel_rfl) (by kernel_rfl) (by kernel_rfl)
  obtain ⟨p, rfl, hp⟩ := a4.int (k := .i64) (by kernel_rfl)
  exact J1 (ps := ps) (Hp.start W) (fun w f a b => ⟨ad.B6 hs1 w f a b, fun x hx => ad.B6 (hs2 x hx).1 w f a b⟩) (fun x hx => (hs2 x hx).2.2.1) (fun x hx => (hs2 x hx).2.1) fun w' h' => ⟨rfl, h'.below⟩
set_option maxRecDepth 100000 in
theorem CD (os : Os) (started : os.Started) (H : Type) (enc : TypeId × Value → H) :
    ReturnsInHanded {} Tryz.checked os 7 .any (Rows.topPeakSpec.pre6 enc Tryz.prog Tryz.f7 Rows.topPeakRow.domain false) (Rows.topPeakSpec.post enc Tryz.prog Tryz.f7 false true false false) :=
  tk (C := Tryz.checked) (tb := 4) own started (by kernel_rfl) Tryz.func7
    (ChangeSpec.witness6 (enc := enc) (C := Tryz.checked) false ⟨#[], #[.int .i64 0, .int .i64 0, .int .i64 0, .slice none 0 0, .int .i64 0], []⟩ 8 (by kernel_rfl) (by kernel_rfl) (by kernel_rfl) (by kernel_rfl))
    rfl (by kernel_rfl) (by kernel_rfl) Ie laidOut (by kernel_rfl) (fun W args ds h hz => Ja W args ds (by rw [Tryz.params7] at h; exact h) (by rw [Tryz.params7] at hz; exact hz))
theorem tq : mapsRowed Tryz.prog = true := by kernel_rfl
theorem Js : Tryz.prog.stopsHeard = true := by kernel_rfl
theorem NS : Tryz.prog.inPlace 7 = Rows.topPeakRow.inPlace := by kernel_rfl
theorem N3 : Tryz.prog.unfollowed 7 = Rows.topPeakRow.unfollowed := by kernel_rfl
theorem MM : Tryz.prog.recurses 7 = Rows.topPeakRow.recurses := by kernel_rfl
theorem Nn : Tryz.prog.varsNamed 7 = Rows.topPeakRow.named := by kernel_rfl
theorem CW : joinedFacts Tryz.prog 7 Tryz.f7 Rows.topPeakSpec Rows.topPeakRow = true := by
  unfold joinedFacts
  rw [laidOut, tq, Js, NS, N3, MM, Nn]
  kernel_rfl
theorem topPeak_proved : Rows.TopPeakSaid :=
  OpenClaim.holds_of_wide 7 Tryz.f7 rfl rfl rfl rfl rfl rfl rfl ⟨rfl, rfl, rfl, rfl, rfl⟩ rfl rfl rfl rfl rfl (by kernel_rfl) Tryz.func7 CW
    (of_decide_eq_true (by kernel_rfl)) (by unfold Func.isWrapper; first | (rw [if_pos (by decide +kernel)]; kernel_rfl) | (rw [if_neg (by decide +kernel)]; exact ⟨rfl, rfl⟩))
    (fun os started H enc _ => CD os started H enc)
end Go.Proofs.YtamdpnpkldgkcaaGreat
