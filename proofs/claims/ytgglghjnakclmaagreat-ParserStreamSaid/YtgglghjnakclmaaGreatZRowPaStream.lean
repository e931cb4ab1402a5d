/-
  The statement ParserStream holds: for all arguments the law returns true and its arguments read as before. Conditions: none.
-/
import Derived.Test.YtgglghjnakclmaaGreatRows
import Derived.Test.YtgglghjnakclmaaGreatQee
set_option linter.unusedSimpArgs false
set_option linter.unusedVariables false
set_option maxRecDepth 20000
namespace Go.Proofs.YtgglghjnakclmaaGreat
open Go Go.Vc Go.RowKit Go.ChangeShapes Go.WideShapes
theorem own : ownKnob Tryz.prog.godebug = none := by kernel_rfl
theorem laidOut : laidOutB Tryz.prog = true := by kernel_rfl
theorem pH {H : Type} (ds : List (DataW H)) (h : ds.length = 2) : Rows.parserStreamSpec.fn H ds = { results := [.lit (.bool true)], args := ds } := by
  match ds, h with
  | [_, _], _ => rfl
theorem pE {H : Type} {enc : TypeId × Value → H} (W : World) (args : Array Value) (ds : List (DataW H)) (h : Ax enc Tryz.prog W [3, 47] args.toList) (_ : (DataW.weightsEach Tryz.prog [3, 47] ds).all (· ≤ reachBytes) = true) :
    Cl Tryz.prog [kB] eH args W (fun b w' => b = true ∧ Below W.heap.size W w') := by
  obtain ⟨v0, _, e, a0, v1, _, rfl, a1, rfl⟩ := h
  obtain rfl : args = ⟨[v0, v1]⟩ := by cases args; simp_all
  obtain ⟨n, rfl, hn⟩ := a0.int (k := .i64) (by kernel_rfl)
  obtain ⟨s, ps, rfl, hs1, hs2, _⟩ := a1.chunks (e := 26) (u := 5) (by kernel_rfl) (by kernel_rfl) (by kernel_rfl) (by kernel_rfl) (by kernel_rfl)
  exact p9 (ps := ps) (Hp.start W) (fun w f a b => ⟨ag.Jk hs1 w f a b, fun x hx => ag.Jk (hs2 x hx).1 w f a b⟩) (fun x hx => (hs2 x hx).2.2.1) (fun x hx => (hs2 x hx).2.1) fun w' h' => ⟨rfl, h'.below⟩
set_option maxRecDepth 100000 in
theorem nV (os : Os) (started : os.Started) (H : Type) (enc : TypeId × Value → H) :
    ReturnsInHanded {} Tryz.checked os 4 .any (Rows.parserStreamSpec.pre6 enc Tryz.prog Tryz.f4 Rows.parserStreamRow.domain false) (Rows.parserStreamSpec.post enc Tryz.prog Tryz.f4 false true false false) :=
  DU (C := Tryz.checked) (tb := 4) own started (by kernel_rfl) Tryz.func4
    (ChangeSpec.witness6 (enc := enc) (C := Tryz.checked) false ⟨#[], #[.int .i64 0, .slice none 0 0], []⟩ 8 (by kernel_rfl) (by kernel_rfl) (by kernel_rfl) (by kernel_rfl))
    rfl (by kernel_rfl) (by kernel_rfl) pH laidOut (by kernel_rfl) (fun W args ds h hz => pE W args ds (by rw [Tryz.params4] at h; exact h) (by rw [Tryz.params4] at hz; exact hz))
theorem IV : mapsRowed Tryz.prog = true := by kernel_rfl
theorem Kj : Tryz.prog.stopsHeard = true := by kernel_rfl
theorem rL : Tryz.prog.inPlace 4 = Rows.parserStreamRow.inPlace := by kernel_rfl
theorem qV : Tryz.prog.unfollowed 4 = Rows.parserStreamRow.unfollowed := by kernel_rfl
theorem rz : Tryz.prog.recurses 4 = Rows.parserStreamRow.recurses := by kernel_rfl
theorem qN : Tryz.prog.varsNamed 4 = Rows.parserStreamRow.named := by kernel_rfl
theorem nW : joinedFacts Tryz.prog 4 Tryz.f4 Rows.parserStreamSpec Rows.parserStreamRow = true := by
  unfold joinedFacts
  rw [laidOut, IV, Kj, rL, qV, rz, qN]
  kernel_rfl
theorem parserStream_proved : Rows.ParserStreamSaid :=
  OpenClaim.holds_of_wide 4 Tryz.f4 rfl rfl rfl rfl rfl rfl rfl ⟨rfl, rfl, rfl, rfl, rfl⟩ rfl rfl rfl rfl rfl (by kernel_rfl) Tryz.func4 nW
    (of_decide_eq_true (by kernel_rfl)) (by unfold Func.isWrapper; first | (rw [if_pos (by decide +kernel)]; kernel_rfl) | (rw [if_neg (by decide +kernel)]; exact ⟨rfl, rfl⟩))
    (fun os started H enc _ => nV os started H enc)
end Go.Proofs.YtgglghjnakclmaaGreat
