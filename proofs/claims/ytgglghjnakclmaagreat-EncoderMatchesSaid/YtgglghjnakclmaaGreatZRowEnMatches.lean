/-
  The statement EncoderMatches holds: for all arguments the law returns true and its arguments read as before. Conditions: none.
-/
import Derived.Test.YtgglghjnakclmaaGreatRows
import Derived.Test.YtgglghjnakclmaaGreatQde
set_option linter.unusedSimpArgs false
set_option linter.unusedVariables false
set_option maxRecDepth 20000
namespace Go.Proofs.YtgglghjnakclmaaGreat
open Go Go.Vc Go.RowKit Go.ChangeShapes Go.WideShapes
theorem own : ownKnob Tryz.prog.godebug = none := by kernel_rfl
theorem laidOut : laidOutB Tryz.prog = true := by kernel_rfl
theorem rC {H : Type} (ds : List (DataW H)) (h : ds.length = 3) : Rows.encoderMatchesSpec.fn H ds = { results := [.lit (.bool true)], args := ds } := by
  match ds, h with
  | [_, _, _], _ => rfl
theorem rv {H : Type} {enc : TypeId × Value → H} (W : World) (args : Array Value) (ds : List (DataW H)) (h : Ee enc Tryz.prog W [3, 3, 55] args.toList) (_ : (DataW.weightsEach Tryz.prog [3, 3, 55] ds).all (· ≤ reachBytes) = true) :
    Cl Tryz.prog [kB] fm args W (fun b w' => b = true ∧ Below W.heap.size W w') := by
  obtain ⟨v0, _, e, a0, v1, _, rfl, a1, v2, _, rfl, a2, rfl⟩ := h
  obtain rfl : args = ⟨[v0, v1, v2]⟩ := by cases args; simp_all
  obtain ⟨n, rfl, hn⟩ := a0.int (k := .i64) (by kernel_rfl)
  obtain ⟨m, rfl, hm⟩ := a1.int (k := .i64) (by kernel_rfl)
  obtain ⟨s, xs, hv, _, _, _, hx2, hz2, h7⟩ := (a2.slice (e := 64) (by kernel_rfl)).slice (e := 64) (by kernel_rfl)
  have hv : v2 = .slice s.base s.len s.cap := by simpa using hv
  subst hv
  have c2 : Tryz.prog.cellsOf 64 = 2 := by kernel_rfl
  obtain ⟨cs, rfl, hdg⟩ := sW (g := Gj) (Good := fun d : jo => wI W d.2.1 d.2.2) (xs := xs) fun x hx => by
    have hl := hz2 x hx
    rw [c2] at hl
    obtain ⟨p, q, rfl⟩ : ∃ p q, x = [p, q] := by match x, hl with | [p, q], _ => exact ⟨p, q, rfl⟩
    have g0 := (hx2 _ hx).field 0 3 0 1 (by kernel_rfl)
    have g1 := (hx2 _ hx).field 1 26 1 1 (by kernel_rfl)
    obtain ⟨n, h0, _⟩ := g0.int (k := .i64) (by kernel_rfl)
    obtain ⟨sl, Me, h1, hby⟩ := g1.bytes (e := 5) (by kernel_rfl) (by kernel_rfl) (by kernel_rfl)
    simp only [List.drop_zero, List.take_succ_cons, List.take_zero, List.cons.injEq, and_true, List.drop_succ_cons] at h0 h1
    exact ⟨(n, sl, Me), by rw [h0, h1]; rfl, hby⟩
  rw [c2, ← List.flatMap_def] at h7
  exact sD (cs := cs) (Hp.start W) (fun w f a b => ⟨ad.Mn h7 w f a b, fun x hx => ad.Mn (hdg x hx).1 w f a b⟩) (fun x hx => (hdg x hx).2.2.1) (fun x hx => (hdg x hx).2.1) fun w' h' => ⟨rfl, h'.below⟩
set_option maxRecDepth 100000 in
theorem pC (os : Os) (started : os.Started) (H : Type) (enc : TypeId × Value → H) :
    ReturnsInHanded {} Tryz.checked os 5 .any (Rows.encoderMatchesSpec.pre6 enc Tryz.prog Tryz.f5 Rows.encoderMatchesRow.domain false) (Rows.encoderMatchesSpec.post enc Tryz.prog Tryz.f5 false true false false) :=
  H3 (C := Tryz.checked) (tb := 4) own started (by kernel_rfl) Tryz.func5
    (ChangeSpec.witness6 (enc := enc) (C := Tryz.checked) false ⟨#[], #[.int .i64 0, .int .i64 0, .slice none 0 0], []⟩ 8 (by kernel_rfl) (by kernel_rfl) (by kernel_rfl) (by kernel_rfl))
    rfl (by kernel_rfl) (by kernel_rfl) rC laidOut (by kernel_rfl) (fun W args ds h hz => rv W args ds (by rw [Tryz.params5] at h; exact h) (by rw [Tryz.params5] at hz; exact hz))
theorem LR : mapsRowed Tryz.prog = true := by kernel_rfl
theorem ME : Tryz.prog.stopsHeard = true := by kernel_rfl
theorem ti : Tryz.prog.inPlace 5 = Rows.encoderMatchesRow.inPlace := by kernel_rfl
theorem tn : Tryz.prog.unfollowed 5 = Rows.encoderMatchesRow.unfollowed := by kernel_rfl
theorem tp : Tryz.prog.recurses 5 = Rows.encoderMatchesRow.recurses := by kernel_rfl
theorem tq : Tryz.prog.varsNamed 5 = Rows.encoderMatchesRow.named := by kernel_rfl
theorem pB : joinedFacts Tryz.prog 5 Tryz.f5 Rows.encoderMatchesSpec Rows.encoderMatchesRow = true := by
  unfold joinedFacts
  rw [laidOut, LR, ME, ti, tn, tp, tq]
  kernel_rfl
theorem encoderMatches_proved : Rows.EncoderMatchesSaid :=
  OpenClaim.holds_of_wide 5 Tryz.f5 rfl rfl rfl rfl rfl rfl rfl ⟨rfl, rfl, rfl, rfl, rfl⟩ rfl rfl rfl rfl rfl (by kernel_rfl) Tryz.func5 pB
    (of_decide_eq_true (by kernel_rfl)) (by unfold Func.isWrapper; first | (rw [if_pos (by decide +kernel)]; kernel_rfl) | (rw [if_neg (by decide +kernel)]; exact ⟨rfl, rfl⟩))
    (fun os started H enc _ => pC os started H enc)
end Go.Proofs.YtgglghjnakclmaaGreat
