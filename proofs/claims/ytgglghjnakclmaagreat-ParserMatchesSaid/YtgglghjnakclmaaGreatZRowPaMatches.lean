/-
  The statement ParserMatches holds: for all arguments the law returns true and its arguments read as before. Conditions: none.
-/
import Derived.Test.YtgglghjnakclmaaGreatRows
import Derived.Test.YtgglghjnakclmaaGreatQfe
set_option linter.unusedSimpArgs false
set_option linter.unusedVariables false
set_option maxRecDepth 20000
namespace Go.Proofs.YtgglghjnakclmaaGreat
open Go Go.Vc Go.RowKit Go.ChangeShapes Go.WideShapes
theorem own : ownKnob Tryz.prog.godebug = none := by kernel_rfl
theorem laidOut : laidOutB Tryz.prog = true := by kernel_rfl
theorem lM {H : Type} (ds : List (DataW H)) (h : ds.length = 3) : Rows.parserMatchesSpec.fn H ds = { results := [.lit (.bool true)], args := ds } := by
  match ds, h with
  | [_, _, _], _ => rfl
theorem lP {H : Type} {enc : TypeId × Value → H} (W : World) (args : Array Value) (ds : List (DataW H)) (h : uB enc Tryz.prog W [22, 29, 29] args.toList) (_ : (DataW.weightsEach Tryz.prog [22, 29, 29] ds).all (· ≤ reachBytes) = true) :
    Cl Tryz.prog [kB] dN args W (fun b w' => b = true ∧ Below W.heap.size W w') := by
  obtain ⟨v0, _, e, a0, v1, _, rfl, a1, v2, _, rfl, a2, rfl⟩ := h
  obtain rfl : args = ⟨[v0, v1, v2]⟩ := by cases args; simp_all
  obtain ⟨s, xs, hv, _, _, _, hx2, hz2, h7⟩ := (a0.slice (e := 38) (by kernel_rfl)).slice (e := 38) (by kernel_rfl)
  have hv : v0 = .slice s.base s.len s.cap := by simpa using hv
  subst hv
  have c2 : Tryz.prog.cellsOf 38 = 2 := by kernel_rfl
  obtain ⟨cs, rfl, hdg⟩ := mw (g := wi) (Good := fun d : fH => l5 W d.2.1 d.2.2) (xs := xs) fun x hx => by
    have hl := hz2 x hx
    rw [c2] at hl
    obtain ⟨p, q, rfl⟩ : ∃ p q, x = [p, q] := by match x, hl with | [p, q], _ => exact ⟨p, q, rfl⟩
    have g0 := (hx2 _ hx).field 0 3 0 1 (by kernel_rfl)
    have g1 := (hx2 _ hx).field 1 26 1 1 (by kernel_rfl)
    obtain ⟨n, h0, _⟩ := g0.int (k := .i64) (by kernel_rfl)
    obtain ⟨sl, by1, h1, hby⟩ := g1.bytes (e := 5) (by kernel_rfl) (by kernel_rfl) (by kernel_rfl)
    simp only [List.drop_zero, List.take_succ_cons, List.take_zero, List.cons.injEq, and_true, List.drop_succ_cons] at h0 h1
    exact ⟨(n, sl, by1), by rw [h0, h1]; rfl, hby⟩
  rw [c2, ← List.flatMap_def] at h7
  obtain ⟨x, ta, rfl, hta, htab, hta1, hta2⟩ := yY a1
  obtain ⟨y, tb, rfl, htb, htbb, htb1, htb2⟩ := yY a2
  exact mD (cs := cs) (Hp.start W) (fun w f a b => ⟨ao.yJ h7 w f a b, fun x hx => ao.yJ (hdg x hx).1 w f a b⟩) (fun x hx => (hdg x hx).2.2.1) (fun x hx => (hdg x hx).2.1) (ao.yJ hta) (ao.yJ htb) htab htbb fun w' h' => ⟨rfl, h'.below⟩
set_option maxRecDepth 100000 in
theorem kK (os : Os) (started : os.Started) (H : Type) (enc : TypeId × Value → H) :
    ReturnsInHanded {} Tryz.checked os 3 .any (Rows.parserMatchesSpec.pre6 enc Tryz.prog Tryz.f3 Rows.parserMatchesRow.domain false) (Rows.parserMatchesSpec.post enc Tryz.prog Tryz.f3 false true false false) :=
  xZ (C := Tryz.checked) (tb := 4) own started (by kernel_rfl) Tryz.func3
    (ChangeSpec.witness6 (enc := enc) (C := Tryz.checked) false ⟨#[], #[.slice none 0 0, .agg ⟨[.int .u8 0, .int .i64 0, .int .i64 0, .int .i64 0, .int .u32 0, .slice none 0 0, .int .i64 0]⟩, .agg ⟨[.int .u8 0, .int .i64 0, .int .i64 0, .int .i64 0, .int .u32 0, .slice none 0 0, .int .i64 0]⟩], []⟩ 8 (by kernel_rfl) (by kernel_rfl) (by kernel_rfl) (by kernel_rfl))
    rfl (by kernel_rfl) (by kernel_rfl) lM laidOut (by kernel_rfl) (fun W args ds h hz => lP W args ds (by rw [Tryz.params3] at h; exact h) (by rw [Tryz.params3] at hz; exact hz))
theorem Ce : mapsRowed Tryz.prog = true := by kernel_rfl
theorem DG : Tryz.prog.stopsHeard = true := by kernel_rfl
theorem nv : Tryz.prog.inPlace 3 = Rows.parserMatchesRow.inPlace := by kernel_rfl
theorem nw : Tryz.prog.unfollowed 3 = Rows.parserMatchesRow.unfollowed := by kernel_rfl
theorem nd : Tryz.prog.recurses 3 = Rows.parserMatchesRow.recurses := by kernel_rfl
theorem nD : Tryz.prog.varsNamed 3 = Rows.parserMatchesRow.named := by kernel_rfl
theorem kz : joinedFacts Tryz.prog 3 Tryz.f3 Rows.parserMatchesSpec Rows.parserMatchesRow = true := by
  unfold joinedFacts
  rw [laidOut, Ce, DG, nv, nw, nd, nD]
  kernel_rfl
theorem parserMatches_proved : Rows.ParserMatchesSaid :=
  OpenClaim.holds_of_wide 3 Tryz.f3 rfl rfl rfl rfl rfl rfl rfl ⟨rfl, rfl, rfl, rfl, rfl⟩ rfl rfl rfl rfl rfl (by kernel_rfl) Tryz.func3 kz
    (of_decide_eq_true (by kernel_rfl)) (by unfold Func.isWrapper; first | (rw [if_pos (by decide +kernel)]; kernel_rfl) | (rw [if_neg (by decide +kernel)]; exact ⟨rfl, rfl⟩))
    (fun os started H enc _ => kK os started H enc)
end Go.Proofs.YtgglghjnakclmaaGreat
