/-
  The statement TopAgain holds: for all arguments the law returns true and its arguments read as before. Conditions: none.
-/
import Derived.Test.YtamdpnpkldgkcaaGreatRows
import Derived.Test.YtamdpnpkldgkcaaGreatQte
set_option linter.unusedSimpArgs false
set_option linter.unusedVariables false
set_option maxRecDepth 20000
namespace Go.Proofs.YtamdpnpkldgkcaaGreat
open Go.Proofs.Q9 Go Go.Vc Go.RowKit Go.ChangeShapes Go.WideShapes
theorem own : ownKnob Tryz.prog.godebug = none := by kernel_rfl
theorem laidOut : laidOutB Tryz.prog = true := by kernel_rfl
theorem BM {H : Type} (ds : List (DataW H)) (h : ds.length = 3) : Rows.topAgainSpec.fn H ds = { results := [.lit (.bool true)], args := ds } := by
  match ds, h with
  | [_, _, _], _ => rfl
theorem BR {H : Type} {enc : TypeId × Value → H} (W : World) (args : Array Value) (ds : List (DataW H)) (h : JF enc Tryz.prog W [25, 3, 25] args.toList) (_ : (DataW.weightsEach Tryz.prog [25, 3, 25] ds).all (· ≤ reachBytes) = true) :
    Cl Tryz.prog [kB] 5 args W (fun b w' => b = true ∧ Below W.heap.size W w') := by
  obtain ⟨v0, _, e, a0, v1, _, rfl, a1, v2, _, rfl, a2, rfl⟩ := h
  obtain rfl : args = ⟨[v0, v1, v2]⟩ := by cases args; simp_all
  obtain ⟨s, c, rfl, hs, hsb, hs1, hs2⟩ := a0.bytes (e := 5) (by kernel_rfl) (by kernel_rfl) (by kernel_rfl)
  obtain ⟨n, rfl, hn⟩ := a1.int (k := .i64) (by kernel_rfl)
  obtain ⟨q, x, rfl, hq, hqb, hq1, hq2⟩ := a2.bytes (e := 5) (by kernel_rfl) (by kernel_rfl) (by kernel_rfl)
  exact CP (c := c) (x := x) (Hp.start W) (ad.Vz hs) hsb hs1 (ad.Vz hq) hqb hq1 fun w' h' => ⟨rfl, h'.below⟩
set_option maxRecDepth 100000 in
theorem wJ (os : Os) (started : os.Started) (H : Type) (enc : TypeId × Value → H) :
    ReturnsInHanded {} Tryz.checked os 5 .any (Rows.topAgainSpec.pre6 enc Tryz.prog Tryz.f5 Rows.topAgainRow.domain false) (Rows.topAgainSpec.post enc Tryz.prog Tryz.f5 false true false false) :=
  NA (C := Tryz.checked) (tb := 4) own started (by kernel_rfl) Tryz.func5
    (ChangeSpec.witness6 (enc := enc) (C := Tryz.checked) false ⟨#[], #[.slice none 0 0, .int .i64 0, .slice none 0 0], []⟩ 8 (by kernel_rfl) (by kernel_rfl) (by kernel_rfl) (by kernel_rfl))
    rfl (by kernel_rfl) (by kernel_rfl) BM laidOut (by kernel_rfl) (fun W args ds h hz => BR W args ds (by rw [Tryz.params5] at h; exact h) (by rw [Tryz.params5] at hz; exact hz))
theorem Uz : mapsRowed Tryz.prog = true := by kernel_rfl
theorem WG : Tryz.prog.stopsHeard = true := by kernel_rfl
theorem Ga : Tryz.prog.inPlace 5 = Rows.topAgainRow.inPlace := by kernel_rfl
theorem F5 : Tryz.prog.unfollowed 5 = Rows.topAgainRow.unfollowed := by kernel_rfl
theorem GC : Tryz.prog.recurses 5 = Rows.topAgainRow.recurses := by kernel_rfl
theorem Gp : Tryz.prog.varsNamed 5 = Rows.topAgainRow.named := by kernel_rfl
theorem xF : joinedFacts Tryz.prog 5 Tryz.f5 Rows.topAgainSpec Rows.topAgainRow = true := by
  unfold joinedFacts
  rw [laidOut, Uz, WG, Ga, F5, GC, Gp]
  kernel_rfl
theorem topAgain_proved : Rows.TopAgainSaid :=
  OpenClaim.holds_of_wide 5 Tryz.f5 rfl rfl rfl rfl rfl rfl rfl ⟨rfl, rfl, rfl, rfl, rfl⟩ rfl rfl rfl rfl rfl (by kernel_rfl) Tryz.func5 xF
    (of_decide_eq_true (by kernel_rfl)) (by unfold Func.isWrapper; first | (rw [if_pos (by decide +kernel)]; kernel_rfl) | (rw [if_neg (by decide +kernel)]; exact ⟨rfl, rfl⟩))
    (fun os started H enc _ => wJ os started H enc)
end Go.Proofs.YtamdpnpkldgkcaaGreat
