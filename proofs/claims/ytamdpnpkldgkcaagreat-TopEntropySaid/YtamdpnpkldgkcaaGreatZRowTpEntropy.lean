/-
  The statement TopEntropy holds: for all arguments the law returns true and its arguments read as before. Conditions: none.
-/
import Derived.Test.YtamdpnpkldgkcaaGreatRows
import Derived.Test.YtamdpnpkldgkcaaGreatQuf
set_option linter.unusedSimpArgs false
set_option linter.unusedVariables false
set_option maxRecDepth 20000
namespace Go.Proofs.YtamdpnpkldgkcaaGreat
open Go.Proofs.Q9 Go Go.Vc Go.RowKit Go.ChangeShapes Go.WideShapes
theorem own : ownKnob Tryz.prog.godebug = none := by kernel_rfl
theorem laidOut : laidOutB Tryz.prog = true := by kernel_rfl
theorem AN {H : Type} (ds : List (DataW H)) (h : ds.length = 1) : Rows.topEntropySpec.fn H ds = { results := [.lit (.bool true)], args := ds } := by
  match ds, h with
  | [_], _ => rfl
theorem Bc {H : Type} {enc : TypeId × Value → H} (W : World) (args : Array Value) (ds : List (DataW H)) (h : zQ enc Tryz.prog W [44] args.toList) (_ : (DataW.weightsEach Tryz.prog [44] ds).all (· ≤ reachBytes) = true) :
    Cl Tryz.prog [kB] 6 args W (fun b w' => b = true ∧ Below W.heap.size W w') := by
  obtain ⟨v0, _, e, a0, rfl⟩ := h
  obtain rfl : args = ⟨[v0]⟩ := by cases args; simp_all
  obtain ⟨s, zs, rfl, hs, hzsw, hs1, hs2⟩ := a0.ints (e := 3) (k := .i64) (by kernel_rfl) (by kernel_rfl) (by kernel_rfl)
  exact CV (zs := zs) (Hp.start W) (ad.B6 hs) fun w' h' => ⟨rfl, h'.below⟩
set_option maxRecDepth 100000 in
theorem yl (os : Os) (started : os.Started) (H : Type) (enc : TypeId × Value → H) :
    ReturnsInHanded {} Tryz.checked os 6 .any (Rows.topEntropySpec.pre6 enc Tryz.prog Tryz.f6 Rows.topEntropyRow.domain false) (Rows.topEntropySpec.post enc Tryz.prog Tryz.f6 false true false false) :=
  tk (C := Tryz.checked) (tb := 4) own started (by kernel_rfl) Tryz.func6
    (ChangeSpec.witness6 (enc := enc) (C := Tryz.checked) false ⟨#[], #[.slice none 0 0], []⟩ 8 (by kernel_rfl) (by kernel_rfl) (by kernel_rfl) (by kernel_rfl))
    rfl (by kernel_rfl) (by kernel_rfl) AN laidOut (by kernel_rfl) (fun W args ds h hz => Bc W args ds (by rw [Tryz.params6] at h; exact h) (by rw [Tryz.params6] at hz; exact hz))
theorem tq : mapsRowed Tryz.prog = true := by kernel_rfl
theorem Js : Tryz.prog.stopsHeard = true := by kernel_rfl
theorem Fk : Tryz.prog.inPlace 6 = Rows.topEntropyRow.inPlace := by kernel_rfl
theorem EY : Tryz.prog.unfollowed 6 = Rows.topEntropyRow.unfollowed := by kernel_rfl
theorem Ft : Tryz.prog.recurses 6 = Rows.topEntropyRow.recurses := by kernel_rfl
theorem Fe : Tryz.prog.varsNamed 6 = Rows.topEntropyRow.named := by kernel_rfl
theorem yf : joinedFacts Tryz.prog 6 Tryz.f6 Rows.topEntropySpec Rows.topEntropyRow = true := by
  unfold joinedFacts
  rw [laidOut, tq, Js, Fk, EY, Ft, Fe]
  kernel_rfl
theorem topEntropy_proved : Rows.TopEntropySaid :=
  OpenClaim.holds_of_wide 6 Tryz.f6 rfl rfl rfl rfl rfl rfl rfl ⟨rfl, rfl, rfl, rfl, rfl⟩ rfl rfl rfl rfl rfl (by kernel_rfl) Tryz.func6 yf
    (of_decide_eq_true (by kernel_rfl)) (by unfold Func.isWrapper; first | (rw [if_pos (by decide +kernel)]; kernel_rfl) | (rw [if_neg (by decide +kernel)]; exact ⟨rfl, rfl⟩))
    (fun os started H enc _ => yl os started H enc)
end Go.Proofs.YtamdpnpkldgkcaaGreat
