/-
  The statement ScriptMatches holds: for all arguments the law returns true and its arguments read as before, with the library's variables as laid. Conditions: none.
-/
import Derived.Test.YtdfalolgngnelaaDoorRows
import Derived.Test.YtdfalolgngnelaaDoorTie
import Derived.Test.YtdfalolgngnelaaDoorCards
import Derived.SevenTiedAt
import Derived.Test.YtdfalolgngnelaaDoorPe
set_option linter.unusedSimpArgs false
set_option linter.unusedVariables false
namespace Go.Proofs.YtdfalolgngnelaaDoor
open Go Go.Vc Go.RowKit Go.ChangeShapes Go.WideShapes Go.Scr
theorem scriptMatches_spec {H : Type} (ds : List (DataW H)) (h : ds.length = 5) : Rows.scriptMatchesSpec.fn H ds = { results := [.lit (.bool true)], args := ds } := by
  match ds, h with
  | [_, _, _, _, _], _ => rfl
theorem scriptMatches_args {H : Type} {enc : TypeId × Value → H} (W : World) (args : Array Value) (ds : List (DataW H)) (h : ArgL enc Tryd.prog W [9, 9, 27, 27, 24] args.toList) (hw : (DataW.weightsEach Tryd.prog [9, 9, 27, 27, 24] ds).all (· ≤ reachBytes) = true) (hg : Gl W) :
    Cl Tryd.prog [kB] n_law30_ScriptMatches args W (fun b w' => b = true ∧ Below W.heap.size W w') := by
  obtain ⟨v0, _, e, a0, v1, _, rfl, a1, v2, _, rfl, a2, v3, _, rfl, a3, v4, _, rfl, a4, rfl⟩ := h
  obtain rfl : args = ⟨[v0, v1, v2, v3, v4]⟩ := by cases args; simp_all
  obtain ⟨x, rfl, _⟩ := a0.string (by kernel_rfl)
  obtain ⟨y, rfl, _⟩ := a1.string (by kernel_rfl)
  obtain ⟨x, rfl, hx⟩ := str_every x
  obtain ⟨y, rfl, hy⟩ := str_every y
  obtain ⟨s, ds, sd, ss, sb, sc, rfl, gs, rs⟩ := scn_arg a2
  obtain ⟨o, es, td, ts, tb, tc, rfl, go, ro⟩ := scn_arg a3
  obtain ⟨sx, t, rfl, ht, htb, _, _⟩ := a4.bytes (e := 5) (by kernel_rfl) (by kernel_rfl) (by kernel_rfl)
  exact scriptMatches_c (b := t) (Hp.start W) (Gl.old hg) hx hy (rs []) (ro []) gs go (Tells.slT ht) htb fun w' h' => ⟨rfl, h'.below⟩

set_option maxRecDepth 100000 in
theorem scriptMatches_lifted (os : Os) (started : os.Started) (H : Type) (enc : TypeId × Value → H) :
    ReturnsInHanded {} Tryd.checked os 3 .any (fun w args => (Rows.scriptMatchesSpec.pre enc Tryd.prog Tryd.f3 [] false w args ∧ laidMetH Tryd.prog Rows.scriptHexRow.laid w) ∧ sizedMet enc Tryd.prog Tryd.f3 (OpenSpec.ofChange Rows.scriptMatchesSpec) false w args) (Rows.scriptMatchesSpec.post enc Tryd.prog Tryd.f3 false true false false) :=
  law_lift_laid (tb := 4) started (by kernel_rfl) Tryd.func3
    (ChangeSpec.witness_shaped (enc := enc) (C := Tryd.checked) (os := os) (X := fun w _ => laidMetH Tryd.prog Rows.scriptHexRow.laid w) false (World.doorLaid Tryd.prog 62 os) #[.string (ByteArray.mk #[]), .string (ByteArray.mk #[]), .agg ⟨zS⟩, .agg ⟨zS⟩, .slice none 0 0] 8 rfl (World.shaped_of_RefB (by kernel_rfl) (by kernel_rfl)) (by kernel_rfl) (by kernel_rfl) (by kernel_rfl) (door_met os _))
    rfl (by kernel_rfl) (by kernel_rfl) scriptMatches_spec (by kernel_rfl) (fun W args ds h hz hg => scriptMatches_args W args ds (by rw [Tryd.params3] at h; exact h) (by rw [Tryd.params3] at hz; exact hz) hg)
theorem scriptMatches_holds : Rows.ScriptMatchesSaid :=
  OpenClaim.holds_of_wide 3 Tryd.f3 rfl rfl rfl rfl rfl rfl rfl ⟨rfl, rfl, rfl, rfl, rfl⟩ rfl rfl rfl rfl rfl (by kernel_rfl) Tryd.func3 (by kernel_rfl)
    (of_decide_eq_true (by kernel_rfl)) (by unfold Func.isWrapper; first | (rw [if_pos (by decide +kernel)]; kernel_rfl) | (rw [if_neg (by decide +kernel)]; exact ⟨rfl, rfl⟩))
    (fun os started H enc _ => scriptMatches_lifted os started H enc)
theorem scriptMatches_proved : Rows.ScriptMatchesCardSaid :=
  Claim7.holds_tied_plain_at .later [] [.data, .data, .data, .sentinel, .sentinel] true (true, "1e9cab63148c6610d9b5ce7a18ac7e0104a661309936e0953e05cded2bacadb0") true
    scriptMatches_holds (fun _ h => by cases h) (by kernel_rfl) (fun _ h => by cases h) scriptMatches_row_tie rfl ⟨rfl, rfl⟩ (by kernel_rfl) rfl
    (fun f fn hf hfn => by
      obtain rfl : f = 3 := Option.some.inj ((show Tryd.prog.funcNamed "winepress/winepresslaw30.ScriptMatches" = some 3 by kernel_rfl).symm.trans hf) |>.symm
      obtain rfl : fn = Tryd.f3 := (Option.some.inj (Tryd.func3.symm.trans hfn)).symm
      exact ⟨by kernel_rfl, fun j t ht => by
        rw [Tryd.params3] at ht
        have hm : t ∈ [9, 9, 27, 27, 24] := by simpa using Array.mem_of_getElem? ht
        have hall : ([9, 9, 27, 27, 24].all fun u => !Tryd.prog.wantsStandIn u) = true := by kernel_rfl
        exact (show Tryd.prog.wantsStandIn t = false by simpa using List.all_eq_true.1 hall t hm)⟩)
    (by kernel_rfl)
end Go.Proofs.YtdfalolgngnelaaDoor
