/-
  The statement ScenarioSame holds in its second form: for all arguments of small bulk the law returns true and its arguments read as before, with the library's variables as laid. Conditions: the bound of the statement.
-/
import Derived.Test.YtdpadhpcgkjdiaaGreatDoorRows
import Derived.Test.YtdpadhpcgkjdiaaGreatDoorTie
import Derived.Test.YtdpadhpcgkjdiaaGreatDoorCards
import Derived.SevenTiedAt
import Derived.Test.YtdpadhpcgkjdiaaGreatDoorQyf
set_option linter.unusedSimpArgs false
set_option linter.unusedVariables false
set_option maxRecDepth 20000
namespace Go.Proofs.YtdpadhpcgkjdiaaGreatDoor
open Go.Proofs.Q9 Go Go.Vc Go.RowKit Go.ChangeShapes Go.WideShapes Go.Scr
theorem yw {H : Type} (ds : List (DataW H)) (h : ds.length = 4) : Rows.scenarioSameSpec.fn H ds = { results := [.lit (.bool true)], args := ds } := by
  match ds, h with
  | [_, _, _, _], _ => rfl
theorem yA {H : Type} {enc : TypeId × Value → H} (W : World) (args : Array Value) (es : List (DataW H)) (ps : List MemPlace) (hA : DataW.TrodAll enc Tryz.prog W 0 (fun _ => true) true [27, 3, 3, 25] args.toList es ps) (h : NV enc Tryz.prog W [27, 3, 3, 25] args.toList) (hk : Rows.uptoSmall H es = true) (hg : Gl W) :
    Cl Tryz.prog [kB] 4 args W (fun b w' => b = true ∧ Below W.heap.size W w') := by
  obtain ⟨v0, _, e, a0, v1, _, rfl, a1, v2, _, rfl, a2, v3, _, rfl, a3, rfl⟩ := h
  obtain rfl : args = ⟨[v0, v1, v2, v3]⟩ := by cases args; simp_all
  obtain ⟨s, ds, sd, ss, sb, sc, rfl, hgood, hcap, hr⟩ := VF a0
  obtain ⟨i, rfl, _⟩ := a1.int (k := .i64) (by kernel_rfl)
  obtain ⟨j, rfl, _⟩ := a2.int (k := .i64) (by kernel_rfl)
  obtain ⟨sk, bj, rfl, hcut, _⟩ := a3.ints (e := 3) (k := .i64) (by kernel_rfl) (by kernel_rfl) (by kernel_rfl)
  obtain ⟨u0, us, d0, es', p0, q0, hargs, rfl, _, h0, _⟩ := trodAll_cons hA
  obtain rfl : Value.agg ⟨aV cD (tS s sd ss sb sc)⟩ = u0 := (List.cons.inj hargs).1
  obtain ⟨fuel, h0⟩ := h0
  have hb := of_decide_eq_true hk
  simp only [Rows.uptoBulkAll] at hb
  have hs := (Hp.start W).an (hr []).td
  have hl : ∀ e ∈ ds, e.2.len = e.1.2.length := fun e he => by
    obtain ⟨n, hn, rfl⟩ := List.getElem_of_mem he
    simpa using (((Hp.start W).an ((hr []).tb n hn)).1).symm
  have hbb := Tj (s := s) (ds := ds) (sd := sd) (ss := ss) (sb := sb) (sc := sc) h0 hs hl
  exact Dv (Hp.start W) (Gl.E0 hg) (hr []) hgood hcap (ad.Mt hcut) (by omega) (by omega) fun w' h' => ⟨rfl, h'.below⟩
theorem vM (os : Os) {H : Type} (enc : TypeId × Value → H) : ∃ places, DataW.whole enc Tryz.prog ((World.doorLaid Tryz.prog 62 os).forCall (fun _ _ => 0) ⟨#[], #[.agg ⟨[.int .i64 0, .int .i64 0, .slice none 0 0, .slice none 0 0, .int .i64 0, .slice none 0 0, .int .i64 0, .slice none 0 0]⟩, .int .i64 0, .int .i64 0, .slice none 0 0], []⟩).memory Tryz.f4.params.toList Rows.scenarioSameSpec.vars false #[.agg ⟨[.int .i64 0, .int .i64 0, .slice none 0 0, .slice none 0 0, .int .i64 0, .slice none 0 0, .int .i64 0, .slice none 0 0]⟩, .int .i64 0, .int .i64 0, .slice none 0 0].toList 8 = some ([.agg [.lit (.int .i64 0), .lit (.int .i64 0), .nil, .nil, .lit (.int .i64 0), .nil, .lit (.int .i64 0), .nil], .lit (.int .i64 0), .lit (.int .i64 0), .nil], [], places) :=
  ⟨[], by kernel_rfl⟩
theorem AL : (Rows.scenarioSameUptoRow.inPlace == Tryz.prog.inPlace 4) = true := by kernel_rfl
theorem qR : (Rows.scenarioSameUptoRow.unfollowed == Tryz.prog.unfollowed 4) = true := by kernel_rfl
theorem AM : (Rows.scenarioSameUptoRow.named == Tryz.prog.varsNamed 4) = true := by kernel_rfl
theorem vG : joinedFacts Tryz.prog 4 Tryz.f4 Rows.scenarioSameSpec Rows.scenarioSameUptoRow = true := by
  unfold joinedFacts
  exact dM (dM (dM (dM (dM (dM (dM (dM (dM (dM (dM (dM (dM (dM (dM (dM (dM (dM (dM (dM (dM (dM (dM (dM (dM (dM (dM (dM (dM (dM (dM (by kernel_rfl) laidOut) aaj) (by kernel_rfl)) (by kernel_rfl)) (by kernel_rfl)) (by kernel_rfl)) (by kernel_rfl)) (by kernel_rfl)) AL) qR) (adb qR)) AM) (by kernel_rfl)) (by kernel_rfl)) (by kernel_rfl)) (by kernel_rfl)) (by kernel_rfl)) (by kernel_rfl)) (by kernel_rfl)) (by kernel_rfl)) (by kernel_rfl)) abc) (by kernel_rfl)) Sg) SA) Rq) VT) (by kernel_rfl)) (by kernel_rfl)) (by kernel_rfl)) (by kernel_rfl)
set_option maxRecDepth 100000 in
theorem vw (os : Os) (started : os.Started) (H : Type) (enc : TypeId × Value → H) (F : Stop.Interp) :
    ReturnsInHanded {} Tryz.checked os 4 .any ((Rows.OpenSpec.upto Rows.scenarioSameSpec).preRow enc Tryz.prog Tryz.f4 [] false Rows.scenarioBackRow.laid) (((Rows.OpenSpec.upto Rows.scenarioSameSpec).at F).post enc Tryz.prog Tryz.f4 false true false false) := by
  obtain ⟨places, hx⟩ := vM os enc
  exact Fm (tb := 4) started (by kernel_rfl) Tryz.func4
    (witness_row_atRef (enc := enc) (C := Tryz.checked) false (World.doorLaid Tryz.prog 62 os) #[.agg ⟨[.int .i64 0, .int .i64 0, .slice none 0 0, .slice none 0 0, .int .i64 0, .slice none 0 0, .int .i64 0, .slice none 0 0]⟩, .int .i64 0, .int .i64 0, .slice none 0 0] rfl (TV os _) (O6 os _) (by kernel_rfl)
      (OpenSpec.preRow_of_cond 8 hx (by kernel_rfl) (fun k hk => by cases hk; kernel_rfl) (by kernel_rfl) (Rv os _)))
    rfl (by kernel_rfl) (by kernel_rfl) yw (by kernel_rfl) (fun W args ds ps hA h hk hg => yA W args ds ps (by rw [Tryz.params4] at hA; exact hA) (by rw [Tryz.params4] at h; exact h) hk hg)
theorem vQ : Rows.ScenarioSameUptoSaid :=
  OpenClaim.holds_of_cond 4 Tryz.f4 rfl rfl rfl rfl rfl rfl rfl ⟨rfl, rfl, rfl, rfl, rfl⟩ rfl rfl rfl rfl rfl (by kernel_rfl) Tryz.func4 vG
    (of_decide_eq_true (by kernel_rfl)) (by unfold Func.isWrapper; first | (rw [if_pos (by decide +kernel)]; kernel_rfl) | (rw [if_neg (by decide +kernel)]; exact ⟨rfl, rfl⟩))
    (fun os started H enc _ F => by rw [OpenClaim.pre_eq_preRow]; exact vw os started H enc F)
theorem scenarioSame_proved : Rows.ScenarioSameUptoCardSaid :=
  Claim7.holds_tied_plain_at .later [] _ _ _ _
    vQ (fun _ h => by cases h) (by kernel_rfl) (fun _ h => by cases h) scenarioSameUpto_row_tie rfl ⟨rfl, rfl⟩ aaA rfl
    (fun f fn hf hfn => by
      obtain rfl : f = 4 := Option.some.inj ((show Tryz.prog.funcNamed "winepress/winepresslaw31.ScenarioSame" = some 4 by kernel_rfl).symm.trans hf) |>.symm
      obtain rfl : fn = Tryz.f4 := (Option.some.inj (Tryz.func4.symm.trans hfn)).symm
      exact ⟨TN, fun j t ht => by
        rw [Tryz.params4] at ht
        have hm : t ∈ [27, 3, 3, 25] := by simpa using Array.mem_of_getElem? ht
        have hall : ([27, 3, 3, 25].all fun u => !Tryz.prog.wantsStandIn u) = true := by kernel_rfl
        exact (show Tryz.prog.wantsStandIn t = false by simpa using List.all_eq_true.1 hall t hm)⟩)
    (V7 rfl)
end Go.Proofs.YtdpadhpcgkjdiaaGreatDoor
