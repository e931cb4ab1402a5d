/-
  The law BwtNext. Conditions: as each theorem states.
-/
import Derived.Test.YtbldlpljfppmgaaLaw17c
namespace Go.Bw
open Go Go.Vc Go.Rk
/-- a walk meets the index -/
theorem wk_end {last : List Nat} {index : Nat} (hi : index ≤ last.length) (h : ∀ j, j < last.length + 1 → wk last index j ≠ index) : False := by
  have hn : ((List.range (last.length + 1)).map (wk last index)).Nodup := by
    rw [List.nodup_iff_pairwise_ne, List.pairwise_iff_getElem]
    intro a b h1 h2 hab
    simp only [List.length_map, List.length_range] at h1 h2
    simp only [List.getElem_map, List.getElem_range]
    exact wk_inj hi a b (fun j hj => h j (by omega)) hab
  have hp := perm_range hn (fun x hx => by
    obtain ⟨j, hj, rfl⟩ := List.mem_map.1 hx
    rw [List.mem_range] at hj
    have := wk_le hi j fun i hi => h i (by omega)
    rw [List.length_map, List.length_range]; omega)
  rw [List.length_map, List.length_range] at hp
  have := hp.mem_iff.2 (List.mem_range.2 (show index < last.length + 1 by omega))
  obtain ⟨j, hj, e⟩ := List.mem_map.1 this
  exact h j (List.mem_range.1 hj) e
end Go.Bw
namespace Go.Proofs.Ytbldlpljfppmgaa
open Go Go.Vc Go.Bw Go.Hs Go.Rk
section
variable {E w : World} {F : List HP}
set_option maxRecDepth 100000 in
theorem bwNext_law {last : List Nat} {s : Sl} {index : Int} {K : Bool → World → Prop} (h : Hp E w F) (hs : Tells F (SlT 1 s (last.map vB))) (hb : ∀ x ∈ last, x < 256) (hK : ∀ w', Hp E w' F → K true w') :
    Cl Try.prog [kB] n_law17_BwtNext ⟨[.slice s.base s.len s.cap, .int .i64 index]⟩ w K := by
  refine law17_BwtNext.ok _ _ _ _ ?_
  unfold law17_BwtNext.E
  simp only [Join_eq]
  have hl := (h.tells hs).1
  simp only [List.length_map, Nat.mul_one] at hl
  have fin : ∀ {w' : World}, Hp E w' F → Cl Try.prog [kB] n_law17_wakes ⟨[]⟩ w' K := fun h' => wakes17_c h' fun w2 h2 => hK w2 h2
  refine IfB.mk (fun _ => fin h) (fun g1 => IfB.mk (fun _ => fin h) (fun g2 => IfB.mk (fun _ => fin h) (fun g3 => IfB.mk (fun _ => fin h) (fun g4 => ?_))))
  have g1 : (s.len : Int) ≠ 0 := by simpa using g1
  have g2 := of_decide_eq_false g2
  have g3 := of_decide_eq_false g3
  have g4 := of_decide_eq_false g4
  obtain ⟨ix, rfl⟩ : ∃ ix : Nat, index = (ix : Int) := ⟨index.toNat, by omega⟩
  have hix : ix ≤ last.length := by omega
  rw [show i64 ((s.len : Int) + 1) = ((last.length + 1 : Nat) : Int) by rw [i64_id (by omega)]; omega]
  refine run_mk1 (by kernel_rfl) infoT rfl (by omega) (by decide) h fun s14 w1 hs14 h1 => ?_
  rw [rep_vT] at h1
  have nxv : ∀ r : Nat, r ≤ last.length → r ≠ ix → nextN last ix r = (nx last (atB ix r) : Int) := fun r hr hne => by
    have : inRow last.length ix r := ⟨by omega, by omega, by omega, by omega, by omega⟩
    rw [nextN, if_pos this, Int.toNat_natCast, Int.toNat_natCast]
  have inr : ∀ r : Nat, r ≤ last.length → (inRow last.length ix r ↔ r ≠ ix) := fun r hr => by unfold inRow; omega
  refine ⟨fun r w' => ∃ (j : Nat) (B : List Bool), r = (j : Int) ∧ j ≤ last.length + 1 ∧ B.length = last.length + 1 ∧ (∀ x, x ≤ last.length → B.getD x false = true → ∃ i, i < j ∧ i ≠ ix ∧ nx last (atB ix i) = x) ∧ Hp E w' (OwnS 1 s14 (B.map vT) :: F), fun r _ => last.length + 1 - r.toNat,
    ⟨0, List.replicate (last.length + 1) false, rfl, by omega, List.length_replicate, fun x hx e => by (rw [rep_getT] at e; cases e), h1⟩, ?_⟩
  rintro r w2 ⟨j, B, rfl, hj, hB, hv, h2⟩
  refine IfB.mk (fun hlt => ?_) (fun hge => ?_)
  · have hlt : j ≤ last.length := by have := of_decide_eq_true hlt; omega
    refine next1 h2 (Tells.cons hs) (by omega) fun w3 h3 => ?_
    by_cases hne : j = ix
    · have hin : ¬ inRow last.length ix j := fun e => (inr j hlt).1 e hne
      rw [decide_eq_false hin]
      refine IfB.f (by simp [hne]) (IfB.f rfl (IfB.f rfl ?_))
      refine ⟨⟨j + 1, B, by rw [i64_id (by omega)]; omega, by omega, hB, fun x hx e => ?_, h3⟩, by dsimp only; rw [i64_id (by omega)]; omega⟩
      obtain ⟨i, q1, q2, q3⟩ := hv x hx e
      exact ⟨i, by omega, q2, q3⟩
    · have hin : inRow last.length ix j := (inr j hlt).2 hne
      have hat := atB_in hix hlt hne
      have h1 := nx_pos last (atB ix j)
      have h2' := nx_le hat
      rw [decide_eq_true hin, nxv j hlt hne]
      refine IfB.f (by have : ((j : Int) != (ix : Int)) = true := by rw [bne_iff_ne]; omega
                       rw [this]; rfl) (IfB.t rfl (IfB.f (by rw [decide_eq_false_iff_not]; omega) (IfB.f (by rw [decide_eq_false_iff_not]; omega) ?_)))
      refine Idx.nT (h3.tells Tells.own) rfl (by omega) (IfB.f ?_ (IfB.t rfl ?_))
      · rw [← Bool.not_eq_true]
        intro e
        obtain ⟨i, q1, q2, q3⟩ := hv _ h2' e
        have := atB_inj q2 hne (nx_inj (atB_in hix (by omega) q2) hat q3)
        omega
      refine Idx.setT h3 rfl (by omega) fun w4 h4 => ?_
      refine ⟨⟨j + 1, _, by rw [i64_id (by omega)]; omega, by omega, by rw [List.length_set]; exact hB, fun x hx e => ?_, h4⟩, by dsimp only; rw [i64_id (by omega)]; omega⟩
      rw [getD_setT (by omega)] at e
      by_cases q : x = nx last (atB ix j)
      · exact ⟨j, by omega, hne, q.symm⟩
      · rw [if_neg q] at e
        obtain ⟨i, q1, q2, q3⟩ := hv x hx e
        exact ⟨i, by omega, q2, q3⟩
  · have h3 := h2.drop
    refine ⟨fun r n w' => ∃ j : Nat, n = (j : Int) ∧ j ≤ last.length ∧ r = (wk last ix j : Int) ∧ (∀ i, i < j → wk last ix i ≠ ix) ∧ Hp E w' F, fun _ n _ => last.length + 1 - n.toNat, ⟨0, rfl, by omega, rfl, fun i hi => by omega, h3⟩, ?_⟩
    rintro r n w3 ⟨j, rfl, hj, rfl, hne, h4⟩
    have hw := wk_le hix j hne
    have hz : 0 < j ∨ j = 0 := by omega
    refine IfB.mk (fun q1 => ?_) (fun q1 => ?_)
    · have q1 : wk last ix j ≠ ix := by rw [bne_iff_ne] at q1; omega
      have hne2 : ∀ i, i < j + 1 → wk last ix i ≠ ix := fun i hi => by
        by_cases e : i = j
        · rw [e]; exact q1
        · exact hne i (by omega)
      have hlt : j < last.length := by
        rcases Nat.lt_or_ge j last.length with q | q
        · exact q
        · have : j = last.length := by omega
          subst this
          exact absurd hne2 (fun h => wk_end hix h)
      refine IfB.t (by rw [decide_eq_true_eq]; omega) (next1 h4 hs (by omega) fun w4 h5 => ?_)
      rw [nxv _ hw q1]
      exact ⟨⟨j + 1, by rw [i64_id (by omega)]; omega, by omega, rfl, hne2, h5⟩, by dsimp only; rw [i64_id (by omega)]; omega⟩
    · have q1 : wk last ix j = ix := by rw [bne_eq_false_iff_eq] at q1; omega
      refine IfB.t (by rw [beq_iff_eq]; omega) (IfB.t (by rw [decide_eq_true_eq]; omega) (IfB.mk (fun e => ?_) (fun e => ?_)))
      · have e : j = last.length := by rw [beq_iff_eq] at e; omega
        subst e
        have ho : okI last ix := ⟨by omega, by rw [Int.toNat_natCast]; exact ⟨hix, hne, q1⟩⟩
        refine valid1 h4 hs hb (by omega) fun w4 h5 => IfB.t ?_ (fin h5)
        rw [decide_eq_true ho]
        have : 0 < ix := by
          rcases Nat.eq_zero_or_pos ix with q | q
          · exact absurd (show wk last ix 0 = ix by rw [q]; rfl) (hne 0 (by omega))
          · exact q
        rw [decide_eq_true (by omega)]; rfl
      · have e : j ≠ last.length := by rw [beq_eq_false_iff_ne] at e; omega
        have ho : ¬ okI last ix := fun ho => by
          have := ho.2.2.1 j (by omega)
          rw [Int.toNat_natCast] at this
          exact this q1
        refine valid1 h4 hs hb (by omega) fun w4 h5 => IfB.t ?_ (fin h5)
        rw [decide_eq_false ho]; rfl
end
end Go.Proofs.Ytbldlpljfppmgaa
