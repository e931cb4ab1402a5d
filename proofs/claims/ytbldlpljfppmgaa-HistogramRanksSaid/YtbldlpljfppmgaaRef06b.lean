/-
  winepressref06.Ranks and Different: contracts. Conditions: as each theorem states.
-/
import Derived.Test.YtbldlpljfppmgaaRef06
namespace Go.Proofs.Ytbldlpljfppmgaa
open Go Go.Vc Go.Hs
section
variable {E w : World} {F : List HP}
theorem placed_step {t out : List Int} {k : Nat} (h : placed t k out) (hk : k < (usedT t).length) : placed t (k + 1) (out.set (aheadN t (usedT t) ((usedT t).getD k 0) (usedT t).length) ((usedT t).getD k 0)) := by
  obtain ⟨ha, _⟩ := ahead_at hk
  have hsl := sort2_len (pairsT t)
  rw [pairs_len] at hsl
  refine ⟨by rw [List.length_set]; exact h.1, fun i hi => ?_⟩
  rw [getD_set (by rw [h.1]; omega)]
  by_cases e : aheadN t (usedT t) ((usedT t).getD i 0) (usedT t).length = aheadN t (usedT t) ((usedT t).getD k 0) (usedT t).length
  · rw [if_pos e, ahead_inj (by omega) hk e]
  · rw [if_neg e]
    refine h.2 i ?_
    rcases Nat.lt_or_ge i k with h1 | h1
    · exact h1
    · obtain rfl : i = k := by omega
      exact absurd rfl e
set_option maxRecDepth 20000 in
theorem rRanks6_c {t : List Int} {K : Sl → World → Prop} (h : Hp E w F) (ht : t.length = 258) (hK : ∀ s w', Hp E w' (OwnS 1 s ((ranksT t).map vI) :: F) → K s w') : Cl Try.prog [kS] n_ref06_Ranks ⟨[.agg (aT t)]⟩ w K := by
  refine ref06_Ranks.ok _ _ _ ?_
  unfold ref06_Ranks.E
  have hT : (aT t).size = 258 := by rw [aT_size, ht]
  have hul := usedT_len t
  refine Nw.mk h fun b3 w1 h1 => Ld.arr h1 hT (rUsed6_c h1 ht fun s6 w2 h2 => ?_)
  have hl6 := h2.ownLen
  rw [List.length_map, Nat.mul_one] at hl6
  refine run_mk1 (by kernel_rfl) infoI rfl (by omega) (by decide) h2 fun s8 w3 hs8 h3 => ?_
  have hgo : ∀ {n : Nat}, List.replicate n (Value.int .i64 0) = (List.replicate n (0 : Int)).map vI := fun {n} => by simp [vI]
  rw [hgo] at h3
  generalize hU : usedT t = u at *
  have hin : ∀ j, j < u.length → 0 ≤ u.getD j 0 ∧ u.getD j 0 < 258 := fun j hj => by
    have := usedT_mem (t := t) (z := u.getD j 0) (by rw [hU, List.getD, List.getElem?_eq_getElem hj]; exact List.getElem_mem hj)
    omega
  refine ⟨fun i w' => ∃ (k : Nat) (out : List Int), i = (k : Int) ∧ k ≤ u.length ∧ placed t k out ∧ Hp E w' (OwnS 1 s8 (out.map vI) :: OwnS 1 s6 (u.map vI) :: Blk b3 (.cells (aT t) 23 (0, 0)) :: F), fun i _ => u.length - i.toNat, ⟨0, _, rfl, by omega, ⟨by rw [List.length_replicate, hU]; omega, fun i hi => by omega⟩, h3⟩, ?_⟩
  rintro i w4 ⟨k, out, rfl, hk, hpl, h4⟩
  refine IfB.mk (fun hlt => ?_) (fun hge => ?_)
  · have hlt : k < u.length := by have := of_decide_eq_true hlt; omega
    refine ⟨fun a j w' => ∃ q : Nat, j = (q : Int) ∧ q ≤ u.length ∧ a = (aheadN t u (u.getD k 0) q : Int) ∧ Hp E w' (OwnS 1 s8 (out.map vI) :: OwnS 1 s6 (u.map vI) :: Blk b3 (.cells (aT t) 23 (0, 0)) :: F), fun _ j _ => u.length - j.toNat, ⟨0, rfl, by omega, rfl, h4⟩, ?_⟩
    rintro a j w5 ⟨q, rfl, hq, rfl, h5⟩
    have hle : aheadN t u (u.getD k 0) q ≤ q := by
      unfold aheadN
      refine Nat.le_trans List.countP_le_length ?_
      rw [List.length_take]; omega
    refine IfB.mk (fun hqlt => ?_) (fun hqge => ?_)
    · have hqlt : q < u.length := by have := of_decide_eq_true hqlt; omega
      refine Drw.mk h5 fun w6 h6 => ?_
      have hu6 : SlT 1 s6 (u.map vI) w6 := h6.tells (Tells.cons Tells.own)
      have hy := hin q hqlt
      have hx := hin k hlt
      have hs := aheadN_succ (t := t) (x := u.getD k 0) hqlt
      have gq : ∀ {K : Int → Prop}, K (u.getD q 0) → Idx s6 (q : Int) 1 fun p => Ld kI p w6 K := fun hK => Idx.nI hu6 rfl hqlt hK
      have gk : ∀ {K : Int → Prop}, K (u.getD k 0) → Idx s6 (k : Int) 1 fun p => Ld kI p w6 K := fun hK => Idx.nI hu6 rfl hlt hK
      have tq : ∀ {K : Int → Prop}, K (t.getD (u.getD q 0).toNat 0) → IdxP ⟨b3, 0, none⟩ 258 (u.getD q 0) 1 fun p => Ld kI p w6 K := fun hK => IdxP.aT h6.p2 (j := (u.getD q 0).toNat) (by omega) ht (by omega) hK
      have tk : ∀ {K : Int → Prop}, K (t.getD (u.getD k 0).toNat 0) → IdxP ⟨b3, 0, none⟩ 258 (u.getD k 0) 1 fun p => Ld kI p w6 K := fun hK => IdxP.aT h6.p2 (j := (u.getD k 0).toNat) (by omega) ht (by omega) hK
      have yes : lt2 (t.getD (u.getD q 0).toNat 0, u.getD q 0) (t.getD (u.getD k 0).toNat 0, u.getD k 0) = true → _ ∧ _ := fun hl =>
        (⟨⟨q + 1, by rw [i64_id (by omega)]; omega, by omega, by rw [i64_id (by omega), hs, if_pos hl]; omega, h6⟩, by rw [i64_id (x := (q : Int) + 1) (by omega)]; omega⟩ : (∃ q' : Nat, i64 ((q : Int) + 1) = (q' : Int) ∧ q' ≤ u.length ∧ i64 ((aheadN t u (u.getD k 0) q : Int) + 1) = (aheadN t u (u.getD k 0) q' : Int) ∧ Hp E w6 (OwnS 1 s8 (out.map vI) :: OwnS 1 s6 (u.map vI) :: Blk b3 (.cells (aT t) 23 (0, 0)) :: F)) ∧ u.length - (i64 ((q : Int) + 1)).toNat < u.length - (q : Int).toNat)
      have no : lt2 (t.getD (u.getD q 0).toNat 0, u.getD q 0) (t.getD (u.getD k 0).toNat 0, u.getD k 0) = false → _ ∧ _ := fun hl =>
        (⟨⟨q + 1, by rw [i64_id (by omega)]; omega, by omega, by rw [hs, hl]; simp, h6⟩, by rw [i64_id (x := (q : Int) + 1) (by omega)]; omega⟩ : (∃ q' : Nat, i64 ((q : Int) + 1) = (q' : Int) ∧ q' ≤ u.length ∧ (aheadN t u (u.getD k 0) q : Int) = (aheadN t u (u.getD k 0) q' : Int) ∧ Hp E w6 (OwnS 1 s8 (out.map vI) :: OwnS 1 s6 (u.map vI) :: Blk b3 (.cells (aT t) 23 (0, 0)) :: F)) ∧ u.length - (i64 ((q : Int) + 1)).toNat < u.length - (q : Int).toNat)
      refine gq (tq (gk (tk ?_)))
      refine IfB.mk (fun hc => yes (lt2_iff.2 (.inl (of_decide_eq_true hc)))) (fun hc => ?_)
      have hc := of_decide_eq_false hc
      refine gq (tq (gk (tk ?_)))
      refine IfB.mk (fun he => ?_) (fun he => no ?_)
      · have he := beq_iff_eq.1 he
        refine gq (gk (IfB.mk (fun hd => yes (lt2_iff.2 (.inr ⟨he, of_decide_eq_true hd⟩))) (fun hd => no ?_)))
        have hd := of_decide_eq_false hd
        rw [Bool.eq_false_iff, ne_eq, lt2_iff]
        simp only; omega
      · have he := beq_eq_false_iff_ne.1 he
        rw [Bool.eq_false_iff, ne_eq, lt2_iff]
        simp only; omega
    · have hqge : q = u.length := by have := of_decide_eq_false hqge; omega
      subst hqge
      have hst := placed_step hpl (by rw [hU]; exact hlt)
      obtain ⟨ha, _⟩ := ahead_at (t := t) (i := k) (by rw [hU]; exact hlt)
      rw [sort2_len, pairs_len, hU] at ha
      rw [hU] at hst
      refine Idx.nI (h5.tells (Tells.cons Tells.own)) rfl hlt (Idx.setI h5 rfl (by rw [hpl.1, hU]; exact ha) fun w6 h6 => ?_)
      exact ⟨⟨k + 1, _, by rw [i64_id (by omega)]; omega, by omega, hst, h6⟩, by dsimp only; rw [i64_id (by omega)]; omega⟩
  · have hge : k = u.length := by have := of_decide_eq_false hge; omega
    subst hge
    rw [← hU] at hpl
    rw [placed_all hpl] at h4
    exact hK s8 w4 h4.p1.drop.p1.drop
set_option maxRecDepth 20000 in
theorem rDiff6_c {s : Sl} {ts : List T258} {K : Int → World → Prop} (h : Hp E w F) (hs : Tells F (SlT 258 s (ts.flatMap gT))) (hn : ts.length ≤ big) (hK : ∀ w', Hp E w' F → K ((firsts ts).length : Int) w') :
    Cl Try.prog [kI] n_ref06_Different ⟨[.slice s.base s.len s.cap]⟩ w K := by
  refine ref06_Different.ok _ _ _ ?_
  unfold ref06_Different.E
  have hlen := SlT.len gT_len (by decide) (h.tells hs)
  rw [big_eq] at hn
  have hfl : ∀ k, k ≤ ts.length → (firsts (ts.take k)).length ≤ k := by
    intro k
    induction k with
    | zero => intro _; simp [firsts]
    | succ k ih =>
      intro hk
      rw [List.take_add_one, List.getElem?_eq_getElem (by omega)]
      show (firsts (ts.take k ++ [ts[k]])).length ≤ _
      rw [firsts_snoc, fi_len]
      have := ih (by omega)
      split <;> omega
  refine ⟨fun n i w' => ∃ k : Nat, i = (k : Int) ∧ k ≤ ts.length ∧ n = ((firsts (ts.take k)).length : Int) ∧ Hp E w' F, fun _ i _ => ts.length - i.toNat, ⟨0, rfl, by omega, rfl, h⟩, ?_⟩
  rintro n i w2 ⟨k, rfl, hk, rfl, hh⟩
  refine IfB.mk (fun hlt => ?_) (fun hge => ?_)
  · have hlt : k < ts.length := by have := of_decide_eq_true hlt; omega
    have hfk := hfl k hk
    have hstep : firsts (ts.take (k + 1)) = fi (firsts (ts.take k)) ts[k] := by
      rw [List.take_add_one, List.getElem?_eq_getElem hlt]
      exact firsts_snoc _ _
    refine ⟨fun j w' => ∃ q : Nat, j = (q : Int) ∧ q ≤ k ∧ (∀ (a : Nat) (ha : a < q) (hb : a < ts.length), ts[a] ≠ ts[k]) ∧ Hp E w' F, fun j _ => k - j.toNat, ⟨0, rfl, by omega, fun a ha => by omega, hh⟩, ?_⟩
    rintro j w3 ⟨q, rfl, hq, hne, h3⟩
    refine Drw.mk h3 fun w4 h4 => ?_
    have hqlt : q < ts.length := by omega
    refine Idx.elT (g := gT) gT_len (by decide) h4 hs rfl hqlt fun p hp => ?_
    refine Ld.arrAt (cs := aT ts[q].1) (by rw [aT_size]; exact ts[q].2) (fun j hj => by rw [h4.tells (hp j hj)]; simp [gT, aT]) ?_
    refine Idx.elT (g := gT) gT_len (by decide) h4 hs rfl hlt fun p2 hp2 => ?_
    refine Ld.arrAt (cs := aT ts[k].1) (by rw [aT_size]; exact ts[k].2) (fun j hj => by rw [h4.tells (hp2 j hj)]; simp [gT, aT]) ?_
    refine EqA.aT ts[q].2 ts[k].2 (IfB.mk (fun hd => ?_) (fun he => ?_))
    · have hd : ts[q] ≠ ts[k] := fun e => by rw [e] at hd; simp at hd
      have hqk : q ≠ k := fun e => by subst e; exact hd rfl
      refine ⟨⟨q + 1, by rw [i64_id (by omega)]; omega, by omega, fun a ha hb => ?_, h4⟩, by dsimp only; rw [i64_id (by omega)]; omega⟩
      by_cases e : a = q
      · subst e; exact hd
      · exact hne a (by omega) hb
    · have he : ts[q] = ts[k] := by
        have : (ts[q].1 == ts[k].1) = true := by simpa using he
        exact Subtype.ext (beq_iff_eq.1 this)
      refine IfB.mk (fun hqk => ?_) (fun hqk => ?_)
      · have hqk : q = k := by have := beq_iff_eq.1 hqk; omega
        subst hqk
        have hnm : ts[q] ∉ firsts (ts.take q) := fun hm => by
          rw [firsts_mem] at hm
          obtain ⟨a, ha, e⟩ := List.getElem_of_mem hm
          rw [List.length_take] at ha
          rw [List.getElem_take] at e
          exact hne a (by omega) (by omega) e
        refine ⟨⟨q + 1, by rw [i64_id (by omega)]; omega, by omega, ?_, h4⟩, by dsimp only; rw [i64_id (x := (q : Int) + 1) (by omega)]; omega⟩
        rw [hstep, fi_len, if_neg hnm, i64_id (by omega)]; omega
      · have hqk : q < k := by have := beq_eq_false_iff_ne.1 hqk; omega
        have hm : ts[k] ∈ firsts (ts.take k) := by
          rw [firsts_mem, ← he]
          exact List.mem_take_iff_getElem.2 ⟨q, by omega, rfl⟩
        refine ⟨⟨k + 1, by rw [i64_id (by omega)]; omega, by omega, ?_, h4⟩, by dsimp only; rw [i64_id (x := (k : Int) + 1) (by omega)]; omega⟩
        rw [hstep, fi_len, if_pos hm]
  · have hge : k = ts.length := by have := of_decide_eq_false hge; omega
    subst hge
    rw [List.take_length]
    exact hK w2 hh
end
end Go.Proofs.Ytbldlpljfppmgaa
