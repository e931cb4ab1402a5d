/-
  The laws HistogramMatches and HistogramRanks of winepresslaw06. Conditions: as each theorem states.
-/
import Derived.Test.YtbldlpljfppmgaaLaw06
namespace Go.Proofs.Ytbldlpljfppmgaa
open Go Go.Vc Go.Hs
theorem ranksT_len (t : List Int) : (ranksT t).length = (usedT t).length := by
  unfold ranksT
  rw [List.length_map, sort2_len, pairs_len]
section
variable {E w : World} {F : List HP}
set_option maxRecDepth 100000 in
theorem hMatches_law {t zs : List Int} {ts : List T258} {s sl : Sl} {K : Bool → World → Prop} (h : Hp E w F) (ht : t.length = 258) (hs : Tells F (SlT 1 s (zs.map vI))) (hsl : Tells F (SlT 258 sl (ts.flatMap gT))) (hK : ∀ w', Hp E w' F → K true w') :
    Cl Try.prog [kB] n_law06_HistogramMatches ⟨[.agg (aT t), .slice s.base s.len s.cap, .slice sl.base sl.len sl.cap]⟩ w K := by
  refine law06_HistogramMatches.ok _ _ _ _ _ ?_
  unfold law06_HistogramMatches.E
  simp only [Join_eq]
  rw [aT_zero]
  have hz : (aT (List.replicate 258 0)).size = 258 := by rw [aT_size]; exact List.length_replicate
  have hT : (aT t).size = 258 := by rw [aT_size, ht]
  have hl1 := (h.tells hs).1
  simp only [List.length_map, Nat.mul_one] at hl1
  have hl2 := SlT.len gT_len (by decide) (h.tells hsl)
  have hO := addO_len zs
  have hA := addD_len ht zs
  have hOs : (aT ((addT zero258 zs).getD zero258)).size = 258 := by rw [aT_size, hO]
  have hAs : (aT ((addT t zs).getD t)).size = 258 := by rw [aT_size, hA]
  have hul := usedT_len t
  refine Nw.mk h fun b5 w1 h1 => ?_
  refine IfB.mk (fun _ => wakes06_c h1 fun w2 h2 => hK w2 h2.drop) (fun g1 => ?_)
  refine IfB.mk (fun _ => wakes06_c h1 fun w2 h2 => hK w2 h2.drop) (fun g2 => ?_)
  have g1 := of_decide_eq_false g1
  have g2 := of_decide_eq_false g2
  have b1 : zs.length ≤ big := by rw [big_eq]; omega
  have b2 : ts.length ≤ big := by rw [big_eq]; omega
  refine hOf_c h1 (Tells.cons hs) b1 fun w2 h2 => Nw.mk h2 fun b16 w3 h3 => StA.blk h3 hz hOs aT_scalar fun w4 h4 => ?_
  refine rOf6_c h4 (Tells.cons (Tells.cons hs)) b1 fun w5 h5 => Nw.mk h5 fun b22 w6 h6 => StA.blk h6 hz hOs aT_scalar fun w7 h7 => ?_
  refine Ld.arr h7.p2 hT (hAdd_c h7 ht (Tells.cons (Tells.cons (Tells.cons hs))) b1 fun w8 h8 => Nw.mk h8 fun b29 w9 h9 => StA.blk h9 hz hAs aT_scalar fun w10 h10 => ?_)
  refine Ld.arr h10.p3 hT (rAdd6_c h10 ht (Tells.cons (Tells.cons (Tells.cons (Tells.cons hs)))) b1 fun w11 h11 => Nw.mk h11 fun b36 w12 h12 => StA.blk h12 hz hAs aT_scalar fun w13 h13 => ?_)
  refine ⟨HasF E _, HasF.mk h13.drew, ?_⟩
  have h14 := h13.drew (n := w13.drawn + 1)
  have l0 : ∀ {K : Array Value → Prop}, K (aT t) → LdS (.arr 258) ⟨b5, 0, none⟩ (HasF E (Blk b36 (.cells (aT ((addT t zs).getD t)) 23 (0, 0)) :: Blk b29 (.cells (aT ((addT t zs).getD t)) 23 (0, 0)) :: Blk b22 (.cells (aT ((addT zero258 zs).getD zero258)) 23 (0, 0)) :: Blk b16 (.cells (aT ((addT zero258 zs).getD zero258)) 23 (0, 0)) :: Blk b5 (.cells (aT t) 23 (0, 0)) :: F)) K :=
    fun hk => LdS.arrBlk (fun w h => h.mem (List.mem_cons_of_mem _ (List.mem_cons_of_mem _ (List.mem_cons_of_mem _ (List.mem_cons_of_mem _ (List.mem_cons_self ..)))))) hT hk
  refine LdS.arrBlk (fun w h => h.mem (List.mem_cons_of_mem _ (List.mem_cons_of_mem _ (List.mem_cons_of_mem _ (List.mem_cons_self ..))))) hOs (LdS.arrBlk (fun w h => h.mem (List.mem_cons_of_mem _ (List.mem_cons_of_mem _ (List.mem_cons_self ..)))) hOs (EqA.aT hO hO (IfB.f (by simp) (IfB.f (by simp) ?_))))
  refine LdS.arrBlk (fun w h => h.mem (List.mem_cons_of_mem _ (List.mem_cons_self ..))) hAs (LdS.arrBlk (fun w h => h.mem (List.mem_cons_self ..)) hAs (EqA.aT hA hA (IfB.f (by simp) (IfB.f (by simp) ?_))))
  refine l0 (l0 (hValid_c h14 ht fun w15 h15 => ⟨HasF.mk h15, rValid6_c h15 ht fun w16 h16 => ⟨HasF.mk h16, IfB.f (by simp) ?_⟩⟩))
  refine l0 (l0 (hSum_c h16 ht fun w17 h17 => ⟨HasF.mk h17, rSum6_c h17 ht fun w18 h18 => ⟨HasF.mk h18, IfB.f (by simp) ?_⟩⟩))
  refine ⟨HasF E _, HasF.mk h18.drew, ?_⟩
  have h19 := h18.drew (n := w18.drawn + 1)
  refine l0 (l0 (hUsed_c h19 ht fun s65 w20 h20 => ⟨HasF.mk1 h20, rUsed6_c h20 ht fun s67 w21 h21 => ⟨HasF.mk2 h21, ?_⟩⟩))
  refine ints02_c h21 (Tells.cons Tells.own) Tells.own (by rw [big_eq]; omega) fun w22 h22 => ⟨HasF.mk2 h22, IfB.t (by simp) ?_⟩
  have h22 := h22.drop.drop
  refine l0 (l0 (hRanks_c h22 ht fun s73 w23 h23 => ⟨HasF.mk1 h23, rRanks6_c h23 ht fun s75 w24 h24 => ⟨HasF.mk2 h24, ?_⟩⟩))
  refine ints02_c h24 (Tells.cons Tells.own) Tells.own (by rw [ranksT_len, big_eq]; omega) fun w25 h25 => ⟨HasF.mk2 h25, IfB.t (by simp) ?_⟩
  have h25 := h25.drop.drop
  have hsl' : Tells (Blk b36 (.cells (aT ((addT t zs).getD t)) 23 (0, 0)) :: Blk b29 (.cells (aT ((addT t zs).getD t)) 23 (0, 0)) :: Blk b22 (.cells (aT ((addT zero258 zs).getD zero258)) 23 (0, 0)) :: Blk b16 (.cells (aT ((addT zero258 zs).getD zero258)) 23 (0, 0)) :: Blk b5 (.cells (aT t) 23 (0, 0)) :: F) (SlT 258 sl (ts.flatMap gT)) := Tells.cons (Tells.cons (Tells.cons (Tells.cons (Tells.cons hsl))))
  refine hDiff_c h25 hsl' b2 fun w26 h26 => ⟨HasF.mk h26, rDiff6_c h26 hsl' b2 fun w27 h27 => ⟨HasF.mk h27, IfB.t (by simp) ?_⟩⟩
  exact wakes06_c h27 fun w28 h28 => ⟨HasF.mk h28, hK w28 h28.drop.drop.drop.drop.drop⟩
theorem ranks_at {t : List Int} {k : Nat} (hk : k < (ranksT t).length) : 0 ≤ (ranksT t).getD k 0 ∧ (ranksT t).getD k 0 < 258 ∧ 0 < t.getD ((ranksT t).getD k 0).toNat 0 := by
  have hm : (ranksT t).getD k 0 ∈ usedT t := by
    rw [List.getD, List.getElem?_eq_getElem hk]
    have hx := List.getElem_mem hk
    unfold ranksT at hx
    obtain ⟨p, hp, he⟩ := List.mem_map.1 hx
    rw [(sort2_perm _).mem_iff] at hp
    obtain ⟨z, hz, rfl⟩ := List.mem_map.1 hp
    have : (ranksT t)[k] = z := he.symm
    show (some (ranksT t)[k]).getD 0 ∈ _
    rw [this]; exact hz
  exact usedT_mem hm
theorem ranks_lt {t : List Int} {k : Nat} (hk : k + 1 < (ranksT t).length) : lt2 (t.getD ((ranksT t).getD k 0).toNat 0, (ranksT t).getD k 0) (t.getD ((ranksT t).getD (k + 1) 0).toNat 0, (ranksT t).getD (k + 1) 0) = true := by
  have hl : (ranksT t).length = (sort2 (pairsT t)).length := by unfold ranksT; rw [List.length_map]
  have key : ∀ j (hj : j < (sort2 (pairsT t)).length), (t.getD ((ranksT t).getD j 0).toNat 0, (ranksT t).getD j 0) = (sort2 (pairsT t))[j] := by
    intro j hj
    have hp := List.getElem_mem hj
    rw [(sort2_perm _).mem_iff] at hp
    obtain ⟨z, hz, e⟩ := List.mem_map.1 hp
    have e2 : (ranksT t).getD j 0 = (sort2 (pairsT t))[j].2 := by simp [ranksT, List.getD, hj]
    rw [e2, ← e]
  rw [key k (by omega), key (k + 1) (by omega)]
  exact List.pairwise_iff_getElem.1 (sort2_strict (pairs_nodup t)) k (k + 1) (by omega) (by omega) (by omega)
set_option maxRecDepth 100000 in
theorem hRanks_law {t : List Int} {K : Bool → World → Prop} (h : Hp E w F) (ht : t.length = 258) (hK : ∀ w', Hp E w' F → K true w') :
    Cl Try.prog [kB] n_law06_HistogramRanks ⟨[.agg (aT t)]⟩ w K := by
  refine law06_HistogramRanks.ok _ _ _ ?_
  unfold law06_HistogramRanks.E
  simp only [Join_eq]
  have hT : (aT t).size = 258 := by rw [aT_size, ht]
  refine Nw.mk h fun b3 w1 h1 => Ld.arr h1 hT (rValid6_c h1 ht fun w2 h2 => ?_)
  refine IfB.mk (fun hv => ?_) (fun hv => ?_)
  · have hv : validT t = false := by simpa using hv
    have hu : usedT t = [] := by simp [usedT, hv]
    have hr : ranksT t = [] := List.length_eq_zero_iff.1 (by rw [ranksT_len, hu]; rfl)
    refine Ld.arr h2 hT (hUsed_c h2 ht fun s9 w3 h3 => ?_)
    have hl := h3.ownLen
    rw [hu] at hl
    simp only [List.map_nil, List.length_nil, Nat.mul_one] at hl
    refine IfB.t (by rw [← hl]; rfl) (Ld.arr h3.p1 hT (hRanks_c h3 ht fun s12 w4 h4 => ?_))
    have hl := h4.ownLen
    rw [hr] at hl
    simp only [List.map_nil, List.length_nil, Nat.mul_one] at hl
    exact IfB.t (by rw [← hl]; rfl) (wakes06_c h4 fun w5 h5 => hK w5 h5.drop.drop.drop)
  have hv : validT t = true := by simpa using hv
  have hu : usedT t = zl (usedN t 258) := by unfold usedT; rw [if_pos hv]
  have hul := usedT_len t
  refine ⟨HasF E _, HasF.mk h2.drew, ?_⟩
  refine LdS.arrBlk (fun w h => h.front) hT (LdS.arrBlk (fun w h => h.front) hT ?_)
  refine hUsed_c (h2.drew (n := w2.drawn + 1)) ht fun s20 w3 h3 => ⟨HasF.mk1 h3, hRanks_c h3 ht fun s22 w4 h4 => ⟨HasF.mk2 h4, ?_⟩⟩
  have hl22 := h4.ownLen
  have hl20 := h4.drop.ownLen
  rw [List.length_map, Nat.mul_one, ranksT_len] at hl22
  rw [List.length_map, Nat.mul_one] at hl20
  refine IfB.f (by rw [bne_eq_false_iff_eq]; omega) ?_
  refine ⟨fun th i w' => ∃ k : Nat, i = (k : Int) ∧ k ≤ 258 ∧ th = ((usedN t k).length : Int) ∧ Hp E w' (OwnS 1 s22 ((ranksT t).map vI) :: OwnS 1 s20 ((usedT t).map vI) :: Blk b3 (.cells (aT t) 23 (0, 0)) :: F), fun _ i _ => 258 - i.toNat, ⟨0, rfl, by omega, rfl, h4⟩, ?_⟩
  rintro th i w5 ⟨k, rfl, hk, rfl, h5⟩
  have hmono : ∀ k, k ≤ 258 → (usedN t k).length ≤ (usedN t 258).length ∧ (usedN t 258).take (usedN t k).length = usedN t k := by
    intro k hk
    obtain ⟨d, hd⟩ : ∃ d, 258 = k + d := ⟨258 - k, by omega⟩
    have hsp : ∀ d, ∃ l, usedN t (k + d) = usedN t k ++ l := by
      intro d
      induction d with
      | zero => exact ⟨[], by simp⟩
      | succ d ih =>
        obtain ⟨l, hl⟩ := ih
        rw [← Nat.add_assoc, usedN_succ, hl]
        split
        · exact ⟨l ++ [k + d], by rw [List.append_assoc]⟩
        · exact ⟨l, rfl⟩
    obtain ⟨l, hl⟩ := hsp d
    rw [← hd] at hl
    rw [hl]
    exact ⟨by rw [List.length_append]; omega, List.take_left' rfl⟩
  have hle := usedN_le t k
  refine IfB.mk (fun hlt => ?_) (fun hge => ?_)
  · have hlt : k < 258 := by have := of_decide_eq_true hlt; omega
    refine IdxP.aT h5.p2 rfl ht hlt ?_
    have hsu := usedN_succ t k
    obtain ⟨hm1, hm2⟩ := hmono (k + 1) (by omega)
    refine IfB.mk (fun hp => ?_) (fun hp => ?_)
    · have hp := of_decide_eq_true hp
      rw [if_pos hp] at hsu
      have hl1 : (usedN t (k + 1)).length = (usedN t k).length + 1 := by rw [hsu, List.length_append]; rfl
      have hzl : (usedT t).length = (usedN t 258).length := by rw [hu, zl_len]
      refine IfB.f (by rw [decide_eq_false_iff_not]; omega) ?_
      refine Idx.nI (h5.tells (Tells.cons Tells.own)) rfl (by omega) ?_
      have hat : (usedT t).getD (usedN t k).length 0 = (k : Int) := by
        rw [hu]
        have e1 : (usedN t 258)[(usedN t k).length]? = some k := by
          have : ((usedN t 258).take (usedN t (k + 1)).length)[(usedN t k).length]? = some k := by rw [hm2, hsu]; simp
          rwa [List.getElem?_take_of_lt (by omega)] at this
        simp [zl, List.getD, e1]
      rw [hat]
      refine IfB.f (by simp) ⟨⟨k + 1, by rw [i64_id (by omega)]; omega, by omega, by rw [i64_id (by omega)]; omega, h5⟩, by dsimp only; rw [i64_id (x := (k : Int) + 1) (by omega)]; omega⟩
    · have hp := of_decide_eq_false hp
      rw [if_neg hp] at hsu
      exact ⟨⟨k + 1, by rw [i64_id (by omega)]; omega, by omega, by rw [hsu], h5⟩, by dsimp only; rw [i64_id (x := (k : Int) + 1) (by omega)]; omega⟩
  have hge : k = 258 := by have := of_decide_eq_false hge; omega
  subst hge
  have hrl := ranksT_len t
  refine ⟨fun i w' => ∃ k : Nat, i = (k : Int) ∧ k ≤ (ranksT t).length ∧ Hp E w' (OwnS 1 s22 ((ranksT t).map vI) :: OwnS 1 s20 ((usedT t).map vI) :: Blk b3 (.cells (aT t) 23 (0, 0)) :: F), fun i _ => (ranksT t).length - i.toNat, ⟨0, rfl, by omega, h5⟩, ?_⟩
  rintro i w6 ⟨k, rfl, hk2, h6⟩
  refine IfB.mk (fun hlt => ?_) (fun hge => ?_)
  · have hlt : k < (ranksT t).length := by have := of_decide_eq_true hlt; omega
    have hr := ranks_at hlt
    refine Idx.nI (h6.tells Tells.own) rfl hlt ?_
    refine IfB.f (decide_eq_false (by omega)) (IfB.f (decide_eq_false (by omega)) ?_)
    refine IdxP.aT h6.p2 (j := ((ranksT t).getD k 0).toNat) (by omega) ht (by omega) (IfB.f (decide_eq_false (by omega)) ?_)
    refine Drw.mk h6 fun w7 h7 => ?_
    have step : (∃ k' : Nat, i64 ((k : Int) + 1) = (k' : Int) ∧ k' ≤ (ranksT t).length ∧ Hp E w7 (OwnS 1 s22 ((ranksT t).map vI) :: OwnS 1 s20 ((usedT t).map vI) :: Blk b3 (.cells (aT t) 23 (0, 0)) :: F)) ∧ (ranksT t).length - (i64 ((k : Int) + 1)).toNat < (ranksT t).length - (k : Int).toNat :=
      ⟨⟨k + 1, by rw [i64_id (by omega)]; omega, by omega, h7⟩, by rw [i64_id (by omega)]; omega⟩
    refine IfB.mk (fun hp => ?_) (fun _ => step)
    have hp : 0 < k := by have := of_decide_eq_true hp; omega
    obtain ⟨j, rfl⟩ : ∃ j, k = j + 1 := ⟨k - 1, by omega⟩
    have hr' := ranks_at (t := t) (k := j) (by omega)
    have hlt2 := lt2_iff.1 (ranks_lt hlt)
    simp only at hlt2
    have e1 : i64 (((j + 1 : Nat) : Int) - 1) = (j : Int) := by rw [i64_id (by omega)]; omega
    rw [e1]
    have gk : ∀ {K : Int → Prop}, K (t.getD ((ranksT t).getD (j + 1) 0).toNat 0) → IdxP ⟨b3, 0, none⟩ 258 ((ranksT t).getD (j + 1) 0) 1 fun p => Ld kI p w7 K := fun hK => IdxP.aT h7.p2 (j := ((ranksT t).getD (j + 1) 0).toNat) (by omega) ht (by omega) hK
    have gj : ∀ {K : Int → Prop}, K (t.getD ((ranksT t).getD j 0).toNat 0) → IdxP ⟨b3, 0, none⟩ 258 ((ranksT t).getD j 0) 1 fun p => Ld kI p w7 K := fun hK => IdxP.aT h7.p2 (j := ((ranksT t).getD j 0).toNat) (by omega) ht (by omega) hK
    have rj : ∀ {K : Int → Prop}, K ((ranksT t).getD j 0) → Idx s22 (j : Int) 1 fun p => Ld kI p w7 K := fun hK => Idx.nI (h7.tells Tells.own) rfl (by omega) hK
    refine gk (rj (gj (IfB.f (decide_eq_false (by omega)) (gk (rj (gj (IfB.mk (fun he => ?_) (fun _ => step))))))))
    have he := beq_iff_eq.1 he
    exact rj (IfB.f (decide_eq_false (by omega)) step)
  · refine IfB.t (by rw [beq_iff_eq, ← hl20, hu, zl_len]) (wakes06_c h6 fun w7 h7 => hK w7 h7.drop.drop.drop)
end
end Go.Proofs.Ytbldlpljfppmgaa
