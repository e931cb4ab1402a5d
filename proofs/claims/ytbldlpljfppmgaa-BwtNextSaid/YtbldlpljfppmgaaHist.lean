/-
  Package histogram: contracts. Conditions: as each theorem states.
-/
import Derived.Test.YtbldlpljfppmgaaHistP
import Derived.Test.YtbldlpljfppmgaaRanks1
import Derived.Test.YtbldlpljfppmgaaMap
import Derived.Test.YtbldlpljfppmgaaShf
namespace Go.Proofs.Ytbldlpljfppmgaa
open Go Go.Vc Go.Hs
theorem ty_zs : ElemT Try.prog 24 3 1 8 := .of (by kernel_rfl) (by kernel_rfl)
theorem ty_rank : ElemT Try.prog 56 58 2 16 := .of (by kernel_rfl) (by kernel_rfl)
section
variable {E w : World} {F : List HP}
set_option maxRecDepth 20000 in
theorem hValid_c {t : List Int} {K : Bool → World → Prop} (h : Hp E w F) (ht : t.length = 258) (hK : ∀ w', Hp E w' F → K (validT t) w') : Cl Try.prog [kB] n_histogram_Valid ⟨[.agg (aT t)]⟩ w K := by
  refine histogram_Valid.ok _ _ _ ?_
  unfold histogram_Valid.E
  have hT : (aT t).size = 258 := by rw [aT_size, ht]
  refine Nw.mk h fun b3 w1 h1 => Ld.arr h1 hT ?_
  refine ⟨fun i w' => ∃ k : Nat, i = (k : Int) ∧ k ≤ 258 ∧ (∀ j, j < k → 0 ≤ t.getD j 0 ∧ t.getD j 0 ≤ 2147483647) ∧ Hp E w' F, fun i _ => 258 - i.toNat, ⟨0, rfl, by omega, fun j hj => by omega, h1.drop⟩, ?_⟩
  rintro i w2 ⟨k, rfl, hk, hg, hh⟩
  have bad : ∀ hlt : k < 258, ¬ (0 ≤ t.getD k 0 ∧ t.getD k 0 ≤ 2147483647) → K false w2 := fun hlt hb => by
    have := hK w2 hh
    rwa [validT_f (by omega) hb] at this
  refine IfB.mk (fun hlt => ?_) (fun hge => ?_)
  · have hlt : k < 258 := by have := of_decide_eq_true hlt; omega
    refine IdxV.aT rfl ht hlt ?_
    refine IfB.mk (fun h0 => bad hlt (by have := of_decide_eq_true h0; omega)) (fun h0 => IfB.mk (fun h9 => bad hlt (by have := of_decide_eq_true h9; omega)) (fun h9 => ?_))
    have h0 := of_decide_eq_false h0
    have h9 := of_decide_eq_false h9
    rw [i64_id (by omega)]
    refine ⟨⟨k + 1, by omega, by omega, fun j hj => ?_, hh⟩, by dsimp only; omega⟩
    by_cases e : j = k
    · subst e; omega
    · exact hg j (by omega)
  · have hge : k = 258 := by have := of_decide_eq_false hge; omega
    subst hge
    have := hK w2 hh
    rwa [validT_iff.2 fun i hi => hg i (by omega)] at this
theorem hIs_c {z : Int} {K : Bool → World → Prop} (hK : K (isS z) w) : Cl Try.prog [kB] n_histogram_is ⟨[.int .i64 z]⟩ w K := by
  refine histogram_is.ok _ _ _ ?_
  unfold histogram_is.E
  unfold isS at hK
  refine IfB.mk (fun h => ?_) (fun h => ?_)
  · rw [show decide (0 ≤ z) = true from decide_eq_true (of_decide_eq_true h)] at hK; exact hK
  · rw [show decide (0 ≤ z) = false from decide_eq_false (of_decide_eq_false h)] at hK; exact hK
set_option maxRecDepth 20000 in
theorem hAdd_c {t zs : List Int} {s : Sl} {K : Array Value → Int → World → Prop} (h : Hp E w F) (ht : t.length = 258) (hs : Tells F (SlT 1 s (zs.map vI))) (hn : zs.length ≤ big)
    (hK : ∀ w', Hp E w' F → K (aT ((addT t zs).getD t)) (erO (addT t zs)) w') : Cl Try.prog [.arr 258, kI] n_histogram_Add ⟨[.agg (aT t), .slice s.base s.len s.cap]⟩ w K := by
  refine histogram_Add.ok _ _ _ _ ?_
  unfold histogram_Add.E
  rw [aT_zero]
  have hz : (aT (List.replicate 258 0)).size = 258 := by rw [aT_size]; exact List.length_replicate
  have hT : ∀ {u : List Int}, u.length = 258 → (aT u).size = 258 := fun hu => by rw [aT_size, hu]
  have hsl := (h.tells hs).1
  simp only [List.length_map, Nat.mul_one] at hsl
  rw [big_eq] at hn
  have hKn : addT t zs = none → ∀ w', Hp E w' F → K (aT t) 2 w' := fun e w' h' => by have := hK w' h'; rwa [e] at this
  refine Nw.mk h fun b4 w1 h1 => Nw.mk h1 fun b6 w2 h2 => Ld.arr h2.p1 (hT ht) (hValid_c h2 ht fun w3 h3 => ?_)
  refine IfB.mk (fun hv => ?_) (fun hv => ?_)
  · have hv : validT t = false := by simpa using hv
    exact Ld.arr h3.p1 (hT ht) (StA.blk h3 hz (hT ht) aT_scalar fun w4 h4 => Ld.arr h4 (hT ht) (hKn (addT_invalid hv) w4 h4.drop.drop))
  have hv : validT t = true := by simpa using hv
  refine Ld.arr h3.p1 (hT ht) (Nw.mk h3 fun b15 w4 h4 => StA.blk h4 hz (hT ht) aT_scalar fun w5 h5 => ?_)
  refine ⟨fun i w' => ∃ k : Nat, i = (k : Int) ∧ k ≤ zs.length ∧ (zs.take k).all isS = true ∧ validT (cnt t (zs.take k)) = true ∧ Hp E w' (Blk b15 (.cells (aT t) 23 (0, 0)) :: Blk b6 (.cells (aT (List.replicate 258 0)) 23 (0, 0)) :: Blk b4 (.cells (aT (cnt t (zs.take k))) 23 (0, 0)) :: F), fun i _ => zs.length - i.toNat, ⟨0, rfl, by omega, rfl, hv, h5⟩, ?_⟩
  rintro i w6 ⟨k, rfl, hk, hg, hvk, hh⟩
  have bad : addT t zs = none → Ld (.arr 258) ⟨b15, 0, none⟩ w6 fun x30 => StA 258 ⟨b6, 0, none⟩ x30 w6 fun w31 => Ld (.arr 258) ⟨b6, 0, none⟩ w31 fun res => K res 2 w31 := fun e =>
    Ld.arr hh (hT ht) (StA.blk hh.p1 hz (hT ht) aT_scalar fun w7 h7 => Ld.arr h7 (hT ht) (hKn e w7 h7.drop.drop.drop))
  have hcl : (cnt t (zs.take k)).length = 258 := by rw [cnt_len, ht]
  refine IfB.mk (fun hlt => ?_) (fun hge => ?_)
  · have hlt : k < zs.length := by have := of_decide_eq_true hlt; omega
    refine Idx.nI (hh.tells (Tells.cons (Tells.cons (Tells.cons hs)))) rfl hlt (hIs_c ?_)
    refine IfB.mk (fun hb => bad (addT_bad hlt (by simpa using hb))) (fun hb => ?_)
    have hb : isS (zs.getD k 0) = true := by simpa using hb
    have hr := isS_iff.1 hb
    have hvz := validT_iff.1 hvk (zs.getD k 0).toNat (by omega)
    refine IdxP.aT hh.p2 (j := (zs.getD k 0).toNat) (by omega) hcl (by omega) ?_
    refine IfB.mk (fun hm => bad (addT_over ht hlt hg hb (by have := beq_iff_eq.1 hm; omega))) (fun hm => ?_)
    have hm : ¬ (cnt t (zs.take k)).getD (zs.getD k 0).toNat 0 = 2147483647 := beq_eq_false_iff_ne.1 hm
    refine IdxP.aT hh.p2 (j := (zs.getD k 0).toNat) (by omega) hcl (by omega) ?_
    rw [i64_id (x := (cnt t (zs.take k)).getD (zs.getD k 0).toNat 0 + 1) (by omega), i64_id (by omega)]
    refine IdxP.aTset hh.p2 (j := (zs.getD k 0).toNat) (by omega) hcl (by omega) fun w7 h7 => ⟨⟨k + 1, by omega, by omega, ?_, ?_, ?_⟩, by dsimp only; omega⟩
    · rw [take_snocD hlt, List.all_append, hg, List.all_cons, hb]; rfl
    · rw [take_snocD hlt, cnt_snoc]
      refine validT_iff.2 fun i hi => ?_
      have := validT_iff.1 hvk i (by rw [inc_len] at hi; exact hi)
      rw [inc_get hb hcl]
      split
      · rename_i e
        rw [e, Int.toNat_natCast] at hm hvz
        omega
      · omega
    · rw [take_snocD hlt, cnt_snoc]
      exact h7.q2
  · have hge : k = zs.length := by have := of_decide_eq_false hge; omega
    subst hge
    rw [List.take_length] at hg hvk hh hcl
    refine Ld.arr hh.p2 (hT hcl) (StA.blk hh.p1 hz (hT hcl) aT_scalar fun w7 h7 => Ld.arr h7 (hT hcl) ?_)
    have := hK w7 h7.drop.drop.drop
    rwa [addT_all hv hg hvk] at this
def zero258 : List Int := List.replicate 258 0
theorem zero258_len : zero258.length = 258 := List.length_replicate
theorem bld_zero {K : Array Value → Prop} (hK : K (aT zero258)) : Bld Try.prog 23 [] K := ⟨aT zero258, by kernel_rfl, hK⟩
set_option maxRecDepth 20000 in
theorem hOf_c {zs : List Int} {s : Sl} {K : Array Value → Int → World → Prop} (h : Hp E w F) (hs : Tells F (SlT 1 s (zs.map vI))) (hn : zs.length ≤ big)
    (hK : ∀ w', Hp E w' F → K (aT ((addT zero258 zs).getD zero258)) (erO (addT zero258 zs)) w') : Cl Try.prog [.arr 258, kI] n_histogram_Of ⟨[.slice s.base s.len s.cap]⟩ w K := by
  refine histogram_Of.ok _ _ _ ?_
  unfold histogram_Of.E
  rw [aT_zero]
  have hl : ((addT zero258 zs).getD zero258).length = 258 := by
    cases ha : addT zero258 zs with
    | none => exact zero258_len
    | some u =>
      obtain ⟨_, _, rfl, _⟩ := addT_some ha
      show (cnt zero258 zs).length = 258
      rw [cnt_len, zero258_len]
  refine Nw.mk h fun b3 w1 h1 => bld_zero (hAdd_c h1 zero258_len (Tells.cons hs) hn fun w2 h2 => StA.blk h2 (by rw [aT_size]; exact List.length_replicate) (by rw [aT_size, hl]) aT_scalar fun w3 h3 => Ld.arr h3 (by rw [aT_size, hl]) (hK w3 h3.drop))
set_option maxRecDepth 20000 in
theorem hSum_c {t : List Int} {K : Int → World → Prop} (h : Hp E w F) (ht : t.length = 258) (hK : ∀ w', Hp E w' F → K (sumT t) w') : Cl Try.prog [kI] n_histogram_Sum ⟨[.agg (aT t)]⟩ w K := by
  refine histogram_Sum.ok _ _ _ ?_
  unfold histogram_Sum.E
  have hT : (aT t).size = 258 := by rw [aT_size, ht]
  unfold sumT at hK
  refine Nw.mk h fun b3 w1 h1 => Ld.arr h1 hT (hValid_c h1 ht fun w2 h2 => ?_)
  refine IfB.mk (fun hv => ?_) (fun hv => ?_)
  · have hv : validT t = false := by simpa using hv
    have := hK w2 h2.drop
    rwa [hv] at this
  have hv : validT t = true := by simpa using hv
  rw [hv] at hK
  refine Ld.arr h2 hT ?_
  refine ⟨fun n i w' => ∃ k : Nat, i = (k : Int) ∧ k ≤ 258 ∧ n = sumTo t k ∧ Hp E w' F, fun _ i _ => 258 - i.toNat, ⟨0, rfl, by omega, rfl, h2.drop⟩, ?_⟩
  rintro n i w3 ⟨k, rfl, hk, rfl, hh⟩
  refine IfB.mk (fun hlt => ?_) (fun hge => ?_)
  · have hlt : k < 258 := by have := of_decide_eq_true hlt; omega
    refine IdxV.aT rfl ht hlt ?_
    have hr := sumTo_range hv (k + 1) (by omega)
    have hs := sumTo_succ (t := t) (k := k) (by omega)
    rw [← hs, i64_id (x := (k : Int) + 1) (by omega), i64_id (by omega)]
    exact ⟨⟨k + 1, by omega, by omega, rfl, hh⟩, by dsimp only; omega⟩
  · have hge : k = 258 := by have := of_decide_eq_false hge; omega
    subst hge
    have := hK w3 hh
    unfold sumTo
    rw [List.take_of_length_le (by omega)]
    exact this
set_option maxRecDepth 20000 in
theorem hUsed_c {t : List Int} {K : Sl → World → Prop} (h : Hp E w F) (ht : t.length = 258) (hK : ∀ s w', Hp E w' (OwnS 1 s ((usedT t).map vI) :: F) → K s w') : Cl Try.prog [kS] n_histogram_Used ⟨[.agg (aT t)]⟩ w K := by
  refine histogram_Used.ok _ _ _ ?_
  unfold histogram_Used.E
  have hT : (aT t).size = 258 := by rw [aT_size, ht]
  unfold usedT at hK
  refine Nw.mk h fun b3 w1 h1 => Ld.arr h1 hT (hValid_c h1 ht fun w2 h2 => ?_)
  refine IfB.mk (fun hv => ?_) (fun hv => ?_)
  · have hv : validT t = false := by simpa using hv
    have := hK ⟨none, 0, 0⟩ w2
    rw [hv] at this
    exact this (h2.drop.ownNil 1)
  have hv : validT t = true := by simpa using hv
  rw [hv] at hK
  refine Ld.arr h2 hT ?_
  refine ⟨fun o i w' => ∃ k : Nat, i = (k : Int) ∧ k ≤ 258 ∧ Hp E w' (OwnS 1 o ((zl (usedN t k)).map vI) :: F), fun _ i _ => 258 - i.toNat, ⟨0, rfl, by omega, h2.drop.ownNil 1⟩, ?_⟩
  rintro o i w3 ⟨k, rfl, hk, hh⟩
  refine IfB.mk (fun hlt => ?_) (fun hge => ?_)
  · have hlt : k < 258 := by have := of_decide_eq_true hlt; omega
    refine IdxV.aT rfl ht hlt ?_
    have hu := usedN_succ t k
    have hle := usedN_le t k
    refine IfB.mk (fun hp => ?_) (fun hp => ?_)
    · have hp := of_decide_eq_true hp
      rw [if_pos hp] at hu
      refine app_n ty_zs rfl hh (by rw [zl_len, big_eq]; omega) fun s' w4 h4 _ => ⟨⟨k + 1, by rw [i64_id (by omega)]; omega, by omega, ?_⟩, by dsimp only; rw [i64_id (by omega)]; omega⟩
      rw [hu, zl_app]
      exact h4
    · have hp := of_decide_eq_false hp
      rw [if_neg hp] at hu
      refine ⟨⟨k + 1, by rw [i64_id (by omega)]; omega, by omega, ?_⟩, by dsimp only; rw [i64_id (by omega)]; omega⟩
      rw [hu]
      exact hh
  · have hge : k = 258 := by have := of_decide_eq_false hge; omega
    subst hge
    exact hK o w3 hh
end
end Go.Proofs.Ytbldlpljfppmgaa
