/-
  winepressref06: contracts. Conditions: as each theorem states.
-/
import Derived.Test.YtbldlpljfppmgaaHist2
import Derived.Test.YtbldlpljfppmgaaFref06
import Derived.Test.YtbldlpljfppmgaaMk
namespace Go.Vc
open Go
theorem fi_len {α : Type} [DecidableEq α] (l : List α) (t : α) : (Hs.fi l t).length = if t ∈ l then l.length else l.length + 1 := by
  unfold Hs.fi
  split <;> simp
end Go.Vc
namespace Go.Proofs.Ytbldlpljfppmgaa
open Go Go.Vc Go.Hs
section
variable {E w : World} {F : List HP}
theorem infoI : ∃ i, Try.prog.info? 3 = some i ∧ i.zero = some (.int .i64 0) ∧ i.size = 1 ∧ i.bytes = 8 := by
  have h : (Try.prog.info? 3).map (fun i => (i.zero, i.size, i.bytes)) = some (some (.int .i64 0), 1, 8) := by kernel_rfl
  obtain ⟨i, h1, h2⟩ := Option.map_eq_some_iff.1 h
  simp only [Prod.mk.injEq] at h2
  exact ⟨i, h1, h2⟩
set_option maxRecDepth 20000 in
theorem rValid6_c {t : List Int} {K : Bool → World → Prop} (h : Hp E w F) (ht : t.length = 258) (hK : ∀ w', Hp E w' F → K (validT t) w') : Cl Try.prog [kB] n_ref06_Valid ⟨[.agg (aT t)]⟩ w K := by
  refine ref06_Valid.ok _ _ _ ?_
  unfold ref06_Valid.E
  refine Nw.mk h fun b3 w1 h1 => ?_
  refine ⟨fun i w' => ∃ k : Nat, i = (k : Int) ∧ k ≤ 258 ∧ (∀ j, j < k → 0 ≤ t.getD j 0 ∧ t.getD j 0 ≤ 2147483647) ∧ Hp E w' (Blk b3 (.cells (aT t) 23 (0, 0)) :: F), fun i _ => 258 - i.toNat, ⟨0, rfl, by omega, fun j hj => by omega, h1⟩, ?_⟩
  rintro i w2 ⟨k, rfl, hk, hg, hh⟩
  have bad : ∀ hlt : k < 258, ¬ (0 ≤ t.getD k 0 ∧ t.getD k 0 ≤ 2147483647) → K false w2 := fun hlt hb => by
    have := hK w2 hh.drop
    rwa [validT_f (by omega) hb] at this
  refine IfB.mk (fun hlt => ?_) (fun hge => ?_)
  · have hlt : k < 258 := by have := of_decide_eq_true hlt; omega
    refine IdxP.aT hh rfl ht hlt (IfB.mk (fun h0 => bad hlt (by have := of_decide_eq_true h0; omega)) (fun h0 => ?_))
    refine IdxP.aT hh rfl ht hlt (IfB.mk (fun h9 => bad hlt (by have := of_decide_eq_true h9; omega)) (fun h9 => ?_))
    have h0 := of_decide_eq_false h0
    have h9 := of_decide_eq_false h9
    rw [i64_id (by omega)]
    refine ⟨⟨k + 1, by omega, by omega, fun j hj => ?_, hh⟩, by dsimp only; omega⟩
    by_cases e : j = k
    · subst e; omega
    · exact hg j (by omega)
  · have hge : k = 258 := by have := of_decide_eq_false hge; omega
    subst hge
    have := hK w2 hh.drop
    rwa [validT_iff.2 fun i hi => hg i (by omega)] at this
set_option maxRecDepth 20000 in
theorem rAdd6_c {t zs : List Int} {s : Sl} {K : Array Value → Int → World → Prop} (h : Hp E w F) (ht : t.length = 258) (hs : Tells F (SlT 1 s (zs.map vI))) (hn : zs.length ≤ big)
    (hK : ∀ w', Hp E w' F → K (aT ((addT t zs).getD t)) (erO (addT t zs)) w') : Cl Try.prog [.arr 258, kI] n_ref06_Add ⟨[.agg (aT t), .slice s.base s.len s.cap]⟩ w K := by
  refine ref06_Add.ok _ _ _ _ ?_
  unfold ref06_Add.E
  rw [aT_zero]
  have hz : (aT (List.replicate 258 0)).size = 258 := by rw [aT_size]; exact List.length_replicate
  have hT : ∀ {u : List Int}, u.length = 258 → (aT u).size = 258 := fun hu => by rw [aT_size, hu]
  have hsl := (h.tells hs).1
  simp only [List.length_map, Nat.mul_one] at hsl
  rw [big_eq] at hn
  have hKn : addT t zs = none → ∀ w', Hp E w' F → K (aT t) 2 w' := fun e w' h' => by have := hK w' h'; rwa [e] at this
  refine Nw.mk h fun b4 w1 h1 => Nw.mk h1 fun b6 w2 h2 => Ld.arr h2.p1 (hT ht) (rValid6_c h2 ht fun w3 h3 => ?_)
  refine IfB.mk (fun hv => ?_) (fun hv => ?_)
  · have hv : validT t = false := by simpa using hv
    exact Ld.arr h3.p1 (hT ht) (StA.blk h3 hz (hT ht) aT_scalar fun w4 h4 => Ld.arr h4 (hT ht) (hKn (addT_invalid hv) w4 h4.drop.drop))
  have hv : validT t = true := by simpa using hv
  refine Ld.arr h3.p1 (hT ht) (Nw.mk h3 fun b15 w4 h4 => StA.blk h4 hz (hT ht) aT_scalar fun w5 h5 => ?_)
  refine ⟨fun i w' => ∃ k : Nat, i = (k : Int) ∧ k ≤ zs.length ∧ (zs.take k).all isS = true ∧ Hp E w' (Blk b15 (.cells (aT (cnt t (zs.take k))) 23 (0, 0)) :: Blk b6 (.cells (aT (List.replicate 258 0)) 23 (0, 0)) :: Blk b4 (.cells (aT t) 23 (0, 0)) :: F), fun i _ => zs.length - i.toNat, ⟨0, rfl, by omega, rfl, h5⟩, ?_⟩
  rintro i w6 ⟨k, rfl, hk, hg, hh⟩
  have bad : addT t zs = none → Ld (.arr 258) ⟨b4, 0, none⟩ w6 fun x30 => StA 258 ⟨b6, 0, none⟩ x30 w6 fun w31 => Ld (.arr 258) ⟨b6, 0, none⟩ w31 fun res => K res 2 w31 := fun e =>
    Ld.arr hh.p2 (hT ht) (StA.blk hh.p1 hz (hT ht) aT_scalar fun w7 h7 => Ld.arr h7 (hT ht) (hKn e w7 h7.drop.drop.drop))
  have hcl : (cnt t (zs.take k)).length = 258 := by rw [cnt_len, ht]
  have hSl : Tells (Blk b15 (.cells (aT (cnt t (zs.take k))) 23 (0, 0)) :: Blk b6 (.cells (aT (List.replicate 258 0)) 23 (0, 0)) :: Blk b4 (.cells (aT t) 23 (0, 0)) :: F) (SlT 1 s (zs.map vI)) := Tells.cons (Tells.cons (Tells.cons hs))
  refine IfB.mk (fun hlt => ?_) (fun hge => ?_)
  · have hlt : k < zs.length := by have := of_decide_eq_true hlt; omega
    refine Idx.nI (hh.tells hSl) rfl hlt (IfB.mk (fun hb => bad (addT_bad hlt ?_)) (fun h0 => ?_))
    · have := of_decide_eq_true hb
      rw [Bool.eq_false_iff, ne_eq, isS_iff]; omega
    refine Idx.nI (hh.tells hSl) rfl hlt (IfB.mk (fun hb => bad (addT_bad hlt ?_)) (fun h1 => ?_))
    · have := of_decide_eq_true hb
      rw [Bool.eq_false_iff, ne_eq, isS_iff]; omega
    have h0 := of_decide_eq_false h0
    have h1 := of_decide_eq_false h1
    have hb : isS (zs.getD k 0) = true := isS_iff.2 (by omega)
    have hvz := validT_iff.1 hv (zs.getD k 0).toNat (by omega)
    have hc := cnt_get hg ht (zs.getD k 0).toNat
    have hcc := List.count_le_length (a := (((zs.getD k 0).toNat : Nat) : Int)) (l := zs.take k)
    rw [List.length_take] at hcc
    refine Idx.nI (hh.tells hSl) rfl hlt (IdxP.aT hh (j := (zs.getD k 0).toNat) (by omega) hcl (by omega) ?_)
    rw [i64_id (x := (cnt t (zs.take k)).getD (zs.getD k 0).toNat 0 + 1) (by omega), i64_id (by omega)]
    refine IdxP.aTset hh (j := (zs.getD k 0).toNat) (by omega) hcl (by omega) fun w7 h7 => ⟨⟨k + 1, by omega, by omega, ?_, ?_⟩, by dsimp only; omega⟩
    · rw [take_snocD hlt, List.all_append, hg, List.all_cons, hb]; rfl
    · rw [take_snocD hlt, cnt_snoc]
      exact h7
  · have hge : k = zs.length := by have := of_decide_eq_false hge; omega
    subst hge
    rw [List.take_length] at hg hh hcl
    refine Ld.arr hh (hT hcl) (rValid6_c hh hcl fun w7 h7 => IfB.mk (fun hb => ?_) (fun hb => ?_))
    · have hb : validT (cnt t zs) = false := by simpa using hb
      exact Ld.arr h7.p2 (hT ht) (StA.blk h7.p1 hz (hT ht) aT_scalar fun w8 h8 => Ld.arr h8 (hT ht) (hKn (addT_big hb) w8 h8.drop.drop.drop))
    · have hb : validT (cnt t zs) = true := by simpa using hb
      refine Ld.arr h7 (hT hcl) (StA.blk h7.p1 hz (hT hcl) aT_scalar fun w8 h8 => Ld.arr h8 (hT hcl) ?_)
      have := hK w8 h8.drop.drop.drop
      rwa [addT_all hv hg hb] at this
theorem addO_len (zs : List Int) : ((addT zero258 zs).getD zero258).length = 258 := by
  cases ha : addT zero258 zs with
  | none => exact zero258_len
  | some u =>
    obtain ⟨_, _, rfl, _⟩ := addT_some ha
    show (cnt zero258 zs).length = 258
    rw [cnt_len, zero258_len]
theorem addD_len {t : List Int} (ht : t.length = 258) (zs : List Int) : ((addT t zs).getD t).length = 258 := by
  cases ha : addT t zs with
  | none => exact ht
  | some u =>
    obtain ⟨_, _, rfl, _⟩ := addT_some ha
    show (cnt t zs).length = 258
    rw [cnt_len, ht]
set_option maxRecDepth 20000 in
theorem rOf6_c {zs : List Int} {s : Sl} {K : Array Value → Int → World → Prop} (h : Hp E w F) (hs : Tells F (SlT 1 s (zs.map vI))) (hn : zs.length ≤ big)
    (hK : ∀ w', Hp E w' F → K (aT ((addT zero258 zs).getD zero258)) (erO (addT zero258 zs)) w') : Cl Try.prog [.arr 258, kI] n_ref06_Of ⟨[.slice s.base s.len s.cap]⟩ w K := by
  refine ref06_Of.ok _ _ _ ?_
  unfold ref06_Of.E
  rw [aT_zero]
  have hl := addO_len zs
  refine Nw.mk h fun b3 w1 h1 => bld_zero (rAdd6_c h1 zero258_len (Tells.cons hs) hn fun w2 h2 => StA.blk h2 (by rw [aT_size]; exact List.length_replicate) (by rw [aT_size, hl]) aT_scalar fun w3 h3 => Ld.arr h3 (by rw [aT_size, hl]) (hK w3 h3.drop))
set_option maxRecDepth 20000 in
theorem rSum6_c {t : List Int} {K : Int → World → Prop} (h : Hp E w F) (ht : t.length = 258) (hK : ∀ w', Hp E w' F → K (sumT t) w') : Cl Try.prog [kI] n_ref06_Sum ⟨[.agg (aT t)]⟩ w K := by
  refine ref06_Sum.ok _ _ _ ?_
  unfold ref06_Sum.E
  have hT : (aT t).size = 258 := by rw [aT_size, ht]
  unfold sumT at hK
  refine Nw.mk h fun b3 w1 h1 => ?_
  refine ⟨fun n i w' => ∃ k : Nat, i = (k : Int) ∧ k ≤ 258 ∧ n = sumTo t k ∧ (0 < k → validT t = true) ∧ Hp E w' (Blk b3 (.cells (aT t) 23 (0, 0)) :: F), fun _ i _ => 258 - i.toNat, ⟨0, rfl, by omega, rfl, by omega, h1⟩, ?_⟩
  rintro n i w3 ⟨k, rfl, hk, rfl, hv0, hh⟩
  refine IfB.mk (fun hlt => ?_) (fun hge => ?_)
  · have hlt : k < 258 := by have := of_decide_eq_true hlt; omega
    refine Ld.arr hh hT (rValid6_c hh ht fun w4 h4 => IfB.mk (fun hv => ?_) (fun hv => ?_))
    · refine IdxP.aT h4 rfl ht hlt ?_
      have hr := sumTo_range hv (k + 1) (by omega)
      have hs := sumTo_succ (t := t) (k := k) (by omega)
      rw [← hs, i64_id (x := (k : Int) + 1) (by omega), i64_id (by omega)]
      exact ⟨⟨k + 1, by omega, by omega, rfl, fun _ => hv, h4⟩, by dsimp only; omega⟩
    · have hk0 : k = 0 := by
        rcases Nat.eq_zero_or_pos k with h0 | h0
        · exact h0
        · rw [hv0 h0] at hv; cases hv
      subst hk0
      have := hK w4 h4.drop
      rw [hv] at this
      exact this
  · have hge : k = 258 := by have := of_decide_eq_false hge; omega
    subst hge
    have := hK w3 hh.drop
    rw [hv0 (by omega)] at this
    unfold sumTo
    rw [List.take_of_length_le (by omega)]
    exact this
set_option maxRecDepth 20000 in
theorem rUsed6_c {t : List Int} {K : Sl → World → Prop} (h : Hp E w F) (ht : t.length = 258) (hK : ∀ s w', Hp E w' (OwnS 1 s ((usedT t).map vI) :: F) → K s w') : Cl Try.prog [kS] n_ref06_Used ⟨[.agg (aT t)]⟩ w K := by
  refine ref06_Used.ok _ _ _ ?_
  unfold ref06_Used.E
  have hT : (aT t).size = 258 := by rw [aT_size, ht]
  unfold usedT at hK
  refine Nw.mk h fun b3 w1 h1 => ?_
  refine ⟨fun o i w' => ∃ k : Nat, i = (k : Int) ∧ k ≤ 258 ∧ (0 < k → validT t = true) ∧ Hp E w' (OwnS 1 o ((zl (usedN t k)).map vI) :: Blk b3 (.cells (aT t) 23 (0, 0)) :: F), fun _ i _ => 258 - i.toNat, ⟨0, rfl, by omega, by omega, h1.ownNil 1⟩, ?_⟩
  rintro o i w3 ⟨k, rfl, hk, hv0, hh⟩
  refine IfB.mk (fun hlt => ?_) (fun hge => ?_)
  · have hlt : k < 258 := by have := of_decide_eq_true hlt; omega
    refine Ld.arr hh.p1 hT (rValid6_c hh ht fun w4 h4 => IfB.mk (fun hv => ?_) (fun hv => ?_))
    · refine IdxP.aT h4.p1 rfl ht hlt ?_
      have hu := usedN_succ t k
      have hle := usedN_le t k
      refine IfB.mk (fun hp => ?_) (fun hp => ?_)
      · have hp := of_decide_eq_true hp
        rw [if_pos hp] at hu
        refine app_n ty_zs rfl h4 (by rw [zl_len, big_eq]; omega) fun s' w5 h5 _ => ⟨⟨k + 1, by rw [i64_id (by omega)]; omega, by omega, fun _ => hv, ?_⟩, by dsimp only; rw [i64_id (by omega)]; omega⟩
        rw [hu, zl_app]
        exact h5
      · have hp := of_decide_eq_false hp
        rw [if_neg hp] at hu
        refine ⟨⟨k + 1, by rw [i64_id (by omega)]; omega, by omega, fun _ => hv, ?_⟩, by dsimp only; rw [i64_id (by omega)]; omega⟩
        rw [hu]
        exact h4
    · have hk0 : k = 0 := by
        rcases Nat.eq_zero_or_pos k with h0 | h0
        · exact h0
        · rw [hv0 h0] at hv; cases hv
      subst hk0
      have := hK o w4
      rw [hv] at this
      exact this h4.p1.drop
  · have hge : k = 258 := by have := of_decide_eq_false hge; omega
    subst hge
    have := hK o w3
    rw [hv0 (by omega)] at this
    exact this hh.p1.drop
/-- how many symbols stand ahead of one -/
def aheadN (t : List Int) (u : List Int) (x : Int) (k : Nat) : Nat := (u.take k).countP fun y => lt2 (t.getD y.toNat 0, y) (t.getD x.toNat 0, x)
theorem aheadN_succ {t u : List Int} {x : Int} {k : Nat} (hk : k < u.length) : aheadN t u x (k + 1) = aheadN t u x k + if lt2 (t.getD (u.getD k 0).toNat 0, u.getD k 0) (t.getD x.toNat 0, x) then 1 else 0 := by
  unfold aheadN
  rw [take_snocD hk, List.countP_append, List.countP_cons, List.countP_nil]
  omega
/-- what stands at its place so far: the symbols with numbers below n -/
def placed (t : List Int) (n : Nat) (out : List Int) : Prop := out.length = (usedT t).length ∧ ∀ i, i < n → out.getD (aheadN t (usedT t) ((usedT t).getD i 0) (usedT t).length) 0 = (usedT t).getD i 0
theorem ahead_pairs (t : List Int) (x : Int) : aheadN t (usedT t) x (usedT t).length = (pairsT t).countP fun y => lt2 y (t.getD x.toNat 0, x) := by
  unfold aheadN pairsT
  rw [List.take_length, List.countP_map]; rfl
theorem ahead_at {t : List Int} {i : Nat} (hi : i < (usedT t).length) : ∃ hj : aheadN t (usedT t) ((usedT t).getD i 0) (usedT t).length < (sort2 (pairsT t)).length, (sort2 (pairsT t))[aheadN t (usedT t) ((usedT t).getD i 0) (usedT t).length] = (t.getD ((usedT t).getD i 0).toNat 0, (usedT t).getD i 0) := by
  have hx : (t.getD ((usedT t).getD i 0).toNat 0, (usedT t).getD i 0) ∈ sort2 (pairsT t) := by
    rw [(sort2_perm _).mem_iff]
    unfold pairsT
    refine List.mem_map.2 ⟨(usedT t).getD i 0, ?_, rfl⟩
    rw [List.getD, List.getElem?_eq_getElem hi]
    exact List.getElem_mem hi
  have h := rank_of (sort2_strict (pairs_nodup t)) hx
  have e := ahead_pairs t ((usedT t).getD i 0)
  rw [(sort2_perm (pairsT t)).countP_eq] at h
  rw [← e] at h
  exact h
theorem ahead_inj {t : List Int} {i j : Nat} (hi : i < (usedT t).length) (hj : j < (usedT t).length) (h : aheadN t (usedT t) ((usedT t).getD i 0) (usedT t).length = aheadN t (usedT t) ((usedT t).getD j 0) (usedT t).length) : (usedT t).getD i 0 = (usedT t).getD j 0 := by
  obtain ⟨h1, h2⟩ := ahead_at hi
  obtain ⟨h3, h4⟩ := ahead_at hj
  have : (sort2 (pairsT t))[aheadN t (usedT t) ((usedT t).getD i 0) (usedT t).length] = (sort2 (pairsT t))[aheadN t (usedT t) ((usedT t).getD j 0) (usedT t).length] := by simp only [h]
  rw [h2, h4] at this
  exact (Prod.ext_iff.1 this).2
theorem placed_all {t out : List Int} (h : placed t (usedT t).length out) : out = ranksT t := by
  have hsl := sort2_len (pairsT t)
  rw [pairs_len] at hsl
  apply List.ext_getElem
  · rw [h.1]; unfold ranksT; rw [List.length_map, hsl]
  intro r h1 h2
  have hr : r < (sort2 (pairsT t)).length := by rw [hsl, ← h.1]; exact h1
  have hx := List.getElem_mem hr
  rw [(sort2_perm _).mem_iff] at hx
  obtain ⟨z, hz, hzr⟩ := List.mem_map.1 hx
  obtain ⟨i, hi, rfl⟩ := List.getElem_of_mem hz
  have e0 : (usedT t).getD i 0 = (usedT t)[i] := by simp [List.getD, hi]
  have hp := h.2 i hi
  obtain ⟨h3, h4⟩ := ahead_at hi
  have hrank := rank_at (sort2_strict (pairs_nodup t)) r hr
  rw [← hzr, (sort2_perm (pairsT t)).countP_eq] at hrank
  have hr2 : aheadN t (usedT t) ((usedT t).getD i 0) (usedT t).length = r := by
    rw [ahead_pairs, e0]
    exact hrank
  rw [hr2, e0] at hp
  have : out[r] = (usedT t)[i] := by
    rw [← hp]; simp [List.getD, h1]
  rw [this]
  have e9 : (ranksT t)[r] = (sort2 (pairsT t))[r].2 := by simp [ranksT]
  rw [e9, ← hzr]
end
end Go.Proofs.Ytbldlpljfppmgaa
