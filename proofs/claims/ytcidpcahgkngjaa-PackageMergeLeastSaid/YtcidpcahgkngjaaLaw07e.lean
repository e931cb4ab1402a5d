/-
  What the law PackageMergeLeast answers. Conditions: as each theorem states.
-/
import Derived.Test.YtcidpcahgkngjaaLaw07d
namespace Go.Srt
open Go.Pm
/-- the tally of a few counts -/
def fewU (us : List Nat) : List Nat := (List.range 258).map fun s => if s % 51 = 0 then us.getD (s / 51) 0 else 0
theorem fewU_len (us : List Nat) : (fewU us).length = 258 := by simp [fewU]
theorem fewU_el (vs : List Nat) (s : Nat) (h : s < (fewU vs).length) : (fewU vs)[s] = if s % 51 = 0 then vs.getD (s / 51) 0 else 0 := by simp [fewU]
theorem getD_snoc (us : List Nat) (c j : Nat) : (us ++ [c]).getD j 0 = if j = us.length then c else us.getD j 0 := by
  rw [List.getD_eq_getElem?_getD, List.getD_eq_getElem?_getD]
  rcases Nat.lt_trichotomy j us.length with h | h | h
  · rw [List.getElem?_append_left h, if_neg (by omega)]
  · subst h; rw [List.getElem?_append_right (Nat.le_refl _), if_pos rfl]; simp
  · rw [List.getElem?_append_right (by omega), if_neg (by omega), List.getElem?_eq_none (by simp; omega), List.getElem?_eq_none (by omega)]
theorem fewU_set (us : List Nat) (c : Nat) (hk : us.length < 5) : (fewU us).set (51 * us.length) c = fewU (us ++ [c]) := by
  refine List.ext_getElem (by simp [fewU]) fun s h1 h2 => ?_
  rw [List.getElem_set, fewU_el (us ++ [c])]
  by_cases e : 51 * us.length = s
  · rw [if_pos e, if_pos (by omega), getD_snoc, if_pos (by omega)]
  · rw [if_neg e, fewU_el us]
    by_cases h : s % 51 = 0
    · rw [if_pos h, if_pos h, getD_snoc, if_neg (by omega)]
    · rw [if_neg h, if_neg h]
theorem fewU_get (us : List Nat) {i : Nat} (hi : i < 5) : (fewU us).getD (51 * i) 0 = us.getD i 0 := by
  unfold fewU
  rw [List.getD_eq_getElem?_getD, List.getElem?_map, List.getElem?_range (by omega)]
  simp only [Option.map_some, Option.getD_some]
  rw [if_pos (by omega), show 51 * i / 51 = i by omega]
theorem fewU_filter : ∀ (k : Nat) (us : List Nat), us.length = k → k ≤ 5 → ((fewU us).filter fun x => decide (0 < x)).Perm (us.filter fun x => decide (0 < x))
  | 0, us, h, _ => by
    have : us = [] := List.length_eq_zero_iff.1 h
    subst this
    rw [List.filter_eq_nil_iff.2 fun x hx => by
      obtain ⟨s, _, rfl⟩ := List.mem_map.1 hx
      simp]
    exact .refl _
  | k + 1, us, h, hk => by
    obtain ⟨vs, c, rfl⟩ : ∃ vs c, us = vs ++ [c] := ⟨us.dropLast, us.getLast (by intro e; rw [e] at h; simp at h), (List.dropLast_concat_getLast _).symm⟩
    have hv : vs.length = k := by simpa using h
    have ih := fewU_filter k vs hv (by omega)
    have hl : 51 * vs.length < (fewU vs).length := by rw [fewU_len]; omega
    have h0 : (fewU vs)[51 * vs.length] = 0 := by
      have := fewU_get vs (i := vs.length) (by omega)
      rw [List.getD_eq_getElem?_getD, List.getElem?_eq_getElem hl, Option.getD_some] at this
      rw [this, List.getD_eq_getElem?_getD, List.getElem?_eq_none (Nat.le_refl _)]; rfl
    rw [← fewU_set vs c (by omega), List.filter_append]
    by_cases hc : 0 < c
    · refine (filter_set hl h0 hc).trans ((ih.cons c).trans ?_)
      rw [List.filter_cons_of_pos (by simpa using hc)]
      exact (List.perm_append_singleton c _).symm
    · have : c = 0 := by omega
      subst this
      have e : (fewU vs).set (51 * vs.length) 0 = fewU vs := by
        conv => lhs; rw [← h0]
        exact List.set_getElem_self hl
      rw [e, List.filter_cons_of_neg (by simp), List.filter_nil, List.append_nil]
      exact ih
/-- the lengths of trial x, of the first j counts -/
def zx (us : List Nat) (x L : Nat) : Nat → List (Nat × Nat)
  | 0 => []
  | j + 1 => zx us x L j ++ if 0 < us.getD j 0 then [(us.getD j 0, 1 + x / L ^ j % L)] else []
theorem zx_fst (us : List Nat) (x L : Nat) : ∀ j, (zx us x L j).map (·.1) = ((List.range j).map fun i => us.getD i 0).filter fun x => decide (0 < x)
  | 0 => rfl
  | j + 1 => by
    rw [zx, List.map_append, zx_fst us x L j, List.range_succ, List.map_append, List.filter_append]
    congr 1
    by_cases h : 0 < us.getD j 0
    · rw [if_pos h]; simp only [List.map_cons, List.map_nil]; rw [List.filter_cons_of_pos (by simpa using h)]; rfl
    · rw [if_neg h]; simp only [List.map_cons, List.map_nil]; rw [List.filter_cons_of_neg (by simpa using h)]; rfl
theorem pad_filter {us : List Nat} {j : Nat} (h : us.length ≤ j) : (((List.range j).map fun i => us.getD i 0).filter fun x => decide (0 < x)) = us.filter fun x => decide (0 < x) := by
  have e : ((List.range j).map fun i => us.getD i 0) = us ++ List.replicate (j - us.length) 0 := by
    refine List.ext_getElem (by simp; omega) fun i h1 h2 => ?_
    simp only [List.getElem_map, List.getElem_range]
    rcases Nat.lt_or_ge i us.length with hi | hi
    · rw [List.getElem_append_left hi, List.getD_eq_getElem?_getD, List.getElem?_eq_getElem hi]; rfl
    · rw [List.getElem_append_right hi, List.getD_eq_getElem?_getD, List.getElem?_eq_none hi]; simp
  have e0 : (List.replicate (j - us.length) 0).filter (fun x => decide (0 < x)) = [] := List.filter_eq_nil_iff.2 fun x hx => by
    have := List.eq_of_mem_replicate hx
    simp [this]
  rw [e, List.filter_append, e0, List.append_nil]
theorem costZ_app (z z' : List (Nat × Nat)) : costZ (z ++ z') = costZ z + costZ z' := by simp [costZ]
theorem kraftZ_app (L : Nat) (z z' : List (Nat × Nat)) : kraftZ L (z ++ z') = kraftZ L z + kraftZ L z' := by simp [kraftZ]
theorem zx_in (us : List Nat) (x : Nat) {L : Nat} (hL : 1 ≤ L) : ∀ j, ∀ p ∈ zx us x L j, 1 ≤ p.2 ∧ p.2 ≤ L
  | 0, p, h => by simp [zx] at h
  | j + 1, p, h => by
    rcases List.mem_append.1 h with h | h
    · exact zx_in us x hL j p h
    · split at h
      · have : p = (us.getD j 0, 1 + x / L ^ j % L) := by simpa using h
        subst this
        have := Nat.mod_lt (x / L ^ j) hL
        simp only; omega
      · simp at h
theorem zx_small (us : List Nat) (hu : MaxT us) (x : Nat) {L : Nat} (hL : 1 ≤ L) (hL5 : L ≤ 5) : ∀ j, costZ (zx us x L j) ≤ 10737418235 * j ∧ kraftZ L (zx us x L j) ≤ 32 * j
  | 0 => by simp [zx, costZ, kraftZ]
  | j + 1 => by
    obtain ⟨h1, h2⟩ := zx_small us hu x hL hL5 j
    rw [zx, costZ_app, kraftZ_app]
    split
    · have hm := Nat.mod_lt (x / L ^ j) hL
      have hu' := getD_max hu j
      have e1 : costZ [(us.getD j 0, 1 + x / L ^ j % L)] = (1 + x / L ^ j % L) * us.getD j 0 := by simp [costZ]
      have e2 : kraftZ L [(us.getD j 0, 1 + x / L ^ j % L)] = 2 ^ (L - (1 + x / L ^ j % L)) := by simp [kraftZ]
      have e3 : (1 + x / L ^ j % L) * us.getD j 0 ≤ 5 * 2147483647 := Nat.mul_le_mul (by omega) hu'
      have e4 : 2 ^ (L - (1 + x / L ^ j % L)) ≤ 2 ^ 5 := Nat.pow_le_pow_right (by decide) (by omega)
      rw [e1, e2]; omega
    · simp only [costZ, kraftZ, List.map_nil, List.sum_nil] at *; omega
end Go.Srt
namespace Go.Proofs.Ytcidpcahgkngjaa
open Go Go.Vc Go.Srt Go.Pm
section
variable {E w : World} {F : List HP}
theorem fin64_c {b b2 : Nat} {t t2 : TypeId} {l l2 : List Int} {K : Array Value → World → Prop} (h : Hp E w (Blk b (.cells (aT l) t (0, 0)) :: Blk b2 (.cells (aT l2) t2 (0, 0)) :: F)) (hl : l.length = 258) (hl2 : l2.length = 258) (hK : ∀ w', Hp E w' (Blk b2 (.cells (aT l) t2 (0, 0)) :: Blk b (.cells (aT l) t (0, 0)) :: F) → K (aT l) w') :
    Ld (.arr 258) ⟨b, 0, none⟩ w fun x => StA 258 ⟨b2, 0, none⟩ x w fun w2 => Ld (.arr 258) ⟨b2, 0, none⟩ w2 fun r => K r w2 :=
  Ld.arr h (by rw [aT_size, hl]) (StA.blk h.p1 (by rw [aT_size, hl2]) (by rw [aT_size, hl]) vI_scalar fun w2 h2 => Ld.arr h2 (by rw [aT_size, hl]) (hK w2 h2))
def nPos (us : List Nat) : Nat := (us.filter fun x => decide (0 < x)).length
theorem nPos_snoc (us : List Nat) (c : Nat) : nPos (us ++ [c]) = nPos us + if 0 < c then 1 else 0 := by
  unfold nPos
  rw [List.filter_append, List.length_append]
  by_cases h : 0 < c
  · rw [if_pos h, List.filter_cons_of_pos (by simpa using h)]; rfl
  · rw [if_neg h, List.filter_cons_of_neg (by simpa using h)]; rfl
theorem nPos_le (us : List Nat) : nPos us ≤ us.length := List.length_filter_le ..
set_option maxRecDepth 20000 in
theorem few_c {s : Sl} {cs : List Int} {K : Array Value → Int → Bool → World → Prop} (h : Hp E w F) (hs : Tells F (SlT 1 s (cs.map vI)))
    (hK1 : ∀ v w', v.length = 258 → Hp E w' F → K (aT v) 0 false w') (hK2 : ∀ us w', us.length ≤ 5 → MaxT us → Hp E w' F → K (aT (ints (fewU us))) (nPos us : Int) true w') :
    Cl Try.prog [.arr 258, kI, kB] n_law07_few ⟨[.slice s.base s.len s.cap]⟩ w K := by
  refine law07_few.ok _ _ _ ?_
  unfold law07_few.E
  simp only [Join_eq]
  rw [ai_zero64]
  have hl := (h.tells hs).1
  simp only [List.length_map, Nat.mul_one] at hl
  have hz : (ints (List.replicate 258 0)).length = 258 := by rw [ints_len]; simp
  have e0 : fewU [] = List.replicate 258 0 := by
    refine List.eq_replicate_iff.2 ⟨fewU_len _, fun x hx => ?_⟩
    obtain ⟨s, _, rfl⟩ := List.mem_map.1 hx
    simp
  refine Nw.mk h fun b3 w1 h1 => Nw.mk h1 fun b5 w2 h2 => ?_
  refine ⟨fun n i w' => ∃ us : List Nat, i = (us.length : Int) ∧ us.length ≤ 5 ∧ us.length ≤ cs.length ∧ MaxT us ∧ n = (nPos us : Int) ∧ Hp E w' (Blk b5 (.cells (aT (ints (fewU us))) 39 (0, 0)) :: Blk b3 (.cells (aT (ints (List.replicate 258 0))) 39 (0, 0)) :: F),
    fun _ i _ => 5 - i.toNat, ⟨[], rfl, by simp, by simp, fun x hx => by simp at hx, rfl, by rw [e0]; exact h2⟩, ?_⟩
  rintro n i w3 ⟨us, rfl, hu5, huc, hm, rfl, hh⟩
  have hfl : (ints (fewU us)).length = 258 := by rw [ints_len, fewU_len]
  refine IfB.mk (fun hlt => IfB.mk (fun hlt5 => ?_) (fun _ => fin64_c hh hfl hz fun w4 h4 => hK2 us w4 hu5 hm h4.drop.drop)) (fun _ => fin64_c hh hfl hz fun w4 h4 => hK2 us w4 hu5 hm h4.drop.drop)
  have hlt : us.length < cs.length := by have := of_decide_eq_true hlt; omega
  have hlt5 : us.length < 5 := by have := of_decide_eq_true hlt5; omega
  have rd : ∀ {w'} {K : Int → Prop}, Hp E w' (Blk b5 (.cells (aT (ints (fewU us))) 39 (0, 0)) :: Blk b3 (.cells (aT (ints (List.replicate 258 0))) 39 (0, 0)) :: F) → K cs[us.length] → Idx s (us.length : Int) 1 fun q => Ld kI q w' K := fun h' hK =>
    Idx.rd (h'.drop.drop.tells hs) (by omega) (by omega) fun q hq hc => Ld.sc (s := .int .i64) cs[us.length] (by rw [hc]; simp [vI]) hK
  refine rd hh (IfB.mk (fun _ => fin64_c hh hfl hz fun w4 h4 => hK1 _ w4 hfl h4.drop.drop) (fun h0 => ?_))
  refine rd hh (IfB.mk (fun _ => fin64_c hh hfl hz fun w4 h4 => hK1 _ w4 hfl h4.drop.drop) (fun h1 => ?_))
  have h0 := of_decide_eq_false h0
  have h1 := of_decide_eq_false h1
  generalize hc : cs[us.length] = c at *
  obtain ⟨c, rfl⟩ := Int.eq_ofNat_of_zero_le (show 0 ≤ c by omega)
  refine rd hh ?_
  rw [show i64 (i64 ((us.length : Int) * 50) + (us.length : Int)) = ((51 * us.length : Nat) : Int) by rw [i64_id (x := (us.length : Int) * 50) (by omega), i64_id (by omega)]; omega]
  refine IdxP.wr hh (by omega) (by omega) (by rw [aT_size, hfl]) rfl fun w4 h4 => ?_
  rw [Int.toNat_natCast, aT_set, ints_set, fewU_set us c hlt5] at h4
  have hnp := nPos_snoc us c
  have hple := nPos_le us
  refine Idx.rd (h4.drop.drop.tells hs) (by omega) (by omega) fun q hq hcc => Ld.sc (s := .int .i64) (c : Int) (by rw [hcc]; simp [vI, hc]) ?_
  rw [i64_id (x := (us.length : Int) + 1) (by omega), i64_id (x := (nPos us : Int) + 1) (by omega)]
  have hm' : MaxT (us ++ [c]) := fun x hx => by
    rcases List.mem_append.1 hx with hx | hx
    · exact hm x hx
    · have : x = c := by simpa using hx
      omega
  refine IfB.mk (fun hp => ?_) (fun hp => ?_)
  · have hp : 0 < c := by have := of_decide_eq_true hp; omega
    rw [if_pos hp] at hnp
    exact ⟨⟨us ++ [c], by simp, by simp; omega, by simp; omega, hm', by omega, h4⟩, by dsimp only; omega⟩
  · have hp : ¬ 0 < c := by have := of_decide_eq_false hp; omega
    rw [if_neg hp] at hnp
    exact ⟨⟨us ++ [c], by simp, by simp; omega, by simp; omega, hm', by omega, h4⟩, by dsimp only; omega⟩
theorem tdivN (a b : Nat) : Int.tdiv (a : Int) (b : Int) = ((a / b : Nat) : Int) := by
  rw [Int.tdiv_eq_ediv_of_nonneg (by omega)]; omega
theorem tmodN (a b : Nat) : Int.tmod (a : Int) (b : Int) = ((a % b : Nat) : Int) := by
  rw [Int.tmod_eq_emod_of_nonneg (by omega)]; omega
set_option maxRecDepth 20000 in
theorem pmLeast_law {s : Sl} {cs : List Int} {L : Int} {K : Bool → World → Prop} (h : Hp E w F) (hs : Tells F (SlT 1 s (cs.map vI))) (hK : ∀ w', Hp E w' F → K true w') :
    Cl Try.prog [kB] n_law07_PackageMergeLeast ⟨[.slice s.base s.len s.cap, .int .i64 L]⟩ w K := by
  refine law07_PackageMergeLeast.ok _ _ _ _ ?_
  unfold law07_PackageMergeLeast.E
  simp only [Join_eq]
  have hz : ∀ {v : Value}, (⟨List.replicate 258 v⟩ : Array Value).size = 258 := fun {v} => by simp
  have wk : ∀ {l : List HP} {w' : World}, Hp E w' (l ++ F) → Cl Try.prog [kB] n_law07_wakes ⟨[]⟩ w' K := fun h' => wakes07_c h' fun w6 h6 => hK w6 h6.dropL
  refine few_c h hs (fun v w1 hv h1 => ?_) (fun us w1 hu5 hm h1 => ?_)
  · exact Nw.mk h1 fun b8 w2 h2 => StA.blk h2 hz (by rw [aT_size, hv]) vI_scalar fun w3 h3 => IfB.t rfl (wk (l := [_]) h3)
  have hfl : (ints (fewU us)).length = 258 := by rw [ints_len, fewU_len]
  have hT : (aT (ints (fewU us))).size = 258 := by rw [aT_size, hfl]
  refine Nw.mk h1 fun b8 w2 h2 => StA.blk h2 hz hT vI_scalar fun w3 h3 => IfB.f rfl ?_
  refine IfB.mk (fun _ => wk (l := [_]) h3) (fun c1 => IfB.mk (fun _ => wk (l := [_]) h3) (fun c2 => ?_))
  have c1 := of_decide_eq_false c1
  have c2 := of_decide_eq_false c2
  obtain ⟨N, rfl⟩ := Int.eq_ofNat_of_zero_le (show 0 ≤ L by omega)
  obtain ⟨e1, e2⟩ := shl_one (L := N) (by omega)
  rw [e1]
  refine ⟨e2, IfB.mk (fun _ => wk (l := [_]) h3) (fun c3 => IfB.mk (fun _ => wk (l := [_]) h3) (fun c4 => ?_))⟩
  have c3 := of_decide_eq_false c3
  have c4 := of_decide_eq_false c4
  obtain ⟨ys, hys⟩ := ord_exists (fewU us)
  have hperm := fewU_filter us.length us rfl hu5
  have hyl : ys.length = nPos us := by rw [ws_len hys, hperm.length_eq]; rfl
  have hfm : MaxT (fewU us) := fun x hx => by
    obtain ⟨s, _, rfl⟩ := List.mem_map.1 hx
    split
    · exact getD_max hm _
    · omega
  have hg : GoodL (ints (fewU us)) (N : Int) (fewU us) ys N := ⟨rfl, hfm, fewU_len us, hys, rfl, by omega, by omega, by omega⟩
  have hL : (ai .u8 (lensOf (fewU us) ys N)).size = 258 := by rw [ai_size, lensOf_len]
  refine Ld.arr h3 hT (pmLen_ok hg h3 fun w4 h4 => Nw.mk h4 fun b27 w5 h5 => StA.blk h5 hz hL ai_scalar fun w6 h6 => IfB.f (by decide) ?_)
  have hsum := hg.sum2 (by omega)
  refine Ld.arr h6 hL (rsum_c h6 (lensOf_len ..) fun r w7 hr1 hr2 h7 => ?_)
  have hr : r = 32768 := by rw [← hsum]; exact hr2 (by omega)
  subst hr
  refine IfB.f (by decide) ?_
  rw [aT_ints] at h7
  have hbest := hg.total
  have hlmax : ∀ k, k < 258 → (lensOf (fewU us) ys N).getD k 0 ≤ N ∧ (0 < (lensOf (fewU us) ys N).getD k 0 ↔ 0 < (fewU us).getD k 0) := fun k hk => by
    have hmem : k ∈ ys ↔ 0 < (fewU us).getD k 0 := by
      rw [hys.1.mem_iff, used_mem, fewU_len]
      exact ⟨fun h => h.2, fun h => ⟨hk, h⟩⟩
    unfold lensOf
    rw [plc_at hk, ← hmem]
    by_cases h : k ∈ ys
    · have := hg.inOf (List.idxOf_lt_length_of_mem h)
      rw [if_pos h]; exact ⟨this.2, fun _ => h, fun _ => by omega⟩
    · rw [if_neg h]; exact ⟨by omega, fun h' => by omega, fun h' => absurd h' h⟩
  generalize hlens : lensOf (fewU us) ys N = lens at *
  have hll : lens.length = 258 := by rw [← hlens]; exact lensOf_len ..
  have hlb : ∀ y ∈ lens, y < 256 := by rw [← hlens]; exact hg.bytes
  have hdot := dotT_le hfm hlb
  refine ⟨fun n i w' => ∃ k : Nat, i = (k : Int) ∧ k ≤ 258 ∧ n = (dotT (fewU us) lens k : Int) ∧ Hp E w' (Blk b27 (.cells (ai .u8 lens) 23 (0, 0)) :: Blk b8 (.cells (ai .i64 (fewU us)) 39 (0, 0)) :: F), fun _ i _ => 258 - i.toNat, ⟨0, rfl, by omega, rfl, h7⟩, ?_⟩
  rintro n i w8 ⟨k, rfl, hk, rfl, hh⟩
  refine IfB.mk (fun hlt => ?_) (fun hge => ?_)
  · have hlt : k < 258 := by have := of_decide_eq_true hlt; omega
    obtain ⟨q1, q2⟩ := hlmax k hlt
    have hl8 : k < lens.length := by omega
    have hf8 : k < (fewU us).length := by rw [fewU_len]; exact hlt
    refine Drw.mk hh fun w9 h9 => IdxP.rd (s := .int .u8) h9 (by omega) (by omega) _ (getI hl8) (IfB.f (decide_eq_false (by rw [i64_id (by omega)]; omega)) ?_)
    refine IdxP.rd (s := .int .u8) h9 (by omega) (by omega) _ (getI hl8) (IdxP.rd (s := .int .i64) h9.p1 (by omega) (by omega) _ (getI hf8) (IfB.f ?_ ?_))
    · have : decide ((lens.getD k 0 : Int) > 0) = decide (((fewU us).getD k 0 : Int) > 0) := by rw [decide_eq_decide]; omega
      rw [this]; simp
    refine Drw.mk h9 fun w10 h10 => IdxP.rd (s := .int .i64) h10.p1 (by omega) (by omega) _ (getI hf8) (IdxP.rd (s := .int .u8) h10 (by omega) (by omega) _ (getI hl8) ?_)
    have hd1 := hdot (k + 1)
    have hs1 : dotT (fewU us) lens (k + 1) = dotT (fewU us) lens k + (fewU us).getD k 0 * lens.getD k 0 := over_succ ..
    have hmul : ((fewU us).getD k 0 : Int) * (lens.getD k 0 : Int) = (((fewU us).getD k 0 * lens.getD k 0 : Nat) : Int) := by push_cast; rfl
    rw [i64_id (x := (lens.getD k 0 : Int)) (by omega), hmul, i64_id (x := (((fewU us).getD k 0 * lens.getD k 0 : Nat) : Int)) (by omega), i64_id (x := (dotT (fewU us) lens k : Int) + _) (by omega), i64_id (by omega)]
    exact ⟨⟨k + 1, rfl, by omega, by omega, h10⟩, by dsimp only; omega⟩
  have hge : k = 258 := by have := of_decide_eq_false hge; omega
  subst hge
  generalize htot : dotT (fewU us) lens 258 = tot at *
  refine ⟨fun a i w' => ∃ k : Nat, i = (k : Int) ∧ k ≤ 5 ∧ a = ((N ^ k : Nat) : Int) ∧ Hp E w' (Blk b27 (.cells (ai .u8 lens) 23 (0, 0)) :: Blk b8 (.cells (ai .i64 (fewU us)) 39 (0, 0)) :: F), fun _ i _ => 5 - i.toNat, ⟨0, rfl, by omega, rfl, hh⟩, ?_⟩
  rintro a i w9 ⟨k, rfl, hk, rfl, hh⟩
  have hpow : ∀ k, k ≤ 5 → N ^ k ≤ 3125 := fun k hk => Nat.le_trans (Nat.pow_le_pow_left (show N ≤ 5 by omega) k) (Nat.pow_le_pow_right (by decide) hk)
  refine IfB.mk (fun hlt => ?_) (fun hge => ?_)
  · have hlt : k < 5 := by have := of_decide_eq_true hlt; omega
    have := hpow (k + 1) hlt
    rw [show ((N ^ k : Nat) : Int) * (N : Int) = ((N ^ (k + 1) : Nat) : Int) by rw [Nat.pow_succ]; push_cast; rfl, i64_id (x := ((N ^ (k + 1) : Nat) : Int)) (by omega), i64_id (by omega)]
    exact ⟨⟨k + 1, rfl, by omega, rfl, hh⟩, by dsimp only; omega⟩
  have hge : k = 5 := by have := of_decide_eq_false hge; omega
  subst hge
  have hp5 := hpow 5 (Nat.le_refl _)
  generalize hall : N ^ 5 = all at *
  refine ⟨fun i w' => ∃ x : Nat, i = (x : Int) ∧ x ≤ all ∧ Hp E w' (Blk b27 (.cells (ai .u8 lens) 23 (0, 0)) :: Blk b8 (.cells (ai .i64 (fewU us)) 39 (0, 0)) :: F), fun i _ => all - i.toNat, ⟨0, rfl, by omega, hh⟩, ?_⟩
  rintro i w10 ⟨x, rfl, hx, hh⟩
  refine IfB.mk (fun hlt => ?_) (fun _ => wk (l := [_, _]) hh)
  have hlt : x < all := by have := of_decide_eq_true hlt; omega
  rw [i64_id (x := (x : Int) + 1) (by omega)]
  have step : ∀ {w'}, Hp E w' (Blk b27 (.cells (ai .u8 lens) 23 (0, 0)) :: Blk b8 (.cells (ai .i64 (fewU us)) 39 (0, 0)) :: F) → (∃ x' : Nat, (x : Int) + 1 = (x' : Int) ∧ x' ≤ all ∧ Hp E w' (Blk b27 (.cells (ai .u8 lens) 23 (0, 0)) :: Blk b8 (.cells (ai .i64 (fewU us)) 39 (0, 0)) :: F)) ∧ all - ((x : Int) + 1).toNat < all - (x : Int).toNat :=
    fun h' => ⟨⟨x + 1, rfl, by omega, h'⟩, by omega⟩
  refine ⟨fun y sm ot i w' => ∃ j : Nat, i = (j : Int) ∧ j ≤ 5 ∧ y = ((x / N ^ j : Nat) : Int) ∧ sm = (kraftZ N (zx us x N j) : Int) ∧ ot = (costZ (zx us x N j) : Int) ∧ Hp E w' (Blk b27 (.cells (ai .u8 lens) 23 (0, 0)) :: Blk b8 (.cells (ai .i64 (fewU us)) 39 (0, 0)) :: F),
    fun _ _ _ i _ => 5 - i.toNat, ⟨0, rfl, by omega, by simp, rfl, rfl, hh⟩, ?_⟩
  rintro y sm ot i w11 ⟨j, rfl, hj, rfl, rfl, rfl, hh⟩
  refine IfB.mk (fun hlt => ?_) (fun hge => ?_)
  · have hlt : j < 5 := by have := of_decide_eq_true hlt; omega
    refine ⟨by omega, by omega, ?_⟩
    have hxj : x / N ^ j ≤ x := Nat.div_le_self ..
    have hmod := Nat.mod_lt (x / N ^ j) (show 0 < N by omega)
    obtain ⟨z1, z2⟩ := zx_small us hm x (show 1 ≤ N by omega) (by omega) (j + 1)
    have hdd : x / N ^ j / N = x / N ^ (j + 1) := by rw [Nat.div_div_eq_div_mul, Nat.pow_succ]
    have hdl : x / N ^ (j + 1) ≤ x := Nat.div_le_self ..
    have hnn := Int.natCast_nonneg (x / N ^ (j + 1))
    have hnn2 := Int.natCast_nonneg (x / N ^ j % N)
    rw [tmodN, tdivN, hdd, i64_id (x := 51 * (j : Int)) (by omega), i64_id (x := 1 + ((x / N ^ j % N : Nat) : Int)) (by omega), i64_id (x := ((x / N ^ (j + 1) : Nat) : Int)) (by omega), i64_id (x := (j : Int) + 1) (by omega)]
    rw [show (51 : Int) * (j : Int) = ((51 * j : Nat) : Int) by omega]
    have hfg := fewU_get us hlt
    have hgi : (ai .i64 (fewU us))[(((51 * j : Nat) : Int)).toNat]? = some (Sc.enc (.int .i64) (us.getD j 0 : Int)) := by
      rw [getI (by rw [fewU_len]; omega), hfg]
    refine IdxP.rd (s := .int .i64) hh.p1 (by omega) (by omega) _ hgi ?_
    refine IfB.mk (fun hp => ?_) (fun hp => ?_)
    · have hp : 0 < us.getD j 0 := by have := of_decide_eq_true hp; omega
      have hgu := getD_max hm j
      have e5 : u64 (i64 ((N : Int) - (1 + ((x / N ^ j % N : Nat) : Int)))) = ((N - (1 + x / N ^ j % N) : Nat) : Int) := by
        rw [i64_id (by omega), u64_id (by omega)]; omega
      rw [e5]
      refine ⟨by omega, IdxP.rd (s := .int .i64) hh.p1 (by omega) (by omega) _ hgi ?_⟩
      have hmx : IntKind.max .i64 = 9223372036854775807 := rfl
      have hpl : 2 ^ (N - (1 + x / N ^ j % N)) ≤ 2 ^ 5 := Nat.pow_le_pow_right (by decide) (by omega)
      have e6 := ishl_nat (k := .i64) (a := 1) (b := N - (1 + x / N ^ j % N)) (by have : IntKind.bits .i64 = 64 := rfl; omega) (by rw [hmx]; omega)
      rw [show (1 : Int) = ((1 : Nat) : Int) from rfl, e6, Nat.one_mul]
      have e7 : zx us x N (j + 1) = zx us x N j ++ [(us.getD j 0, 1 + x / N ^ j % N)] := by rw [zx, if_pos hp]
      have e8 : kraftZ N (zx us x N (j + 1)) = kraftZ N (zx us x N j) + 2 ^ (N - (1 + x / N ^ j % N)) := by rw [e7, kraftZ_app]; simp [kraftZ]
      have e9 : costZ (zx us x N (j + 1)) = costZ (zx us x N j) + (1 + x / N ^ j % N) * us.getD j 0 := by rw [e7, costZ_app]; simp [costZ]
      have e10 : (((1 : Nat) : Int) + ((x / N ^ j % N : Nat) : Int)) * (us.getD j 0 : Int) = (((1 + x / N ^ j % N) * us.getD j 0 : Nat) : Int) := by push_cast; rfl
      rw [e10, i64_id (x := (((1 + x / N ^ j % N) * us.getD j 0 : Nat) : Int)) (by omega), i64_id (x := (kraftZ N (zx us x N j) : Int) + _) (by omega), i64_id (x := (costZ (zx us x N j) : Int) + _) (by omega)]
      exact ⟨⟨j + 1, rfl, by omega, rfl, by omega, by omega, hh⟩, by dsimp only; omega⟩
    · have hp : ¬ 0 < us.getD j 0 := by have := of_decide_eq_false hp; omega
      have e7 : zx us x N (j + 1) = zx us x N j := by rw [zx, if_neg hp, List.append_nil]
      exact ⟨⟨j + 1, rfl, by omega, rfl, by rw [e7], by rw [e7], hh⟩, by dsimp only; omega⟩
  · have hge : j = 5 := by have := of_decide_eq_false hge; omega
    subst hge
    refine ⟨e2, IfB.mk (fun hfit => IfB.mk (fun hlow => ?_) (fun _ => step hh)) (fun _ => step hh)⟩
    exfalso
    have hfit : kraftZ N (zx us x N 5) ≤ 2 ^ N := by have := of_decide_eq_true hfit; omega
    have hlow : costZ (zx us x N 5) < tot := by have := of_decide_eq_true hlow; omega
    have hp : (wsOf (fewU us) ys).Perm ((zx us x N 5).map (·.1)) := by
      rw [zx_fst, pad_filter hu5]
      exact (ws_perm hys).trans hperm
    have := best_least hg.one (ord_asc hys) hp ⟨zx_in us x (by omega) 5, hfit⟩
    omega
end
end Go.Proofs.Ytcidpcahgkngjaa
