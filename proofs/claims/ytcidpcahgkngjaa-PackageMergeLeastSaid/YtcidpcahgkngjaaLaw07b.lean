/-
  What the laws PackageMergeMatches, PackageMergeWhole and PackageMergeLimit answer. Conditions: as each theorem states.
-/
import Derived.Test.YtcidpcahgkngjaaLaw07
namespace Go.Srt
open Go.Pm
theorem sum_keep {f : Nat → Nat} {p : Nat → Bool} : ∀ {l : List Nat}, (∀ x ∈ l, p x = false → f x = 0) → (l.map f).sum = ((l.filter p).map f).sum
  | [], _ => rfl
  | x :: l, h => by
    have ih := sum_keep fun y hy => h y (List.mem_cons_of_mem x hy)
    cases hp : p x with
    | true => rw [List.filter_cons_of_pos hp, List.map_cons, List.map_cons, List.sum_cons, List.sum_cons, ih]
    | false => rw [List.filter_cons_of_neg (by simp [hp]), List.map_cons, List.sum_cons, ih, h x (by simp) hp, Nat.zero_add]
theorem sum_over (ys : List Nat) (g : Nat → Nat) : (ys.map g).sum = over ys.length fun i => g (ys.getD i 0) := by
  unfold over
  congr 1
  refine List.ext_getElem (by simp) fun i h1 h2 => ?_
  have hi : i < ys.length := by simpa using h1
  simp [hi]
theorem dot_lens {u ys : List Nat} {f : Nat → Nat} (hl : u.length = 258) (hys : IsOrd u ys) : dotT u (plc ys f) 258 = over ys.length fun i => f i * (wsOf u ys).getD i 0 := by
  have hin : ∀ s ∈ ys, s < 258 := fun s hs => by have := (used_mem.1 (hys.1.mem_iff.1 hs)).1; omega
  have e1 : dotT u (plc ys f) 258 = ((used u).map fun s => u.getD s 0 * (plc ys f).getD s 0).sum := by
    unfold used
    rw [hl]
    refine sum_keep fun s _ h => ?_
    have : u.getD s 0 = 0 := by simpa using h
    rw [this, Nat.zero_mul]
  rw [e1, ← (hys.1.map _).sum_nat, sum_over]
  refine over_congr fun i hi => ?_
  rw [getD_at hi, plc_get (ord_nodup hys) hin hi]
  have : (wsOf u ys).getD i 0 = u.getD ys[i] 0 := by
    rw [List.getD_eq_getElem?_getD, wsOf, List.getElem?_map, List.getElem?_eq_getElem hi]; rfl
  rw [this, Nat.mul_comm]
theorem used_lens {u ys : List Nat} {f : Nat → Nat} (hl : u.length = 258) (hys : IsOrd u ys) (hf : ∀ i, i < ys.length → 1 ≤ f i) : used (plc ys f) = used u := by
  unfold used
  rw [plc_len, hl]
  refine List.filter_congr fun s hs => ?_
  have hs : s < 258 := by simpa using hs
  rw [plc_at hs]
  have hm : s ∈ ys ↔ 0 < u.getD s 0 := by
    rw [hys.1.mem_iff, used_mem, hl]
    exact ⟨fun h => h.2, fun h => ⟨hs, h⟩⟩
  by_cases h : s ∈ ys
  · have := hf _ (List.idxOf_lt_length_of_mem h)
    rw [if_pos h, decide_eq_true (hm.1 h), decide_eq_true (by omega)]
  · rw [if_neg h, decide_eq_false (fun h' => h (hm.2 h'))]; rfl
theorem ksum_lens {u ys : List Nat} {f : Nat → Nat} (hl : u.length = 258) (hys : IsOrd u ys) (hf : ∀ i, i < ys.length → 1 ≤ f i ∧ f i ≤ 15) : ksum (plc ys f) = over ys.length fun i => 2 ^ (15 - f i) := by
  have hin : ∀ s ∈ ys, s < 258 := fun s hs => by have := (used_mem.1 (hys.1.mem_iff.1 hs)).1; omega
  rw [ksum_used, used_lens hl hys fun i hi => (hf i hi).1, ← (hys.1.map _).sum_nat, sum_over]
  refine over_congr fun i hi => ?_
  rw [getD_at hi, plc_get (ord_nodup hys) hin hi]
  have := hf i hi
  unfold wt
  rw [if_neg (by omega), if_neg (by omega)]
section
variable {t : List Int} {L : Int} {u ys : List Nat} {N : Nat}
theorem GoodL.wl (hg : GoodL t L u ys N) : (wsOf u ys).length = ys.length := List.length_map _
theorem GoodL.inOf (hg : GoodL t L u ys N) {i : Nat} (hi : i < ys.length) : 1 ≤ lenOf (wsOf u ys) N i ∧ lenOf (wsOf u ys) N i ≤ N :=
  lenOf_in (ord_asc hg.ord) hg.one (by rw [hg.wl]; exact hg.few) (by rw [hg.wl]; exact hi)
theorem p15 : 2 ^ 15 = 32768 := by decide
theorem GoodL.sum2 (hg : GoodL t L u ys N) (hn : 2 ≤ ys.length) : ksum (Proofs.Ytcidpcahgkngjaa.lensOf u ys N) = 32768 := by
  have hN := hg.top
  have h1 := hg.one
  have e := ksum_lens (f := lenOf (wsOf u ys) N) hg.len hg.ord fun i hi => by have := hg.inOf hi; omega
  have hk := lv_kraft (ord_asc hg.ord) (N - 1) (by rw [hg.wl]; exact hn) (by rw [hg.wl, show N - 1 + 1 = N by omega]; exact hg.few)
  rw [hg.wl, show N - 1 + 1 = N by omega] at hk
  unfold Proofs.Ytcidpcahgkngjaa.lensOf
  rw [e, over_congr (g := fun i => 2 ^ (15 - N) * 2 ^ (N - lv (wsOf u ys) (N - 1) (2 * ys.length - 2) i)) fun i hi => by
    have := hg.inOf hi
    have e2 : lenOf (wsOf u ys) N i = lv (wsOf u ys) (N - 1) (2 * ys.length - 2) i := by
      unfold lenOf; rw [if_neg (by rw [hg.wl]; omega), hg.wl]
    rw [e2] at this ⊢
    rw [← Nat.pow_add, show 15 - N + (N - lv (wsOf u ys) (N - 1) (2 * ys.length - 2) i) = 15 - lv (wsOf u ys) (N - 1) (2 * ys.length - 2) i by omega], over_mul, hk, ← Nat.pow_add, show 15 - N + N = 15 by omega, p15]
theorem GoodL.sum1 (hg : GoodL t L u ys N) (hn : ys.length = 1) : ksum (Proofs.Ytcidpcahgkngjaa.lensOf u ys N) = 16384 := by
  have hN := hg.top
  have e := ksum_lens (f := lenOf (wsOf u ys) N) hg.len hg.ord fun i hi => by have := hg.inOf hi; omega
  unfold Proofs.Ytcidpcahgkngjaa.lensOf
  rw [e, hn, over_succ]
  unfold lenOf
  rw [if_pos (by rw [hg.wl]; exact hn)]
  simp [over]
theorem GoodL.total (hg : GoodL t L u ys N) : dotT u (Proofs.Ytcidpcahgkngjaa.lensOf u ys N) 258 = best (wsOf u ys) N := by
  unfold Proofs.Ytcidpcahgkngjaa.lensOf
  rw [dot_lens hg.len hg.ord, ← zOf_best (ord_asc hg.ord) hg.one (by rw [hg.wl]; exact hg.few), zOf_cost, hg.wl]
theorem GoodL.bytes (hg : GoodL t L u ys N) : ∀ y ∈ Proofs.Ytcidpcahgkngjaa.lensOf u ys N, y < 256 := by
  intro y hy
  obtain ⟨s, _, rfl⟩ := List.mem_map.1 hy
  have hN := hg.top
  split
  · rename_i h
    have := hg.inOf (List.idxOf_lt_length_of_mem h)
    omega
  · decide
theorem GoodL.at (hg : GoodL t L u ys N) {i : Nat} (hi : i < ys.length) : (Proofs.Ytcidpcahgkngjaa.lensOf u ys N).getD ys[i] 0 = lenOf (wsOf u ys) N i :=
  plc_get (ord_nodup hg.ord) (fun s hs => by have := (used_mem.1 (hg.ord.1.mem_iff.1 hs)).1; have := hg.len; omega) hi
end
theorem lenOf_mono (ws : List Nat) (N : Nat) {i j : Nat} (h : i ≤ j) : lenOf ws N j ≤ lenOf ws N i := by
  unfold lenOf
  split
  · exact Nat.le_refl _
  · exact lv_mono _ _ _ _ _ h
end Go.Srt
namespace Go.Proofs.Ytcidpcahgkngjaa
open Go Go.Vc Go.Srt Go.Pm
section
variable {E w : World} {F : List HP}
theorem two_len {t : List Int} (hl : t.length = 258) (L : Int) : ∃ (res : List Nat) (e : Int), res.length = 258 ∧
    (∀ {E w : World} {F : List HP} {K : Array Value → Int → World → Prop}, Hp E w F → (∀ w', Hp E w' F → K (ai .u8 res) e w') → Cl Try.prog [.arr 258, kI] n_packagemerge_Lengths ⟨[.agg (aT t), .int .i64 L]⟩ w K) ∧
    (∀ {E w : World} {F : List HP} {K : Array Value → Int → World → Prop}, Hp E w F → (∀ w', Hp E w' F → K (ai .u8 res) e w') → Cl Try.prog [.arr 258, kI] n_ref07_Lengths ⟨[.agg (aT t), .int .i64 L]⟩ w K) := by
  rcases caseL hl L with hb | ⟨u, ys, N, hg⟩
  · exact ⟨zero8, 2, zero8_len, fun h hK => pmLen_bad hb hl h hK, fun h hK => rLen_bad hb hl h hK⟩
  · exact ⟨lensOf u ys N, 0, lensOf_len .., fun h hK => pmLen_ok hg h hK, fun h hK => rLen_ok hg h hK⟩
theorem two_ord {t : List Int} (hl : t.length = 258) : ∃ xs : List Int, xs.length ≤ 258 ∧
    (∀ {E w : World} {F : List HP} {K : Sl → World → Prop}, Hp E w F → (∀ s w', Hp E w' (OwnS 1 s (xs.map vI) :: F) → K s w') → Cl Try.prog [kS] n_packagemerge_Order ⟨[.agg (aT t)]⟩ w K) ∧
    (∀ {E w : World} {F : List HP} {K : Sl → World → Prop}, Hp E w F → (∀ s w', Hp E w' (OwnS 1 s (xs.map vI) :: F) → K s w') → Cl Try.prog [kS] n_ref07_Order ⟨[.agg (aT t)]⟩ w K) := by
  cases hv : validT t with
  | false =>
    exact ⟨[], by simp, fun h hK => pmOrder_c h hl (fun _ w' h' => hK _ w' (h'.ownNil 1)) fun l h0 hm _ _ _ _ _ _ => (by rw [h0, ints_valid hm] at hv; cases hv),
      fun h hK => rOrder_c h hl (fun _ w' h' => hK _ w' (h'.ownNil 1)) fun l h0 hm _ _ _ _ _ _ => (by rw [h0, ints_valid hm] at hv; cases hv)⟩
  | true =>
    obtain ⟨u, rfl, hm⟩ := valid_ints hv
    have hu : u.length = 258 := by rw [ints_len] at hl; exact hl
    obtain ⟨ys, hys⟩ := ord_exists u
    exact ⟨ints ys, by rw [ints_len]; exact ord_le hu hys, fun h hK => pmOrd hm hu hys h hK, fun h hK => rOrd hm hu hys h hK⟩
theorem two_tot {t : List Int} {l : List Nat} (ht : t.length = 258) (hl : l.length = 258) (hlb : ∀ y ∈ l, y < 256) : ∃ n : Int,
    (∀ {E w : World} {F : List HP} {K : Int → World → Prop}, Hp E w F → (∀ w', Hp E w' F → K n w') → Cl Try.prog [kI] n_packagemerge_Total ⟨[.agg (aT t), .agg (ai .u8 l)]⟩ w K) ∧
    (∀ {E w : World} {F : List HP} {K : Int → World → Prop}, Hp E w F → (∀ w', Hp E w' F → K n w') → Cl Try.prog [kI] n_ref07_Total ⟨[.agg (aT t), .agg (ai .u8 l)]⟩ w K) := by
  cases hv : validT t with
  | false =>
    exact ⟨0, fun h hK => pmTotal_c h ht hl hlb (fun _ w' h' => hK w' h') fun u h0 hm _ _ => (by rw [h0, ints_valid hm] at hv; cases hv),
      fun h hK => rTotal_c h ht hl hlb (fun _ w' h' => hK w' h') fun u h0 hm _ _ => (by rw [h0, ints_valid hm] at hv; cases hv)⟩
  | true =>
    obtain ⟨u, rfl, hm⟩ := valid_ints hv
    exact ⟨(dotT u l 258 : Int), fun h hK => pmTotal_c h ht hl hlb (fun hf => (by rw [hv] at hf; cases hf)) fun v h0 _ w' h' => (by obtain rfl := ints_inj h0; exact hK w' h'),
      fun h hK => rTotal_c h ht hl hlb (fun hf => (by rw [hv] at hf; cases hf)) fun v h0 _ w' h' => (by obtain rfl := ints_inj h0; exact hK w' h')⟩
theorem front3 {A B C : HP} (h : HasF E (A :: B :: C :: F) w) : ∃ G, Hp E w (C :: G) := by
  obtain ⟨l, h⟩ := h
  exact HasF.front2 (A := B) (F := F) ⟨l ++ [A], by rw [List.append_assoc]; exact h⟩
theorem front4 {A B C D : HP} (h : HasF E (A :: B :: C :: D :: F) w) : ∃ G, Hp E w (D :: G) := by
  obtain ⟨l, h⟩ := h
  exact front3 (A := B) (F := F) ⟨l ++ [A], by rw [List.append_assoc]; exact h⟩
set_option maxRecDepth 20000 in
theorem pmMatches_law {t : List Int} {L : Int} {l : List Nat} {K : Bool → World → Prop} (h : Hp E w F) (ht : t.length = 258) (hl : l.length = 258) (hlb : ∀ y ∈ l, y < 256) (hK : ∀ w', Hp E w' F → K true w') :
    Cl Try.prog [kB] n_law07_PackageMergeMatches ⟨[.agg (aT t), .int .i64 L, .agg (ai .u8 l)]⟩ w K := by
  refine law07_PackageMergeMatches.ok _ _ _ _ _ ?_
  unfold law07_PackageMergeMatches.E
  have hz : ∀ {v : Value}, (⟨List.replicate 258 v⟩ : Array Value).size = 258 := fun {v} => by simp
  have hT : (aT t).size = 258 := by rw [aT_size, ht]
  obtain ⟨res, e, hr, pl, rl⟩ := two_len ht L
  obtain ⟨xs, hxl, po, ro⟩ := two_ord ht
  obtain ⟨n, pt, rt⟩ := two_tot ht hl hlb
  have hrs : (ai .u8 res).size = 258 := by rw [ai_size, hr]
  have hls : (ai .u8 l).size = 258 := by rw [ai_size, hl]
  refine Nw.mk h fun b5 w1 h1 => Nw.mk h1 fun b7 w2 h2 => Ld.arr h2.p1 hT (pl h2 fun w3 h3 => Nw.mk h3 fun b13 w4 h4 => StA.blk h4 hz hrs ai_scalar fun w5 h5 => ?_)
  refine Ld.arr h5.p2 hT (rl h5 fun w6 h6 => Nw.mk h6 fun b20 w7 h7 => StA.blk h7 hz hrs ai_scalar fun w8 h8 => ?_)
  have hd : Hp E { w8 with drawn := w8.drawn + 1 } _ := h8.drew
  refine ⟨HasF E _, HasF.mk hd, ?_⟩
  refine LdS.arrBlk (fun w2 h2 => h2.front2) hrs (LdS.arrBlk (fun w2 h2 => h2.front) hrs (EqA.mk hr hr (IfB.t (by simp) (IfB.t (by simp) ?_))))
  refine LdS.arrBlk (fun w2 h2 => front4 h2) hT (LdS.arrBlk (fun w2 h2 => front4 h2) hT (po hd fun s w9 h9 => ⟨HasF.mk1 h9, ro h9 fun s2 w10 h10 => ⟨HasF.mk2 h10, ?_⟩⟩))
  refine ints_c h10 (Tells.cons Tells.own) Tells.own (by rw [big_eq]; omega) fun w11 h11 => ⟨HasF.mk2 h11, IfB.t (by simp) ?_⟩
  refine LdS.arrBlk (fun w2 h2 => front4 h2) hT (LdS.arrBlk (fun w2 h2 => front3 h2) hls (LdS.arrBlk (fun w2 h2 => front4 h2) hT (LdS.arrBlk (fun w2 h2 => front3 h2) hls ?_)))
  refine pt h11 fun w12 h12 => ⟨HasF.mk2 h12, rt h12 fun w13 h13 => ⟨HasF.mk2 h13, IfB.t (by simp) ?_⟩⟩
  refine LdS.arrBlk (fun w2 h2 => front4 h2) hT (LdS.arrBlk (fun w2 h2 => front4 h2) hT ?_)
  refine pmValid_c h13 ht fun w14 h14 => ⟨HasF.mk2 h14, rValid_c h14 ht fun w15 h15 => ⟨HasF.mk2 h15, IfB.t (by simp) ?_⟩⟩
  exact wakes07_c h15 fun w16 h16 => ⟨HasF.mk2 h16, hK w16 h16.drop.drop.drop.drop.drop.drop⟩
set_option maxRecDepth 20000 in
theorem pmWhole_law {t : List Int} {L : Int} {K : Bool → World → Prop} (h : Hp E w F) (ht : t.length = 258) (hK : ∀ w', Hp E w' F → K true w') :
    Cl Try.prog [kB] n_law07_PackageMergeWhole ⟨[.agg (aT t), .int .i64 L]⟩ w K := by
  refine law07_PackageMergeWhole.ok _ _ _ _ ?_
  unfold law07_PackageMergeWhole.E
  simp only [Join_eq]
  have hz : ∀ {v : Value}, (⟨List.replicate 258 v⟩ : Array Value).size = 258 := fun {v} => by simp
  have hT : (aT t).size = 258 := by rw [aT_size, ht]
  refine Nw.mk h fun b4 w1 h1 => Ld.arr h1 hT ?_
  rcases caseL ht L with hb | ⟨u, ys, N, hg⟩
  · obtain ⟨xs, hxl, po, _⟩ := two_ord ht
    have hz8 : (ai .u8 zero8).size = 258 := by rw [ai_size, zero8_len]
    refine pmLen_bad hb ht h1 fun w2 h2 => Nw.mk h2 fun b10 w3 h3 => StA.blk h3 hz hz8 ai_scalar fun w4 h4 => Ld.arr h4.p1 hT (po h4 fun s w5 h5 => ?_)
    refine IfB.t (by decide) (IfB.t (by decide) (Ld.arr h5.p1 hz8 ⟨ai .u8 zero8, by kernel_rfl, EqA.mk zero8_len zero8_len (IfB.t (by simp) (wakes07_c h5 fun w6 h6 => hK w6 h6.drop.drop.drop))⟩))
  · have hte := hg.eq
    subst hte
    have hlen := ord_le hg.len hg.ord
    have hin := ord_in hg.len hg.ord
    have hll := lensOf_len u ys N
    have hN := hg.top
    have hlim := hg.lim
    subst hlim
    have wk : ∀ {A B C : HP} {w' : World}, Hp E w' (A :: B :: C :: F) → Cl Try.prog [kB] n_law07_wakes ⟨[]⟩ w' K := fun h' => wakes07_c h' fun w6 h6 => hK w6 h6.drop.drop.drop
    refine pmLen_ok hg h1 fun w2 h2 => Nw.mk h2 fun b10 w3 h3 => StA.blk h3 hz (by rw [ai_size, hll]) ai_scalar fun w4 h4 => Ld.arr h4.p1 hT (pmOrd hg.max hg.len hg.ord h4 fun s w5 h5 => ?_)
    have hsl : s.len = ys.length := by
      have := (h5.tells Tells.own).1
      simp only [List.length_map, ints, Nat.mul_one] at this
      exact this.symm
    rw [aT_ints] at h5
    refine IfB.f (by decide) ?_
    refine ⟨fun i w' => ∃ k : Nat, i = (k : Int) ∧ k ≤ ys.length ∧ Hp E w' (OwnS 1 s ((ints ys).map vI) :: Blk b10 (.cells (ai .u8 (lensOf u ys N)) 23 (0, 0)) :: Blk b4 (.cells (ai .i64 u) 39 (0, 0)) :: F), fun i _ => ys.length - i.toNat, ⟨0, rfl, by omega, h5⟩, ?_⟩
    rintro i w6 ⟨k, rfl, hk, hh⟩
    refine IfB.mk (fun hlt => ?_) (fun hge => ?_)
    · have hlt : k < ys.length := by have := of_decide_eq_true hlt; omega
      have hx := hin _ (List.getElem_mem hlt)
      have ha := hg.at hlt
      have hi := hg.inOf hlt
      refine rdT (hh.tells Tells.own) hlt ?_
      refine IfB.f (decide_eq_false (by omega)) (IfB.f (decide_eq_false (by omega)) ?_)
      refine IdxP.rd (s := .int .i64) hh.p2 (by omega) (by omega) _ (getI (by have := hg.len; omega)) (IfB.f (decide_eq_false (by omega)) ?_)
      refine IdxP.rd (s := .int .u8) hh.p1 (by omega) (by omega) _ (getI (by rw [hll]; omega)) (IfB.f (decide_eq_false (by rw [ha, i64_id (by omega)]; omega)) ?_)
      refine IdxP.rd (s := .int .u8) hh.p1 (by omega) (by omega) _ (getI (by rw [hll]; omega)) (IfB.f (decide_eq_false (by rw [ha]; omega)) ?_)
      rw [i64_id (x := (k : Int) + 1) (by omega)]
      have step : ∀ {w'}, Hp E w' (OwnS 1 s ((ints ys).map vI) :: Blk b10 (.cells (ai .u8 (lensOf u ys N)) 23 (0, 0)) :: Blk b4 (.cells (ai .i64 u) 39 (0, 0)) :: F) → (∃ k' : Nat, (k : Int) + 1 = (k' : Int) ∧ k' ≤ ys.length ∧ Hp E w' (OwnS 1 s ((ints ys).map vI) :: Blk b10 (.cells (ai .u8 (lensOf u ys N)) 23 (0, 0)) :: Blk b4 (.cells (ai .i64 u) 39 (0, 0)) :: F)) ∧ ys.length - ((k : Int) + 1).toNat < ys.length - (k : Int).toNat :=
        fun h' => ⟨⟨k + 1, rfl, by omega, h'⟩, by omega⟩
      refine IfB.mk (fun hp => ?_) (fun _ => step hh)
      have hp : 0 < k := by have := of_decide_eq_true hp; omega
      have hk1 : k - 1 < ys.length := by omega
      have hx' := hin _ (List.getElem_mem hk1)
      have ha' := hg.at hk1
      have hi' := hg.inOf hk1
      have hpw := (List.pairwise_iff_getElem.1 hg.ord.2) (k - 1) k hk1 hlt (by omega)
      have hmono := lenOf_mono (wsOf u ys) N (show k - 1 ≤ k by omega)
      rw [show i64 ((k : Int) - 1) = ((k - 1 : Nat) : Int) by rw [i64_id (by omega)]; omega]
      refine rdT (hh.tells Tells.own) hk1 (Drw.mk hh fun w7 h7 => ?_)
      refine IdxP.rd (s := .int .i64) h7.p2 (by omega) (by omega) _ (getI (by have := hg.len; omega)) ?_
      refine IdxP.rd (s := .int .i64) h7.p2 (by omega) (by omega) _ (getI (by have := hg.len; omega)) (IfB.f (decide_eq_false (by omega)) ?_)
      refine IdxP.rd (s := .int .i64) h7.p2 (by omega) (by omega) _ (getI (by have := hg.len; omega)) ?_
      refine IdxP.rd (s := .int .i64) h7.p2 (by omega) (by omega) _ (getI (by have := hg.len; omega)) ?_
      refine IfB.mk (fun heq => IfB.f (decide_eq_false ?_) ?_) (fun _ => ?_)
      · have heq : (u.getD ys[k - 1] 0 : Int) = (u.getD ys[k] 0 : Int) := by simpa using heq
        omega
      all_goals
        refine IdxP.rd (s := .int .u8) h7.p1 (by omega) (by omega) _ (getI (by rw [hll]; omega)) ?_
        refine IdxP.rd (s := .int .u8) h7.p1 (by omega) (by omega) _ (getI (by rw [hll]; omega)) (IfB.f (decide_eq_false (by rw [ha, ha']; omega)) (step h7))
    · have hcnt : ((List.range 258).filter fun s => decide (0 < (lensOf u ys N).getD s 0)).length = ys.length := by
        have e := used_lens (f := lenOf (wsOf u ys) N) hg.len hg.ord fun i hi => (hg.inOf hi).1
        rw [hg.ord.1.length_eq, ← e]
        unfold used
        rw [plc_len]; rfl
      refine ⟨fun n i w' => ∃ k : Nat, i = (k : Int) ∧ k ≤ 258 ∧ n = ((((List.range k).filter fun s => decide (0 < (lensOf u ys N).getD s 0)).length : Nat) : Int) ∧ Hp E w' (OwnS 1 s ((ints ys).map vI) :: Blk b10 (.cells (ai .u8 (lensOf u ys N)) 23 (0, 0)) :: Blk b4 (.cells (ai .i64 u) 39 (0, 0)) :: F), fun _ i _ => 258 - i.toNat, ⟨0, rfl, by omega, rfl, hh⟩, ?_⟩
      rintro n i w7 ⟨k, rfl, hk, rfl, hh⟩
      have hle := List.length_filter_le (fun s => decide (0 < (lensOf u ys N).getD s 0)) (List.range k)
      rw [List.length_range] at hle
      refine IfB.mk (fun hlt => ?_) (fun hge => ?_)
      · have hlt : k < 258 := by have := of_decide_eq_true hlt; omega
        have es : (List.range (k + 1)).filter (fun s => decide (0 < (lensOf u ys N).getD s 0)) = (List.range k).filter (fun s => decide (0 < (lensOf u ys N).getD s 0)) ++ if 0 < (lensOf u ys N).getD k 0 then [k] else [] := usedTo_succ
        refine IdxP.rd (s := .int .u8) hh.p1 (by omega) (by omega) _ (getI (by rw [hll]; omega)) ?_
        rw [i64_id (x := ((((List.range k).filter fun s => decide (0 < (lensOf u ys N).getD s 0)).length : Nat) : Int) + 1) (by omega), i64_id (x := (k : Int) + 1) (by omega)]
        refine IfB.mk (fun hp => ?_) (fun hp => ?_)
        · have hp : 0 < (lensOf u ys N).getD k 0 := by have := of_decide_eq_true hp; omega
          rw [if_pos hp] at es
          exact ⟨⟨k + 1, rfl, by omega, by rw [es, List.length_append]; rfl, hh⟩, by dsimp only; omega⟩
        · have hp : ¬ 0 < (lensOf u ys N).getD k 0 := by have := of_decide_eq_false hp; omega
          rw [if_neg hp, List.append_nil] at es
          exact ⟨⟨k + 1, rfl, by omega, by rw [es], hh⟩, by dsimp only; omega⟩
      · have hge : k = 258 := by have := of_decide_eq_false hge; omega
        subst hge
        rw [hcnt]
        refine Ld.arr hh.p1 (by rw [ai_size, hll]) (rsum_c hh hll fun r w8 hr1 hr2 h8 => IfB.t (by rw [hsl]; simp) ?_)
        have two : 2 ≤ ys.length → r = 32768 := fun h2 => by have := hg.sum2 h2; rw [← this]; exact hr2 (by omega)
        have one : ys.length = 1 → r = 16384 := fun h2 => by have := hg.sum1 h2; rw [← this]; exact hr2 (by omega)
        refine IfB.mk (fun hlt => ?_) (fun hge => ?_)
        · have hlt := of_decide_eq_true hlt
          refine IfB.mk (fun _ => wk h8) (fun h1 => IfB.t ?_ (wk h8))
          have h1 : (ys.length : Int) = 1 := by simpa using h1
          rw [one (by omega)]; rfl
        · have hge := of_decide_eq_false hge
          refine IfB.t (by rw [two (by omega)]; rfl) (IfB.t ?_ (wk h8))
          simp; omega
end
end Go.Proofs.Ytcidpcahgkngjaa
