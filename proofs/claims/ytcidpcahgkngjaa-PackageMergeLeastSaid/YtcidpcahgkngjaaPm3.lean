/-
  What Lengths and Total of packagemerge compute. Conditions: as each theorem states.
-/
import Derived.Test.YtcidpcahgkngjaaPm2
namespace Go.Pm
theorem pairs_bound {M : Nat} : ∀ {l : List It}, (∀ x ∈ l, x.1 ≤ M) → ∀ x ∈ pairs l, x.1 ≤ 2 * M
  | [], _, x, h => by simp [pairs] at h
  | [_], _, x, h => by simp [pairs] at h
  | a :: b :: l, hl, x, h => by
    rw [pairs] at h
    rcases List.mem_cons.1 h with rfl | h
    · have := hl a (by simp); have := hl b (by simp); simp only; omega
    · exact pairs_bound (fun y hy => hl y (by simp [hy])) x h
theorem row_bound {ws : List Nat} {M : Nat} (h : ∀ x ∈ ws, x ≤ M) : ∀ k, ∀ x ∈ row ws k, x.1 ≤ M * 2 ^ k
  | 0, x, hx => by
    obtain ⟨y, hy, rfl⟩ := List.mem_map.1 hx
    simpa using h y hy
  | k + 1, x, hx => by
    rcases List.mem_append.1 ((mrg_perm _ _).mem_iff.1 hx) with hx | hx
    · obtain ⟨y, hy, rfl⟩ := List.mem_map.1 hx
      have := h y hy
      have := Nat.le_mul_of_pos_right M (Nat.two_pow_pos (k + 1))
      simp only; omega
    · have := pairs_bound (row_bound h k) x hx
      rw [Nat.pow_succ]; rw [← Nat.mul_assoc]; omega
theorem row_len_le (ws : List Nat) : ∀ k, (row ws k).length ≤ 2 * ws.length
  | 0 => by rw [row, lv0_len]; omega
  | k + 1 => by
    have := row_len_le ws k
    rw [row_len]; omega
theorem leafs_succ {l : List It} {j : Nat} (h : j < l.length) : leafs (l.take (j + 1)) = leafs (l.take j) + if l[j].2 = true then 1 else 0 := by
  unfold leafs
  rw [List.take_add_one, List.filter_append, List.length_append, List.getElem?_eq_getElem h]
  congr 1
  by_cases e : l[j].2 = true
  · rw [if_pos e]; simp [e]
  · rw [if_neg e]; simp [e]
theorem leafs_mono {l : List It} {a b : Nat} (h : a ≤ b) : leafs (l.take a) ≤ leafs (l.take b) := by
  have := List.take_append_drop a (l.take b)
  rw [List.take_take, Nat.min_eq_left h] at this
  have h2 := congrArg leafs this
  rw [leafs_append] at h2
  omega
theorem lenOf_le (ws : List Nat) {L : Nat} (hL : 1 ≤ L) (i : Nat) : lenOf ws L i ≤ L := by
  unfold lenOf
  split
  · exact hL
  · have := lv_le ws (L - 1) (2 * ws.length - 2) i
    omega
theorem row_leafs {ws : List Nat} (h : Asc ws) (k m : Nat) (hm : m ≤ (row ws k).length) : leafs ((row ws k).take m) ≤ ws.length := by
  cases k with
  | zero =>
    rw [row, lv0_len] at hm
    rw [(row_cut0 m hm).1]; exact hm
  | succ k => exact (row_cut h k m hm).2.1
end Go.Pm
namespace Go.Proofs.Ytcidpcahgkngjaa
open Go Go.Vc Go.Srt Go.Pm
section
variable {E w : World} {F : List HP}
theorem fin_c {b : Nat} {t : TypeId} {l : List Nat} {K : Array Value → World → Prop} (h : Hp E w (Blk b (.cells (ai .u8 l) t (0, 0)) :: F)) (hl : l.length = 258) (hK : ∀ w', Hp E w' (Blk b (.cells (ai .u8 l) t (0, 0)) :: F) → K (ai .u8 l) w') :
    Ld (.arr 258) ⟨b, 0, none⟩ w fun x => StA 258 ⟨b, 0, none⟩ x w fun w2 => Ld (.arr 258) ⟨b, 0, none⟩ w2 fun r => K r w2 :=
  Ld.arr h (by rw [ai_size, hl]) (StA.blk h (by rw [ai_size, hl]) (by rw [ai_size, hl]) ai_scalar fun w2 h2 => Ld.arr h2 (by rw [ai_size, hl]) (hK w2 h2))
def gSl (s : Sl) : List Value := [.slice s.base s.len s.cap]
theorem gSl_len : ∀ x, (gSl x).length = 1 := fun _ => rfl
theorem gSl_sc : ∀ x, ∀ y ∈ gSl x, scalarB y = true := by
  intro x y hy
  have : y = .slice x.base x.len x.cap := by simpa [gSl] using hy
  rw [this]; rfl
theorem ty_rows : ElemT Try.prog 62 60 1 24 := ElemT.of (by kernel_rfl) (by kernel_rfl)
def RowsOk (ws : List Nat) (rs : List Sl) (G : List HP) : Prop := ∀ j (hj : j < rs.length), Tells G (SlT 2 rs[j] ((row ws j).flatMap cIt)) ∧ rs[j].len ≤ rs[j].cap
theorem RowsOk.more {ws : List Nat} {rs : List Sl} {G : List HP} {s : Sl} (h : RowsOk ws rs G) (hc : s.len ≤ s.cap) : RowsOk ws (rs ++ [s]) (OwnS 2 s ((row ws rs.length).flatMap cIt) :: G) := by
  intro j hj
  rcases Nat.lt_or_ge j rs.length with hlt | hge
  · rw [List.getElem_append_left hlt]
    exact ⟨(h j hlt).1.cons, (h j hlt).2⟩
  · have : j = rs.length := by simp at hj; omega
    subst this
    simp only [List.getElem_append_right (Nat.le_refl _), Nat.sub_self, List.getElem_cons_zero]
    exact ⟨Tells.own, hc⟩
theorem shl_one {L : Nat} (hL : L ≤ 15) : ishl .i64 1 (u64 (L : Int)) = ((2 ^ L : Nat) : Int) ∧ (0 : Int) ≤ u64 (L : Int) := by
  rw [u64_id (by omega)]
  have hp : 2 ^ L ≤ 2 ^ 15 := Nat.pow_le_pow_right (by decide) hL
  have hm : IntKind.max .i64 = 9223372036854775807 := rfl
  have := ishl_nat (k := .i64) (a := 1) (b := L) (by have : IntKind.bits .i64 = 64 := rfl; omega) (by rw [hm]; omega)
  rw [Nat.one_mul] at this
  exact ⟨this, by omega⟩
theorem wsOf_bound {l ys : List Nat} (hm : MaxT l) : ∀ x ∈ wsOf l ys, x ≤ 2147483647 := by
  intro x hx
  obtain ⟨s, _, rfl⟩ := List.mem_map.1 hx
  rw [List.getD_eq_getElem?_getD]
  cases h : l[s]? with
  | none => simp
  | some y => exact hm y (List.mem_of_getElem? h)
theorem weigh {l ys : List Nat} (hm : MaxT l) {k : Nat} (hk : k ≤ 15) : ∀ x ∈ row (wsOf l ys) k, x.1 ≤ 2 ^ 60 := by
  intro x hx
  have h1 := row_bound (wsOf_bound (ys := ys) hm) k x hx
  have hp : 2 ^ k ≤ 2 ^ 15 := Nat.pow_le_pow_right (by decide) hk
  have := Nat.mul_le_mul_left 2147483647 hp
  omega
set_option maxRecDepth 20000 in
theorem pmLengths_c {t : List Int} {L : Int} {K : Array Value → Int → World → Prop} (h : Hp E w F) (hl : t.length = 258)
    (hK1 : (validT t = false ∨ L < 1 ∨ 15 < L ∨ ∃ l, t = ints l ∧ (2 : Int) ^ L.toNat < (used l).length) → ∀ w', Hp E w' F → K (ai .u8 (List.replicate 258 0)) 2 w')
    (hK2 : ∀ l ys w', t = ints l → MaxT l → IsOrd l ys → 1 ≤ L → L ≤ 15 → ys.length ≤ 2 ^ L.toNat → Hp E w' F → K (ai .u8 (plc ys (lenOf (wsOf l ys) L.toNat))) 0 w') :
    Cl Try.prog [.arr 258, kI] n_packagemerge_Lengths ⟨[.agg (aT t), .int .i64 L]⟩ w K := by
  refine packagemerge_Lengths.ok _ _ _ _ ?_
  unfold packagemerge_Lengths.E
  rw [ai_zero]
  simp only [Join_eq]
  refine Nw.mk h fun b4 w1 h1 => Nw.mk h1 fun b6 w2 h2 => Ld.arr h2.p1 (by rw [aT_size, hl]) (pmOrder_c h2 hl (fun hv w3 h3 => ?_) (fun l hte hm hll ys s w3 hys h3 => ?_))
  · refine Ld.arr h3.p1 (by rw [aT_size, hl]) (pmValid_c h3 hl fun w4 h4 => IfB.t (by rw [hv]; rfl) (fin_c h4 (by simp) fun w5 h5 => hK1 (.inl hv) w5 h5.drop.drop))
  · subst hte
    have hlen := ord_le hll hys
    have hin := ord_in hll hys
    have hsl : s.len = ys.length := by
      have := (h3.tells Tells.own).1
      simp only [List.length_map, ints, Nat.mul_one] at this
      exact this.symm
    refine Ld.arr h3.p2 (by rw [aT_size, hl]) (pmValid_c h3 hl fun w4 h4 => IfB.f (by rw [ints_valid hm]; rfl) ?_)
    refine IfB.mk (fun hlt => fin_c h4.p1 (by simp) fun w5 h5 => hK1 (.inr (.inl (of_decide_eq_true hlt))) w5 h5.drop.drop.drop) (fun hge => ?_)
    have hge := of_decide_eq_false hge
    refine IfB.mk (fun hgt => fin_c h4.p1 (by simp) fun w5 h5 => hK1 (.inr (.inr (.inl (by have := of_decide_eq_true hgt; omega)))) w5 h5.drop.drop.drop) (fun hle => ?_)
    have hle := of_decide_eq_false hle
    obtain ⟨N, rfl⟩ := Int.eq_ofNat_of_zero_le (show 0 ≤ L by omega)
    have hN : N ≤ 15 := by omega
    have hN1 : 1 ≤ N := by omega
    obtain ⟨e1, e2⟩ := shl_one hN
    rw [e1]
    refine ⟨e2, IfB.mk (fun hgt => fin_c h4.p1 (by simp) fun w5 h5 => hK1 (.inr (.inr (.inr ⟨l, rfl, ?_⟩))) w5 h5.drop.drop.drop) (fun hle2 => ?_)⟩
    · have hgt := of_decide_eq_true hgt
      rw [Int.toNat_natCast, ← hys.1.length_eq, ← hsl]
      rw [show (2 : Int) ^ N = ((2 ^ N : Nat) : Int) by norm_cast]
      exact hgt
    have hle2 : ys.length ≤ 2 ^ N := by have := of_decide_eq_false hle2; omega
    have hasc := ord_asc hys
    have hwl : (wsOf l ys).length = ys.length := List.length_map _
    have hnd := ord_nodup hys
    have hin2 : ∀ s ∈ ys, s < 258 := fun s hs => (hin s hs).1
    have fine : ∀ w', Hp E w' F → K (ai .u8 (plc ys (lenOf (wsOf l ys) N))) 0 w' := fun w' h' => hK2 l ys w' rfl hm hys (by omega) (by omega) (by rw [Int.toNat_natCast]; exact hle2) h'
    rw [← plc_zero ys] at h4
    refine IfB.mk (fun h1 => ?_) (fun h1 => ?_)
    · have h1 : ys.length = 1 := by have : (s.len : Int) = 1 := by simpa using h1
                                    omega
      refine rdT (i := 0) (h4.tells Tells.own) (by omega) ?_
      have hx := hin2 _ (List.getElem_mem (show 0 < ys.length by omega))
      refine IdxP.wr h4.p1 (by omega) (by omega) (by rw [ai_size, plc_len]) rfl fun w5 h5 => ?_
      rw [Int.toNat_natCast] at h5
      have e := ai_set (k := .u8) (l := plc ys fun _ => 0) (i := ys[0]) (x := 1)
      rw [show (Value.int .u8 1) = .int .u8 ((1 : Nat) : Int) from rfl, e, plc_set hnd (by omega)] at h5
      have e3 : plc ys (fun j => if j = 0 then 1 else 0) = plc ys (lenOf (wsOf l ys) N) := plc_congr fun i hi => by
        have : i = 0 := by omega
        subst this
        unfold lenOf
        rw [if_pos rfl, if_pos (by omega)]
      rw [e3] at h5
      exact fin_c h5 (plc_len ..) fun w6 h6 => fine w6 h6.drop.drop.drop
    · have h1 : ys.length ≠ 1 := by
        intro e
        have : ¬ (s.len : Int) = 1 := by simpa using h1
        omega
      rw [aT_ints] at h4
      refine Ld.arr h4.p2 (by rw [ai_size, hll]) (leaves_c h4 hll Tells.own hin2 hlen fun s0 w5 h5 => Nw.mk h5 fun b38 w6 h6 => ?_)
      have hc0 := h5.ownCap
      refine ⟨fun rows k w' => ∃ (rs : List Sl) (G : List HP), k = (rs.length : Int) ∧ 1 ≤ rs.length ∧ rs.length ≤ N ∧ RowsOk (wsOf l ys) rs G ∧
          Hp E w' (OwnS 1 rows (rs.flatMap gSl) :: Blk b6 (.cells (ai .u8 (plc ys fun _ => 0)) 23 (0, 0)) :: OwnS 1 s ((ints ys).map vI) :: Blk b4 (.cells (ai .i64 l) 39 (0, 0)) :: (G ++ F)),
        fun _ k _ => N - k.toNat, ⟨[s0], [OwnS 2 s0 ((lv0 (wsOf l ys)).flatMap cIt)], rfl, Nat.le_refl _, hN1, ?_, ?_⟩, ?_⟩
      · intro j hj
        have : j = 0 := by simp at hj; omega
        subst this
        exact ⟨Tells.own, hc0⟩
      · exact ((h6.ownNew (sz := 1) (n := 1) rfl).p1.q4).p2.p1
      rintro rows k w7 ⟨rs, G, rfl, hr1, hrN, hrs, hh⟩
      have hrl := SlT.len gSl_len (by decide) (hh.tells Tells.own)
      refine IfB.mk (fun hlt => ?_) (fun hge => ?_)
      · have hlt : rs.length < N := by have := of_decide_eq_true hlt; omega
        have hd : Hp E { w7 with drawn := w7.drawn + 1 } _ := hh.drew
        have hrd : ∀ w', Hp E w' (OwnS 1 rows (rs.flatMap gSl) :: Blk b6 (.cells (ai .u8 (plc ys fun _ => 0)) 23 (0, 0)) :: OwnS 1 s ((ints ys).map vI) :: Blk b4 (.cells (ai .i64 l) 39 (0, 0)) :: (G ++ F)) → SlT 1 rows (rs.flatMap gSl) w' := fun w' h' => h'.tells Tells.own
        have key : ∀ (i : Nat) (hi : i < rs.length) {K : Addr → Prop}, (∀ p, (∀ w, SlT 1 rows (rs.flatMap gSl) w → w.cell? p = some (.slice rs[i].base rs[i].len rs[i].cap)) → K p) → Idx rows (i : Int) 1 K := by
          intro i hi K hK
          obtain ⟨p, hp, _⟩ := (hrd _ hd).2 i (by rw [fm_len gSl_len]; omega)
          refine ⟨p, hp, by omega, by omega, hK _ fun w2 h2 => ?_⟩
          obtain ⟨q, hq, hc⟩ := h2.2 i (by rw [fm_len gSl_len]; omega)
          have : q = p := Option.some.inj (hq.symm.trans hp)
          subst this
          rw [Int.toNat_natCast, Nat.mul_one, hc]
          have := fm_get gSl_len rs i 0 hi (by decide)
          rw [Nat.mul_one, Nat.add_zero] at this
          rw [← List.getElem?_eq_getElem, this]; rfl
        have hr0 := hrs 0 (by omega)
        have hrk := hrs (rs.length - 1) (by omega)
        refine ⟨SlT 1 rows (rs.flatMap gSl), hrd _ hd, ?_⟩
        refine key 0 (by omega) fun p hp => LdS.sc (s := .sl) rs[0] hp ?_
        rw [show i64 ((rs.length : Int) - 1) = ((rs.length - 1 : Nat) : Int) by rw [i64_id (by omega)]; omega]
        refine key (rs.length - 1) (by omega) fun q hq => LdS.sc (s := .sl) rs[rs.length - 1] hq ?_
        have hlr := row_len_le (wsOf l ys) (rs.length - 1)
        refine next_c hd (Tells.cons (Tells.cons (Tells.cons (Tells.cons hr0.1.appL)))) (Tells.cons (Tells.cons (Tells.cons (Tells.cons hrk.1.appL)))) hr0.2 (weigh hm (by omega)) (by rw [row, lv0_len]; omega) (by omega) fun s' w8 h8 => ?_
        have hcs := h8.ownCap
        refine ⟨hrd _ h8.drop, Nw.mk h8 fun b53 w9 h9 => ⟨hrd _ h9.drop.drop, ?_⟩⟩
        refine run_appendK (ys := gSl s') (n := 1) ty_rows (by decide) (.inl ⟨60, by kernel_rfl⟩) h9.p2 (.inl ⟨_, _, _, rfl, rfl, h9.tells (Tells.blk rfl rfl)⟩) rfl (gSl_sc s') (by omega) (by omega) fun s2 w10 h10 _ hold => ⟨hold, ?_⟩
        have e : rs.length - 1 + 1 = rs.length := by omega
        have er : mrg (row (wsOf l ys) 0) (pairs (row (wsOf l ys) (rs.length - 1))) = row (wsOf l ys) rs.length := by
          conv => rhs; rw [← e, row]
          rfl
        rw [er] at h10
        rw [i64_id (by omega)]
        refine ⟨⟨rs ++ [s'], OwnS 2 s' ((row (wsOf l ys) rs.length).flatMap cIt) :: G, by simp, by simp, by simp; omega, hrs.more hcs, ?_⟩, by dsimp only; omega⟩
        have h11 := h10.p1.drop
        rw [List.flatMap_append, show [s'].flatMap gSl = gSl s' by simp]
        exact h11.p1.q4
      · have hge : rs.length = N := by have := of_decide_eq_false hge; omega
        have tot15 : ∀ i, lenOf (wsOf l ys) N i ≤ 15 := fun i => Nat.le_trans (lenOf_le _ hN1 i) hN
        have htot : ∀ i, lenOf (wsOf l ys) N i = lv (wsOf l ys) (N - 1) (2 * ys.length - 2) i := fun i => by
          unfold lenOf
          rw [if_neg (by omega), hwl]
        refine ⟨fun many k w' => ∃ f : Nat → Nat, (((k = -1 ∨ many ≤ 0) ∧ -1 ≤ k ∧ k < N ∧ ∀ i, i < ys.length → f i = lenOf (wsOf l ys) N i) ∨
              (∃ kk m : Nat, k = (kk : Int) ∧ kk < N ∧ many = (m : Int) ∧ m ≤ (row (wsOf l ys) kk).length ∧ ∀ i, i < ys.length → f i + lv (wsOf l ys) kk m i = lenOf (wsOf l ys) N i)) ∧
            Hp E w' (Blk b6 (.cells (ai .u8 (plc ys f)) 23 (0, 0)) :: OwnS 1 rows (rs.flatMap gSl) :: OwnS 1 s ((ints ys).map vI) :: Blk b4 (.cells (ai .i64 l) 39 (0, 0)) :: (G ++ F)),
          fun _ k _ => (k + 1).toNat, ⟨fun _ => 0, ?_, hh.p1⟩, ?_⟩
        · rw [i64_id (x := 2 * (s.len : Int)) (by omega), i64_id (x := 2 * (s.len : Int) - 2) (by omega), i64_id (by omega)]
          rcases Nat.eq_zero_or_pos ys.length with h0 | h0
          · exact .inl ⟨.inr (by omega), by omega, by omega, fun i hi => by omega⟩
          · refine .inr ⟨N - 1, 2 * ys.length - 2, by omega, by omega, by omega, ?_, fun i _ => by rw [htot, Nat.zero_add]⟩
            rw [← hwl]
            exact row_enough (N - 1) (by rw [hwl, show N - 1 + 1 = N by omega]; exact hle2)
        rintro many k w8 ⟨f, hf, hh⟩
        have done : (∀ i, i < ys.length → f i = lenOf (wsOf l ys) N i) → Hp E w8 (Blk b6 (.cells (ai .u8 (plc ys (lenOf (wsOf l ys) N))) 23 (0, 0)) :: OwnS 1 rows (rs.flatMap gSl) :: OwnS 1 s ((ints ys).map vI) :: Blk b4 (.cells (ai .i64 l) 39 (0, 0)) :: (G ++ F)) := fun hi => by
          rw [← plc_congr hi]; exact hh
        refine IfB.mk (fun hk => ?_) (fun hk => ?_)
        · have hk := of_decide_eq_true hk
          refine IfB.mk (fun hmany => ?_) (fun hmany => ?_)
          · have hmany := of_decide_eq_true hmany
            rcases hf with ⟨h0, _⟩ | ⟨kk, m, rfl, hkN, rfl, hm2, hf⟩
            · omega
            have hrk := hrs kk (by omega)
            have hlr := row_len_le (wsOf l ys) kk
            refine Idx.el (n := kk) gSl_len (by decide) (hh.p1.tells Tells.own) rfl (by omega) fun p hp => ?_
            refine Ld.sc (s := .sl) rs[kk] (by have := hp 0 (by decide); rw [add_zero] at this; rw [this]; rfl) ?_
            have hrt : Tells (G ++ F) (SlT 2 rs[kk] ((row (wsOf l ys) kk).flatMap cIt)) := hrk.1.appL
            have hrl2 := SlT.len cIt_len (by decide) (hh.drop.drop.drop.drop.tells hrt)
            refine Slc.el (a := 0) (b := m) (l := row (wsOf l ys) kk) cIt_len hrl2 rfl rfl (by omega) hm2 (by omega) (Int.le_refl _) fun sm hsm hsml _ => ?_
            have hsm2 : Tells (G ++ F) (SlT 2 sm (((row (wsOf l ys) kk).take m).flatMap cIt)) := hrt.imp fun w' hw' => by simpa using hsm w' hw'
            refine ⟨fun wh j w' => ∃ jj : Nat, j = (jj : Int) ∧ jj ≤ m ∧ wh = (leafs ((row (wsOf l ys) kk).take jj) : Int) ∧
                Hp E w' (Blk b6 (.cells (ai .u8 (plc ys fun i => f i + if i < leafs ((row (wsOf l ys) kk).take jj) then 1 else 0)) 23 (0, 0)) :: OwnS 1 rows (rs.flatMap gSl) :: OwnS 1 s ((ints ys).map vI) :: Blk b4 (.cells (ai .i64 l) 39 (0, 0)) :: (G ++ F)),
              fun _ j _ => m - j.toNat, ⟨0, rfl, by omega, rfl, hh⟩, ?_⟩
            rintro wh j w9 ⟨jj, rfl, hj, rfl, hh⟩
            have hlfm := leafs_mono (l := row (wsOf l ys) kk) (show jj ≤ m from hj)
            have hlfn := row_leafs hasc kk m hm2
            refine IfB.mk (fun hjm => ?_) (fun hjm => ?_)
            · have hjm : jj < m := by have := of_decide_eq_true hjm; omega
              have hjr : jj < (row (wsOf l ys) kk).length := by omega
              have hls := leafs_succ hjr
              have hlfm2 := leafs_mono (l := row (wsOf l ys) kk) (show jj + 1 ≤ m from hjm)
              refine Idx.el (n := jj) cIt_len (by decide) (hh.drop.drop.drop.drop.tells hsm2) rfl (by rw [List.length_take]; omega) fun p hp => ?_
              rw [List.getElem_take] at hp
              refine Ld.st (ks := [.int .i64, .bool]) (((row (wsOf l ys) kk)[jj].1 : Int), (row (wsOf l ys) kk)[jj].2, ()) (fun j hj => hp j hj) ?_
              refine Nw.mk hh fun b80 w10 h10 => StC.blk h10 rfl (cIt_sc (row (wsOf l ys) kk)[jj]) fun w11 h11 => ?_
              rw [add_mk]
              refine Ld.blk h11 (row (wsOf l ys) kk)[jj].2 (by simp [cIt]) ?_
              have h12 := h11.drop
              refine IfB.mk (fun hlf => ?_) (fun hlf => ?_)
              · rw [if_pos hlf] at hls
                have hwn : leafs ((row (wsOf l ys) kk).take jj) < ys.length := by omega
                have hx := hin2 _ (List.getElem_mem hwn)
                have hfi := hf _ hwn
                have h15 := tot15 (leafs ((row (wsOf l ys) kk).take jj))
                have hlv : 1 ≤ lv (wsOf l ys) kk m (leafs ((row (wsOf l ys) kk).take jj)) := by
                  cases kk with
                  | zero => unfold lv whole; rw [if_pos (by omega)]; exact Nat.le_refl _
                  | succ kk => unfold lv whole; rw [if_pos (by omega)]; omega
                refine rdT (h12.p2.tells Tells.own) hwn ?_
                refine IdxP.rd (s := .int .u8) h12 (by omega) (by omega) _ (getI (by rw [plc_len]; omega)) ?_
                rw [plc_get hnd hin2 hwn, if_neg (by omega), Nat.add_zero]
                refine IdxP.wr h12 (by omega) (by omega) (by rw [ai_size, plc_len]) rfl fun w13 h13 => ?_
                rw [Int.toNat_natCast, u8_id (by omega), show ((f (leafs ((row (wsOf l ys) kk).take jj)) : Int) + 1) = ((f (leafs ((row (wsOf l ys) kk).take jj)) + 1 : Nat) : Int) by omega, ai_set, plc_set hnd hwn] at h13
                rw [i64_id (x := (leafs ((row (wsOf l ys) kk).take jj) : Int) + 1) (by omega), i64_id (by omega)]
                refine ⟨⟨jj + 1, rfl, by omega, by omega, ?_⟩, by dsimp only; omega⟩
                rw [hls]
                have e : plc ys (fun i => f i + if i < leafs ((row (wsOf l ys) kk).take jj) + 1 then 1 else 0) = plc ys (fun j => if j = leafs ((row (wsOf l ys) kk).take jj) then f (leafs ((row (wsOf l ys) kk).take jj)) + 1 else f j + if j < leafs ((row (wsOf l ys) kk).take jj) then 1 else 0) := plc_congr fun i _ => by
                  by_cases hi : i = leafs ((row (wsOf l ys) kk).take jj)
                  · subst hi; rw [if_pos (by omega), if_pos rfl]
                  · rw [if_neg hi]
                    congr 1
                    by_cases hi2 : i < leafs ((row (wsOf l ys) kk).take jj)
                    · rw [if_pos hi2, if_pos (by omega)]
                    · rw [if_neg hi2, if_neg (by omega)]
                rw [e]; exact h13
              · rw [if_neg (by rw [hlf]; simp)] at hls
                have hls : leafs ((row (wsOf l ys) kk).take (jj + 1)) = leafs ((row (wsOf l ys) kk).take jj) := hls
                rw [i64_id (by omega)]
                refine ⟨⟨jj + 1, rfl, by omega, by rw [hls], ?_⟩, by dsimp only; omega⟩
                rw [hls]; exact h12
            · have hjm : jj = m := by have := of_decide_eq_false hjm; omega
              subst hjm
              have hlj : leafs ((row (wsOf l ys) kk).take jj) ≤ jj := by
                unfold leafs
                have := List.length_filter_le (fun x : It => x.2) ((row (wsOf l ys) kk).take jj)
                rw [List.length_take] at this; omega
              rw [i64_id (x := (jj : Int) - _) (by omega), i64_id (x := 2 * _) (by omega), i64_id (by omega)]
              refine ⟨⟨_, ?_, hh⟩, by dsimp only; omega⟩
              cases kk with
              | zero =>
                refine .inl ⟨.inl (by omega), by omega, by omega, fun i hi => ?_⟩
                have := hf i hi
                unfold lv whole at this
                exact this
              | succ kk =>
                refine .inr ⟨kk, 2 * (jj - whole (wsOf l ys) (kk + 1) jj), by omega, by omega, ?_, (row_cut hasc kk jj hm2).2.2.1, fun i hi => ?_⟩
                · show 2 * ((jj : Int) - (whole (wsOf l ys) (kk + 1) jj : Int)) = _
                  have : whole (wsOf l ys) (kk + 1) jj ≤ jj := hlj
                  omega
                · have := hf i hi
                  rw [lv] at this
                  rw [← this]
                  unfold whole
                  omega
          · have hmany := of_decide_eq_false hmany
            refine fin_c (done ?_) (plc_len ..) fun w9 h9 => fine w9 h9.drop.drop.drop.drop.dropL
            rcases hf with ⟨_, _, _, h0⟩ | ⟨kk, m, rfl, hkN, rfl, hm2, hf⟩
            · exact h0
            · intro i hi
              have h0 := hf i hi
              have hm0 : m = 0 := by omega
              subst hm0
              rw [lv_zero hasc kk 0 i hm2 (by simp [whole, leafs]), Nat.add_zero] at h0
              exact h0
        · have hk := of_decide_eq_false hk
          refine fin_c (done ?_) (plc_len ..) fun w9 h9 => fine w9 h9.drop.drop.drop.drop.dropL
          rcases hf with ⟨_, _, _, h0⟩ | ⟨kk, m, rfl, hkN, rfl, hm2, hf⟩
          · exact h0
          · omega
end
end Go.Proofs.Ytcidpcahgkngjaa
