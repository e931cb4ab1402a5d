/-
  What rows, count and Lengths of the reference winepressref07 compute. Conditions: as each theorem states.
-/
import Derived.Test.YtcidpcahgkngjaaPm6
namespace Go.Proofs.Ytcidpcahgkngjaa
open Go Go.Vc Go.Srt Go.Pm
section
variable {E w : World} {F : List HP}
theorem lab_lv0 {ys ws : List Nat} {k : Nat} (h : k < ws.length) : lab ys (lv0 (ws.take (k + 1))) 0 0 = lab ys (lv0 (ws.take k)) 0 0 ++ [⟨ws[k], (ys.getD k 0 : Int), 0, 0⟩] := by
  rw [lv0_succ h, lab_app, lv0_leafs, List.length_take, Nat.zero_add, Nat.min_eq_left (by omega)]
  rfl
set_option maxRecDepth 20000 in
theorem rows_c {l ys : List Nat} {N : Nat} {K : Sl → World → Prop} (h : Hp E w F) (hl : l.length = 258) (hm : MaxT l) (hN1 : 1 ≤ N) (hN : N ≤ 15) (hys : IsOrd l ys)
    (hK : ∀ out rs G w', rs.length = N → RowsOkR ys (wsOf l ys) rs G → Hp E w' (OwnS 1 out (rs.flatMap gSl) :: (G ++ F)) → K out w') : Cl Try.prog [kS] n_ref07_rows ⟨[.agg (ai .i64 l), .int .i64 (N : Int)]⟩ w K := by
  refine ref07_rows.ok _ _ _ _ ?_
  unfold ref07_rows.E
  have hvl : validT (ints l) = true := ints_valid hm
  have hlen := ord_le hl hys
  have hin2 : ∀ s ∈ ys, s < 258 := fun s hs => (ord_in hl hys s hs).1
  have hwl : (wsOf l ys).length = ys.length := List.length_map _
  have hasc := ord_asc hys
  refine Nw.mk h fun b4 w1 h1 => Ld.arr h1 (by rw [ai_size, hl]) ?_
  rw [← aT_ints] at h1 ⊢
  refine rOrder_c h1 (by rw [ints_len, hl]) (fun hv => by rw [hvl] at hv; cases hv) fun l' hll hm' hl' zs s w2 hzs h2 => ?_
  have : l = l' := (List.map_inj_right (fun x y h => by have h : (x : Int) = (y : Int) := h; omega)).1 hll
  subst this
  obtain rfl := ord_same hys hzs
  rw [gN_eq, aT_ints] at h2
  have hsl := SlT.len gN_len (by decide) (h2.tells Tells.own)
  refine ⟨fun o i w' => ∃ k : Nat, i = (k : Int) ∧ k ≤ ys.length ∧ Hp E w' (OwnS 4 o ((lab ys (lv0 ((wsOf l ys).take k)) 0 0).flatMap cR) :: OwnS 1 s (ys.flatMap gN) :: Blk b4 (.cells (ai .i64 l) 39 (0, 0)) :: F), fun _ i _ => ys.length - i.toNat, ⟨0, rfl, by omega, h2.ownNil 4⟩, ?_⟩
  rintro o i w3 ⟨k, rfl, hk, hh⟩
  refine IfB.mk (fun hlt => ?_) (fun hge => ?_)
  · have hlt : k < ys.length := by have := of_decide_eq_true hlt; omega
    have hx := hin2 _ (List.getElem_mem hlt)
    have hd : Hp E { w3 with drawn := w3.drawn + 1 } _ := hh.drew
    refine ⟨HasF E (OwnS 1 s (ys.flatMap gN) :: Blk b4 (.cells (ai .i64 l) 39 (0, 0)) :: F), HasF.mk1 hd, ?_⟩
    have rd : ∀ {K : Int → Prop}, K (ys[k] : Int) → Idx s (k : Int) 1 fun q => LdS kI q (HasF E (OwnS 1 s (ys.flatMap gN) :: Blk b4 (.cells (ai .i64 l) 39 (0, 0)) :: F)) K := fun {K} hK =>
      Idx.elT (n := k) gN_len (by decide) hd.drop Tells.own rfl hlt fun p hp => LdS.sc (s := .int .i64) (ys[k] : Int) (fun w2 h2 => by
        have := h2.tells (hp 0 (by decide))
        rw [add_zero] at this
        rw [this]; rfl) hK
    refine rd ⟨by omega, by omega, ?_⟩
    rw [add_mk]
    refine LdS.blk (s := .int .i64) (fun w2 h2 => h2.front2) (l.getD ys[k] 0 : Int) (by rw [Nat.zero_add, Nat.mul_one]; exact getI (by omega)) ?_
    refine rd (Nw.mk hd fun b22 w4 h4 => ⟨HasF.mk2 h4, ?_⟩)
    have hol := SlT.len cR_len (by decide) (hh.tells Tells.own)
    have hll2 : (lab ys (lv0 ((wsOf l ys).take k)) 0 0).length = k := by rw [lab_len, lv0_len, List.length_take]; omega
    refine run_append (ys := cR ⟨l.getD ys[k] 0, (ys[k] : Int), 0, 0⟩) (n := 1) ty_rt (by decide) (.inl ⟨78, by kernel_rfl⟩) h4.p1 (.inl ⟨_, _, _, rfl, rfl, h4.tells (Tells.blk rfl rfl)⟩) rfl (cR_sc _) (by omega) (by omega) fun s' w5 h5 _ => ⟨HasF.mk2 h5, ?_⟩
    rw [i64_id (by omega)]
    refine ⟨⟨k + 1, rfl, by omega, ?_⟩, by dsimp only; omega⟩
    have e : (wsOf l ys)[k]'(by omega) = l.getD ys[k] 0 := by simp [wsOf]
    rw [lab_lv0 (by omega), List.flatMap_append, e, getD_at hlt]
    simpa using h5.p1.drop
  · have hge : k = ys.length := by have := of_decide_eq_false hge; omega
    subst hge
    rw [List.take_of_length_le (by omega)] at hh
    have hoc := hh.ownCap
    refine Nw.mk hh fun b26 w5 h5 => ?_
    refine ⟨fun out k w' => ∃ (rs : List Sl) (G : List HP), k = (rs.length : Int) ∧ 1 ≤ rs.length ∧ rs.length ≤ N ∧ rs[0]? = some o ∧ RowsOkR ys (wsOf l ys) rs G ∧
        Hp E w' (OwnS 1 out (rs.flatMap gSl) :: OwnS 1 s (ys.flatMap gN) :: Blk b4 (.cells (ai .i64 l) 39 (0, 0)) :: (G ++ F)),
      fun _ k _ => N - k.toNat, ⟨[o], [OwnS 4 o ((lab ys (lv0 (wsOf l ys)) 0 0).flatMap cR)], rfl, Nat.le_refl _, hN1, rfl, ?_, ?_⟩, ?_⟩
    · intro j hj
      have : j = 0 := by simp at hj; omega
      subst this
      exact ⟨Tells.own, hoc⟩
    · exact (h5.ownNew (sz := 1) (n := 1) rfl).p1.q3
    rintro out k w6 ⟨rs, G, rfl, hr1, hrN, hr0, hrs, hh⟩
    have hrl := SlT.len gSl_len (by decide) (hh.tells Tells.own)
    refine IfB.mk (fun hlt => ?_) (fun hge => hK out rs G w6 (by have := of_decide_eq_false hge; omega) hrs (hh.p1.drop.p1.drop))
    have hlt : rs.length < N := by have := of_decide_eq_true hlt; omega
    have hr0' : rs[0] = o := by rw [List.getElem?_eq_getElem (by omega)] at hr0; exact Option.some.inj hr0
    rw [show i64 ((rs.length : Int) - 1) = ((rs.length - 1 : Nat) : Int) by rw [i64_id (by omega)]; omega]
    refine Idx.el (n := rs.length - 1) gSl_len (by decide) (hh.tells Tells.own) rfl (by omega) fun p hp => ?_
    refine Ld.sc (s := .sl) rs[rs.length - 1] (by have := hp 0 (by decide); rw [add_zero] at this; rw [this]; rfl) ?_
    have ht0 := (hrs 0 (by omega)).1
    rw [hr0'] at ht0
    have htk := hrs (rs.length - 1) (by omega)
    refine Nw.mk hh fun b35 w7 h7 => ?_
    have ht0' : Tells (OwnS 1 out (rs.flatMap gSl) :: OwnS 1 s (ys.flatMap gN) :: Blk b4 (.cells (ai .i64 l) 39 (0, 0)) :: (G ++ F)) (SlT 4 o ((lab ys (row (wsOf l ys) 0) 0 0).flatMap cR)) := Tells.cons (Tells.cons (Tells.cons ht0.appL))
    have htk' : Tells (OwnS 1 out (rs.flatMap gSl) :: OwnS 1 s (ys.flatMap gN) :: Blk b4 (.cells (ai .i64 l) 39 (0, 0)) :: (G ++ F)) (SlT 4 rs[rs.length - 1] ((lab ys (row (wsOf l ys) (rs.length - 1)) 0 0).flatMap cR)) := Tells.cons (Tells.cons (Tells.cons htk.1.appL))
    have hx0 := SlT.len cR_len (by decide) (h7.drop.tells htk')
    rw [lab_len] at hx0
    have hrk2 := row_len_le (wsOf l ys) (rs.length - 1)
    have hw60 := weigh (ys := ys) hm (k := rs.length - 1) (by omega)
    have h0l : (lab ys (row (wsOf l ys) 0) 0 0).length = ys.length := by rw [lab_len, row, lv0_len, hwl]
    refine appN (s := ⟨some ⟨b35, 0, none⟩, 0, 0⟩) (l := []) ty_rt cR_len (by decide) cR_sc (h7.ownNew (sz := 4) (n := 0) rfl) (h7.drop.tells ht0') (by simp; omega) (by simp; omega) fun s37 w8 h8 _ => ?_
    rw [List.nil_append] at h8
    generalize hR : row (wsOf l ys) (rs.length - 1) = R at *
    have hpl := pairs_len R
    refine ⟨fun rw41 i w' => ∃ j : Nat, i = ((2 * j : Nat) : Int) ∧ 2 * j ≤ R.length ∧ Hp E w' (OwnS 4 rw41 ((lab ys (mrg (lv0 (wsOf l ys)) ((pairs R).take j)) 0 0).flatMap cR) :: OwnS 1 out (rs.flatMap gSl) :: OwnS 1 s (ys.flatMap gN) :: Blk b4 (.cells (ai .i64 l) 39 (0, 0)) :: (G ++ F)),
      fun _ i _ => R.length - i.toNat, ⟨0, rfl, by omega, by simpa [row, mrg_nil] using h8⟩, ?_⟩
    rintro rw41 i w9 ⟨j, rfl, hj, hh⟩
    have hml : (lab ys (mrg (lv0 (wsOf l ys)) ((pairs R).take j)) 0 0).length ≤ 2 ^ 20 := by rw [lab_len, mrg_len, lv0_len, List.length_take]; omega
    rw [i64_id (x := ((2 * j : Nat) : Int) + 1) (by omega)]
    refine IfB.mk (fun hlt2 => ?_) (fun hge2 => ?_)
    · have hlt2 : 2 * j + 1 < R.length := by have := of_decide_eq_true hlt2; omega
      have hx1 := hw60 _ (List.getElem_mem (show 2 * j < R.length by omega))
      have hx2 := hw60 _ (List.getElem_mem hlt2)
      refine Drw.mk hh fun w10 h10 => ?_
      refine Idx.el (n := 2 * j) cR_len (by decide) (h10.drop.tells htk') rfl (by rw [lab_len]; omega) fun p hp => ?_
      refine Ld.sc (s := .int .i64) ((R[2 * j]'(by omega)).1 : Int) (by rw [hp 0 (by decide)]; simp only [cR, List.getElem?_cons_zero]; rw [lab_w ys R (by omega)]) ?_
      refine Idx.el (n := 2 * j + 1) cR_len (by decide) (h10.drop.tells htk') (by omega) (by rw [lab_len]; omega) fun q hq => ?_
      refine Ld.sc (s := .int .i64) (R[2 * j + 1].1 : Int) (by rw [hq 0 (by decide)]; simp only [cR, List.getElem?_cons_zero]; rw [lab_w ys R hlt2]) ?_
      have hsn := pairs_snoc hlt2
      have hup := pairs_up R (by rw [← hR]; exact row_up hasc _)
      rw [i64_id (x := ((R[2 * j]'(by omega)).1 : Int) + (R[2 * j + 1].1 : Int)) (by omega), i64_id (x := ((2 * j : Nat) : Int) + 2) (by omega)]
      generalize hp1 : (R[2 * j]'(by omega)).1 + R[2 * j + 1].1 = p1 at hsn
      rw [show ((R[2 * j]'(by omega)).1 : Int) + (R[2 * j + 1].1 : Int) = (p1 : Int) by omega, show ((2 * j : Nat) : Int) + 1 = ((2 * j + 1 : Nat) : Int) by omega]
      have hall : ∀ q ∈ (pairs R).take j, q.1 ≤ p1 := by
        have hu2 : Up ((pairs R).take (j + 1)) := List.Pairwise.sublist (List.take_sublist ..) hup
        rw [hsn] at hu2
        intro q hq
        exact (List.pairwise_append.1 hu2).2.2 q hq (p1, false) (by simp)
      have hjl : ((pairs R).take j).length = j := by rw [List.length_take]; omega
      refine put_c (x := ⟨p1, -1, 2 * j, 2 * j + 1⟩) h10 Tells.own h10.ownCap hml fun kk s' w11 hkk hk1 hk2 h11 => ?_
      have hlp := lab_put (ys := ys) (ws := wsOf l ys) (P := (pairs R).take j) (p := (p1, false)) hasc (List.Pairwise.sublist (List.take_sublist ..) hup) hall (fun q hq => pairs_leaf R q (List.mem_of_mem_take hq)) rfl hkk hk1 hk2
      rw [hjl, ← hsn] at hlp
      rw [hlp] at h11
      exact ⟨⟨j + 1, by omega, by omega, h11.p1.drop⟩, by dsimp only; omega⟩
    · have hge2 : ¬ 2 * j + 1 < R.length := by have := of_decide_eq_false hge2; omega
      have e : mrg (lv0 (wsOf l ys)) ((pairs R).take j) = row (wsOf l ys) rs.length := by
        rw [List.take_of_length_le (by omega)]
        have : rs.length = (rs.length - 1) + 1 := by omega
        rw [this, row, hR]
      rw [e] at hh
      have hcs := hh.ownCap
      refine app1 (g := gSl) (x := rw41) ty_rts gSl_len (by decide) rfl (gSl_sc _) hh.p1 (by omega) (by omega) fun s53 w12 h12 _ => ?_
      rw [i64_id (by omega)]
      refine ⟨⟨rs ++ [rw41], OwnS 4 rw41 ((lab ys (row (wsOf l ys) rs.length) 0 0).flatMap cR) :: G, by simp, by simp, by simp; omega, ?_, hrs.more hcs, h12.p1.q3⟩, by dsimp only; omega⟩
      rw [List.getElem?_append_left (by omega)]; exact hr0
theorem row_getD {ws : List Nat} {k i : Nat} (hi : i < (row ws k).length) : (row ws k).getD i (0, true) = (row ws k)[i] := by
  rw [List.getD_eq_getElem?_getD, List.getElem?_eq_getElem hi]; rfl
set_option maxRecDepth 20000 in
theorem count_c {ys ws : List Nat} {rs : List Sl} {all : Sl} (hasc : Asc ws) (hwl : ws.length = ys.length) (hnd : ys.Nodup) (hin : ∀ s ∈ ys, s < 258) (hrn : rs.length ≤ 15) :
    ∀ (k i : Nat) {w : World} {F : List HP} {f : Nat → Nat} {K : Array Value → World → Prop} (_ : Hp E w F) (_ : Tells F (SlT 1 all (rs.flatMap gSl))) (_ : RowsOkR ys ws rs F) (_ : k < rs.length) (_ : i < (row ws k).length) (_ : ∀ j, j < ys.length → f j + cov ws k i j ≤ 255)
      (_ : ∀ w', Hp E w' F → K (ai .u8 (plc ys fun j => f j + cov ws k i j)) w'),
      Cl Try.prog [.arr 258] n_ref07_count ⟨[.agg (ai .u8 (plc ys f)), .slice all.base all.len all.cap, .int .i64 (k : Int), .int .i64 (i : Int)]⟩ w K := by
  intro k
  induction k with
  | zero =>
    intro i w F f K h hall hrs hk hi hb hK
    refine ref07_count.ok _ _ _ _ _ _ ?_
    unfold ref07_count.E
    rw [ai_zero]
    refine Nw.mk h fun b6 w1 h1 => Nw.mk h1 fun b8 w2 h2 => ?_
    refine Idx.el (n := 0) gSl_len (by decide) (h2.drop.drop.tells hall) rfl hk fun p hp => ?_
    refine Ld.sc (s := .sl) rs[0] (by have := hp 0 (by decide); rw [add_zero] at this; rw [this]; rfl) ?_
    have hr := hrs 0 hk
    refine Idx.el (n := i) cR_len (by decide) (h2.drop.drop.tells hr.1) rfl (by rw [lab_len]; exact hi) fun q hq => ?_
    have hi' : i < ws.length := by rw [row, lv0_len] at hi; exact hi
    have hx := lab_get ys (row ws 0) hi
    have h0 : (row ws 0)[i].2 = true := by simp [row, lv0]
    rw [if_pos h0, (row_cut0 i (by omega)).1] at hx
    rw [hx] at hq
    refine Ld.st (ks := RK) (tR ⟨(row ws 0)[i].1, (ys.getD i 0 : Int), 0, 0⟩) (fun j hj => hq j hj) ?_
    refine Nw.mk h2 fun b14 w3 h3 => StC.blk h3 rfl (cR_sc ⟨(row ws 0)[i].1, (ys.getD i 0 : Int), 0, 0⟩) fun w4 h4 => ?_
    rw [add_mk]
    refine Ld.blk h4 (ys.getD i 0 : Int) rfl (IfB.t (decide_eq_true (by omega)) ?_)
    refine Ld.blk h4 (ys.getD i 0 : Int) rfl ?_
    have hiy : i < ys.length := by omega
    rw [getD_at hiy]
    have hy := hin _ (List.getElem_mem hiy)
    have hcov : ∀ j, cov ws 0 i j = if j = i then 1 else 0 := fun j => rfl
    have hbi := hb i hiy
    rw [hcov, if_pos rfl] at hbi
    refine IdxP.rd (s := .int .u8) h4.p2 (by omega) (by omega) _ (getI (by rw [plc_len]; omega)) ?_
    refine IdxP.wr h4.p2 (by omega) (by omega) (by rw [ai_size, plc_len]) rfl fun w5 h5 => ?_
    rw [plc_get hnd hin hiy, u8_id (by omega), Int.toNat_natCast, show ((f i : Int) + 1) = ((f i + 1 : Nat) : Int) by omega, ai_set, plc_set hnd hiy] at h5
    have e : plc ys (fun j => if j = i then f i + 1 else f j) = plc ys (fun j => f j + cov ws 0 i j) := plc_congr fun j _ => by
      rw [hcov]
      by_cases hj : j = i
      · subst hj; rw [if_pos rfl, if_pos rfl]
      · rw [if_neg hj, if_neg hj]; rfl
    rw [e] at h5
    exact Ld.arr h5 (by rw [ai_size, plc_len]) (StA.blk h5.p2 (by rw [ai_size]; simp) (by rw [ai_size, plc_len]) ai_scalar fun w6 h6 => Ld.arr h6 (by rw [ai_size, plc_len]) (hK w6 h6.drop.drop.drop))
  | succ k ih =>
    intro i w F f K h hall hrs hk hi hb hK
    refine ref07_count.ok _ _ _ _ _ _ ?_
    unfold ref07_count.E
    rw [ai_zero]
    refine Nw.mk h fun b6 w1 h1 => Nw.mk h1 fun b8 w2 h2 => ?_
    refine Idx.el (n := k + 1) gSl_len (by decide) (h2.drop.drop.tells hall) rfl hk fun p hp => ?_
    refine Ld.sc (s := .sl) rs[k + 1] (by have := hp 0 (by decide); rw [add_zero] at this; rw [this]; rfl) ?_
    have hr := hrs (k + 1) hk
    refine Idx.el (n := i) cR_len (by decide) (h2.drop.drop.tells hr.1) rfl (by rw [lab_len]; exact hi) fun q hq => ?_
    have hx := lab_get ys (row ws (k + 1)) hi
    have hnx := leafs_next hi
    obtain ⟨c1, c2, c3, _, _⟩ := row_cut hasc k (i + 1) hi
    have hle := leafs_le ((row ws (k + 1)).take i)
    rw [List.length_take] at hle
    have hcov : ∀ j, cov ws (k + 1) i j = if (row ws (k + 1))[i].2 = true then (if j = leafs ((row ws (k + 1)).take i) then 1 else 0) else cov ws k (2 * (i - leafs ((row ws (k + 1)).take i))) j + cov ws k (2 * (i - leafs ((row ws (k + 1)).take i)) + 1) j := fun j => by
      rw [cov_succ, row_getD hi]
    generalize hqq : leafs ((row ws (k + 1)).take i) = m at *
    by_cases hlf : (row ws (k + 1))[i].2 = true
    · rw [if_pos hlf] at hx hnx
      rw [hx] at hq
      refine Ld.st (ks := RK) (tR ⟨(row ws (k + 1))[i].1, (ys.getD m 0 : Int), 0, 0⟩) (fun j hj => hq j hj) ?_
      refine Nw.mk h2 fun b14 w3 h3 => StC.blk h3 rfl (cR_sc ⟨(row ws (k + 1))[i].1, (ys.getD m 0 : Int), 0, 0⟩) fun w4 h4 => ?_
      rw [add_mk]
      refine Ld.blk h4 (ys.getD m 0 : Int) rfl (IfB.t (decide_eq_true (by omega)) ?_)
      refine Ld.blk h4 (ys.getD m 0 : Int) rfl ?_
      have hiy : m < ys.length := by omega
      rw [getD_at hiy]
      have hy := hin _ (List.getElem_mem hiy)
      have hbi := hb m hiy
      rw [hcov, if_pos hlf, if_pos rfl] at hbi
      refine IdxP.rd (s := .int .u8) h4.p2 (by omega) (by omega) _ (getI (by rw [plc_len]; omega)) ?_
      refine IdxP.wr h4.p2 (by omega) (by omega) (by rw [ai_size, plc_len]) rfl fun w5 h5 => ?_
      rw [plc_get hnd hin hiy, u8_id (by omega), Int.toNat_natCast, show ((f m : Int) + 1) = ((f m + 1 : Nat) : Int) by omega, ai_set, plc_set hnd hiy] at h5
      have e : plc ys (fun j => if j = m then f m + 1 else f j) = plc ys (fun j => f j + cov ws (k + 1) i j) := plc_congr fun j _ => by
        rw [hcov, if_pos hlf]
        by_cases hj : j = m
        · subst hj; rw [if_pos rfl, if_pos rfl]
        · rw [if_neg hj, if_neg hj]; rfl
      rw [e] at h5
      exact Ld.arr h5 (by rw [ai_size, plc_len]) (StA.blk h5.p2 (by rw [ai_size]; simp) (by rw [ai_size, plc_len]) ai_scalar fun w6 h6 => Ld.arr h6 (by rw [ai_size, plc_len]) (hK w6 h6.drop.drop.drop))
    · rw [if_neg hlf] at hx hnx
      rw [hx] at hq
      have hcov' : ∀ j, cov ws (k + 1) i j = cov ws k (2 * (i - m)) j + cov ws k (2 * (i - m) + 1) j := fun j => by rw [hcov, if_neg hlf]
      rw [hnx, show i + 1 - (m + 0) = i - m + 1 by omega] at c3
      refine Ld.st (ks := RK) (tR ⟨(row ws (k + 1))[i].1, -1, 2 * (i - m), 2 * (i - m) + 1⟩) (fun j hj => hq j hj) ?_
      refine Nw.mk h2 fun b14 w3 h3 => StC.blk h3 rfl (cR_sc ⟨(row ws (k + 1))[i].1, -1, 2 * (i - m), 2 * (i - m) + 1⟩) fun w4 h4 => ?_
      rw [add_mk, add_mk, add_mk]
      refine Ld.blk h4 (-1 : Int) rfl (IfB.f (by decide) ?_)
      have h4' : Hp E w4 (Blk b8 _ :: Blk b14 _ :: Blk b6 _ :: F) := h4.p1
      have hd : Hp E { w4 with drawn := w4.drawn + 1 } _ := h4'.drew
      refine ⟨HasF E (Blk b14 (.cells ⟨cR ⟨(row ws (k + 1))[i].1, -1, 2 * (i - m), 2 * (i - m) + 1⟩⟩ 78 (0, 0)) :: Blk b6 (.cells (ai .u8 (plc ys f)) 23 (0, 0)) :: F), HasF.mk1 hd, ?_⟩
      refine LdS.arrBlk (fun w2 h2 => h2.front2) (by rw [ai_size, plc_len]) ?_
      refine LdS.blk (s := .int .i64) (fun w2 h2 => h2.front) ((2 * (i - m) : Nat) : Int) rfl ?_
      refine LdS.blk (s := .int .i64) (fun w2 h2 => h2.front) ((2 * (i - m) + 1 : Nat) : Int) rfl ?_
      rw [show i64 (((k + 1 : Nat) : Int) - 1) = (k : Int) by rw [i64_id (by omega)]; omega]
      refine ih (2 * (i - m)) hd (hall.cons.cons.cons) (hrs.imp fun φ h => h.cons.cons.cons) (by omega) (by omega) (fun j hj => by have := hb j hj; rw [hcov'] at this; omega) fun w5 h5 => ⟨HasF.mk1 h5, ?_⟩
      refine ih (2 * (i - m) + 1) (f := fun j => f j + cov ws k (2 * (i - m)) j) h5 (hall.cons.cons.cons) (hrs.imp fun φ h => h.cons.cons.cons) (by omega) (by omega) (fun j hj => by have := hb j hj; rw [hcov'] at this; omega) fun w6 h6 => ⟨HasF.mk1 h6, ?_⟩
      have e : plc ys (fun j => f j + cov ws k (2 * (i - m)) j + cov ws k (2 * (i - m) + 1) j) = plc ys (fun j => f j + cov ws (k + 1) i j) := plc_congr fun j _ => by rw [hcov']; omega
      rw [e]
      exact StA.blk h6 (by rw [ai_size]; simp) (by rw [ai_size, plc_len]) ai_scalar fun w7 h7 => ⟨HasF.mk1 h7, Ld.arr h7 (by rw [ai_size, plc_len]) (hK w7 h7.drop.drop.drop)⟩
theorem over_mono {m n : Nat} (h : m ≤ n) (f : Nat → Nat) : over m f ≤ over n f := by
  induction n with
  | zero => have : m = 0 := by omega
            subst this; exact Nat.le_refl _
  | succ n ih =>
    rw [over_succ]
    by_cases e : m = n + 1
    · subst e; rw [over_succ]; exact Nat.le_refl _
    · have := ih (by omega); omega
theorem fin2_c {b b2 : Nat} {t t2 : TypeId} {l l2 : List Nat} {K : Array Value → World → Prop} (h : Hp E w (Blk b (.cells (ai .u8 l) t (0, 0)) :: Blk b2 (.cells (ai .u8 l2) t2 (0, 0)) :: F)) (hl : l.length = 258) (hl2 : l2.length = 258) (hK : ∀ w', Hp E w' (Blk b2 (.cells (ai .u8 l) t2 (0, 0)) :: Blk b (.cells (ai .u8 l) t (0, 0)) :: F) → K (ai .u8 l) w') :
    Ld (.arr 258) ⟨b, 0, none⟩ w fun x => StA 258 ⟨b2, 0, none⟩ x w fun w2 => Ld (.arr 258) ⟨b2, 0, none⟩ w2 fun r => K r w2 :=
  Ld.arr h (by rw [ai_size, hl]) (StA.blk h.p1 (by rw [ai_size, hl2]) (by rw [ai_size, hl]) ai_scalar fun w2 h2 => Ld.arr h2 (by rw [ai_size, hl]) (hK w2 h2))
set_option maxRecDepth 20000 in
theorem rLengths_c {t : List Int} {L : Int} {K : Array Value → Int → World → Prop} (h : Hp E w F) (hl : t.length = 258)
    (hK1 : (validT t = false ∨ L < 1 ∨ 15 < L ∨ ∃ l, t = ints l ∧ (2 : Int) ^ L.toNat < (used l).length) → ∀ w', Hp E w' F → K (ai .u8 (List.replicate 258 0)) 2 w')
    (hK2 : ∀ l ys w', t = ints l → MaxT l → IsOrd l ys → 1 ≤ L → L ≤ 15 → ys.length ≤ 2 ^ L.toNat → Hp E w' F → K (ai .u8 (plc ys (lenOf (wsOf l ys) L.toNat))) 0 w') :
    Cl Try.prog [.arr 258, kI] n_ref07_Lengths ⟨[.agg (aT t), .int .i64 L]⟩ w K := by
  refine ref07_Lengths.ok _ _ _ _ ?_
  unfold ref07_Lengths.E
  rw [ai_zero]
  simp only [Join_eq]
  have hz : (List.replicate 258 0).length = 258 := List.length_replicate
  refine Nw.mk h fun b4 w1 h1 => Nw.mk h1 fun b6 w2 h2 => Nw.mk h2 fun b8 w3 h3 => Ld.arr h3.p2 (by rw [aT_size, hl]) (rOrder_c h3 hl (fun hv w4 h4 => ?_) (fun l hte hm hll ys s w4 hys h4 => ?_))
  · exact Ld.arr h4.p2 (by rw [aT_size, hl]) (rValid_c h4 hl fun w5 h5 => IfB.t (by rw [hv]; rfl) (fin2_c h5 hz hz fun w6 h6 => hK1 (.inl hv) w6 h6.drop.drop.drop))
  · subst hte
    have hlen := ord_le hll hys
    have hin := ord_in hll hys
    have hsl : s.len = ys.length := by
      have := (h4.tells Tells.own).1
      simp only [List.length_map, ints, Nat.mul_one] at this
      exact this.symm
    refine Ld.arr h4.p3 (by rw [aT_size, hl]) (rValid_c h4 hl fun w5 h5 => IfB.f (by rw [ints_valid hm]; rfl) ?_)
    have h5 : Hp E w5 (Blk b8 _ :: Blk b6 _ :: OwnS 1 s _ :: Blk b4 _ :: F) := h5.q2
    refine IfB.mk (fun hlt => fin2_c h5 hz hz fun w6 h6 => hK1 (.inr (.inl (of_decide_eq_true hlt))) w6 h6.drop.drop.drop.drop) (fun hge => ?_)
    have hge := of_decide_eq_false hge
    refine IfB.mk (fun hgt => fin2_c h5 hz hz fun w6 h6 => hK1 (.inr (.inr (.inl (by have := of_decide_eq_true hgt; omega)))) w6 h6.drop.drop.drop.drop) (fun hle => ?_)
    have hle := of_decide_eq_false hle
    obtain ⟨N, rfl⟩ := Int.eq_ofNat_of_zero_le (show 0 ≤ L by omega)
    have hN : N ≤ 15 := by omega
    have hN1 : 1 ≤ N := by omega
    obtain ⟨e1, e2⟩ := shl_one hN
    rw [e1]
    refine ⟨e2, IfB.mk (fun hgt => fin2_c h5 hz hz fun w6 h6 => hK1 (.inr (.inr (.inr ⟨l, rfl, ?_⟩))) w6 h6.drop.drop.drop.drop) (fun hle2 => ?_)⟩
    · have hgt := of_decide_eq_true hgt
      rw [Int.toNat_natCast, ← hys.1.length_eq, ← hsl]
      rw [show (2 : Int) ^ N = ((2 ^ N : Nat) : Int) by norm_cast]
      exact hgt
    have hle2 : ys.length ≤ 2 ^ N := by have := of_decide_eq_false hle2; omega
    have hasc := ord_asc hys
    have hwl : (wsOf l ys).length = ys.length := List.length_map _
    have hnd := ord_nodup hys
    have hin2 : ∀ s ∈ ys, s < 258 := fun s hs => (hin s hs).1
    have fine : ∀ w', Hp E w' F → K (ai .u8 (plc ys (lenOf (wsOf l ys) N))) 0 w' := fun w' h' => hK2 l ys w' rfl hm hys (by omega) (by omega) (by rw [Int.toNat_natCast]; exact hle2) h'
    rw [← plc_zero ys] at h5
    refine IfB.mk (fun h1 => ?_) (fun h1 => ?_)
    · have h1 : ys.length = 1 := by have : (s.len : Int) = 1 := by simpa using h1
                                    omega
      refine rdT (i := 0) (h5.p2.tells Tells.own) (by omega) ?_
      have hx := hin2 _ (List.getElem_mem (show 0 < ys.length by omega))
      refine IdxP.wr h5 (by omega) (by omega) (by rw [ai_size, plc_len]) rfl fun w6 h6 => ?_
      rw [Int.toNat_natCast] at h6
      have e := ai_set (k := .u8) (l := plc ys fun _ => 0) (i := ys[0]) (x := 1)
      rw [show (Value.int .u8 1) = .int .u8 ((1 : Nat) : Int) from rfl, e, plc_set hnd (by omega)] at h6
      have e3 : plc ys (fun j => if j = 0 then 1 else 0) = plc ys (lenOf (wsOf l ys) N) := plc_congr fun i hi => by
        have : i = 0 := by omega
        subst this
        unfold lenOf
        rw [if_pos rfl, if_pos (by omega)]
      rw [e3] at h6
      exact fin2_c h6 (plc_len ..) (plc_len ..) fun w7 h7 => fine w7 h7.drop.drop.drop.drop
    · have h1 : ys.length ≠ 1 := by
        intro e
        have : ¬ (s.len : Int) = 1 := by simpa using h1
        omega
      rw [aT_ints] at h5
      refine Ld.arr h5.p3 (by rw [ai_size, hll]) (rows_c h5 hll hm hN1 hN hys fun out rs G w6 hrN hrs h6 => ?_)
      have h7 := (h6.perm (List.Perm.cons _ List.perm_middle)).p1
      have hcl : ∀ i, i < ys.length → lenOf (wsOf l ys) N i = lv (wsOf l ys) (N - 1) (2 * ys.length - 2) i := fun i _ => by
        unfold lenOf
        rw [if_neg (by omega), hwl]
      have hrow : ys.length ≠ 0 → 2 * ys.length - 2 ≤ (row (wsOf l ys) (N - 1)).length := fun _ => by
        rw [← hwl]
        exact row_enough (N - 1) (by rw [hwl, show N - 1 + 1 = N by omega]; exact hle2)
      rw [i64_id (x := 2 * (s.len : Int)) (by omega), i64_id (x := 2 * (s.len : Int) - 2) (by omega), show i64 ((N : Int) - 1) = ((N - 1 : Nat) : Int) by rw [i64_id (by omega)]; omega]
      refine ⟨fun i w' => ∃ k : Nat, i = (k : Int) ∧ (k = 0 ∨ k ≤ 2 * ys.length - 2) ∧ Hp E w' (Blk b8 (.cells (ai .u8 (plc ys fun j => over k fun i => cov (wsOf l ys) (N - 1) i j)) 23 (0, 0)) :: OwnS 1 out (rs.flatMap gSl) :: (G ++ (Blk b6 (.cells (ai .u8 (plc ys fun _ => 0)) 23 (0, 0)) :: OwnS 1 s ((ints ys).map vI) :: Blk b4 (.cells (ai .i64 l) 39 (0, 0)) :: F))),
        fun i _ => 2 * ys.length - i.toNat, ⟨0, rfl, .inl rfl, h7⟩, ?_⟩
      rintro i w8 ⟨k, rfl, hk, hh⟩
      refine IfB.mk (fun hlt => ?_) (fun hge => ?_)
      · have hlt : k + 2 < 2 * ys.length := by have := of_decide_eq_true hlt; omega
        have hr := hrow (by omega)
        refine Ld.arr hh (by rw [ai_size, plc_len]) ?_
        refine count_c hasc hwl hnd hin2 (by omega) (N - 1) k hh (Tells.cons Tells.own) (hrs.imp fun φ h => h.appL.cons.cons) (by omega) (by omega) (fun j hj => ?_) fun w9 h9 => ?_
        · have h1 := over_mono (show k + 1 ≤ 2 * ys.length - 2 by omega) fun i => cov (wsOf l ys) (N - 1) i j
          rw [over_cov hasc j (N - 1) _ hr, over_succ] at h1
          have := lv_le (wsOf l ys) (N - 1) (2 * ys.length - 2) j
          omega
        · refine StA.blk h9 (by rw [ai_size, plc_len]) (by rw [ai_size, plc_len]) ai_scalar fun w10 h10 => ?_
          rw [i64_id (by omega)]
          refine ⟨⟨k + 1, rfl, .inr (by omega), ?_⟩, by dsimp only; omega⟩
          have e : plc ys (fun j => over (k + 1) fun i => cov (wsOf l ys) (N - 1) i j) = plc ys (fun j => (over k fun i => cov (wsOf l ys) (N - 1) i j) + cov (wsOf l ys) (N - 1) k j) := plc_congr fun j _ => over_succ ..
          rw [e]; exact h10
      · have hge : ¬ k + 2 < 2 * ys.length := by have := of_decide_eq_false hge; omega
        have e : plc ys (fun j => over k fun i => cov (wsOf l ys) (N - 1) i j) = plc ys (lenOf (wsOf l ys) N) := plc_congr fun j hj => by
          have hr := hrow (by omega)
          have : k = 2 * ys.length - 2 := by omega
          rw [hcl j hj, ← over_cov hasc j (N - 1) _ hr, this]
        rw [e] at hh
        have hh2 := (hh.perm (List.Perm.cons _ (List.Perm.cons _ List.perm_middle))).perm (List.Perm.cons _ (List.Perm.swap ..))
        exact fin2_c hh2 (plc_len ..) (plc_len ..) fun w9 h9 => fine w9 h9.drop.drop.drop.dropL.drop.drop
end
end Go.Proofs.Ytcidpcahgkngjaa
