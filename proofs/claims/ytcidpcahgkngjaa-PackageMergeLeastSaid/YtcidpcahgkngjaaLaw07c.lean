/-
  What the laws PackageMergeLimit and PackageMergeTurned answer. Conditions: as each theorem states.
-/
import Derived.Test.YtcidpcahgkngjaaLaw07b
namespace Go.Srt
open Go.Pm
theorem getD_map2 (u : List Nat) (s : Nat) : (u.map (2 * ·)).getD s 0 = 2 * u.getD s 0 := by
  rw [List.getD_eq_getElem?_getD, List.getElem?_map, List.getD_eq_getElem?_getD]
  cases u[s]? <;> rfl
theorem used_dbl (u : List Nat) : used (u.map (2 * ·)) = used u := by
  unfold used
  rw [List.length_map]
  refine List.filter_congr fun s _ => ?_
  rw [getD_map2, decide_eq_decide]; omega
theorem ord_dbl {u ys : List Nat} (h : IsOrd u ys) : IsOrd (u.map (2 * ·)) ys := by
  refine ⟨by rw [used_dbl]; exact h.1, h.2.imp fun {a b} hab => ?_⟩
  rw [getD_map2, getD_map2]; omega
theorem wsOf_dbl (u ys : List Nat) : wsOf (u.map (2 * ·)) ys = (wsOf u ys).map (2 * ·) := by
  unfold wsOf
  rw [List.map_map]
  exact List.map_congr_left fun s _ => getD_map2 u s
theorem ws_perm {u ys : List Nat} (h : IsOrd u ys) : (wsOf u ys).Perm (u.filter fun x => decide (0 < x)) := by
  refine (h.1.map _).trans (List.Perm.of_eq ?_)
  have e : u = (List.range u.length).map fun s => u.getD s 0 := by
    refine List.ext_getElem (by simp) fun i h1 h2 => ?_
    simp [h1]
  conv => rhs; rw [e, List.filter_map]
  rfl
theorem filter_set {u : List Nat} {i c : Nat} (hi : i < u.length) (h0 : u[i] = 0) (hc : 0 < c) : ((u.set i c).filter fun x => decide (0 < x)).Perm (c :: u.filter fun x => decide (0 < x)) := by
  have e1 : u = u.take i ++ 0 :: u.drop (i + 1) := by
    conv => lhs; rw [← List.take_append_drop i u, List.drop_eq_getElem_cons hi, h0]
  have e2 : u.set i c = u.take i ++ c :: u.drop (i + 1) := List.set_eq_take_append_cons_drop.trans (if_pos hi)
  rw [e2]
  conv => rhs; rw [e1]
  rw [List.filter_append, List.filter_append, List.filter_cons_of_pos (by simpa using hc), List.filter_cons_of_neg (by simp)]
  exact List.perm_middle
theorem ws_len {u ys : List Nat} (h : IsOrd u ys) : ys.length = (u.filter fun x => decide (0 < x)).length := by
  rw [← (ws_perm h).length_eq]; exact (List.length_map _).symm
end Go.Srt
namespace Go.Proofs.Ytcidpcahgkngjaa
open Go Go.Vc Go.Srt Go.Pm
section
variable {E w : World} {F : List HP}
theorem ints_map2 (u : List Nat) : (ints u).map (2 * ·) = ints (u.map (2 * ·)) := by
  unfold ints
  rw [List.map_map, List.map_map]
  refine List.map_congr_left fun x _ => ?_
  simp
theorem aT_set {t : List Int} {i : Nat} {x : Int} : (aT t).setIfInBounds i (.int .i64 x) = aT (t.set i x) := by
  unfold aT
  apply Array.ext'
  simp [List.map_set, vI]
theorem ints_set {u : List Nat} {i x : Nat} : (ints u).set i (x : Int) = ints (u.set i x) := by
  unfold ints
  rw [List.map_set]
theorem mid5 {A B C D G : HP} (h : HasF E (A :: B :: C :: D :: G :: F) w) : ∃ H, Hp E w (G :: H) := by
  obtain ⟨l, h⟩ := h
  exact front4 (A := B) (F := F) ⟨l ++ [A], by rw [List.append_assoc]; exact h⟩
theorem mid6 {A B C D G I : HP} (h : HasF E (A :: B :: C :: D :: G :: I :: F) w) : ∃ H, Hp E w (I :: H) := by
  obtain ⟨l, h⟩ := h
  exact mid5 (A := B) (F := F) ⟨l ++ [A], by rw [List.append_assoc]; exact h⟩
set_option maxRecDepth 20000 in
theorem pmLimit_law {t : List Int} {a b : Int} {K : Bool → World → Prop} (h : Hp E w F) (ht : t.length = 258) (hK : ∀ w', Hp E w' F → K true w') :
    Cl Try.prog [kB] n_law07_PackageMergeLimit ⟨[.agg (aT t), .int .i64 a, .int .i64 b]⟩ w K := by
  refine law07_PackageMergeLimit.ok _ _ _ _ _ ?_
  unfold law07_PackageMergeLimit.E
  have hz : ∀ {v : Value}, (⟨List.replicate 258 v⟩ : Array Value).size = 258 := fun {v} => by simp
  have hT : (aT t).size = 258 := by rw [aT_size, ht]
  refine Nw.mk h fun b5 w1 h1 => Nw.mk h1 fun b7 w2 h2 => ?_
  refine ⟨fun i w' => ∃ k : Nat, i = (k : Int) ∧ k ≤ 258 ∧ (∀ s (hs : s < t.length), s < k → 0 ≤ t[s] ∧ t[s] ≤ 1073741823) ∧ Hp E w' (Blk b7 (.cells (aT ((t.take k).map (2 * ·) ++ List.replicate (258 - k) 0)) 39 (0, 0)) :: Blk b5 (.cells (aT t) 39 (0, 0)) :: F), fun i _ => 258 - i.toNat, ⟨0, rfl, by omega, fun s _ hs => by omega, ?_⟩, ?_⟩
  · have e : (⟨List.replicate 258 (.int .i64 0)⟩ : Array Value) = aT ((t.take 0).map (2 * ·) ++ List.replicate (258 - 0) 0) := by simp [aT, vI]
    rw [← e]; exact h2
  rintro i w3 ⟨k, rfl, hk, hb, hh⟩
  refine IfB.mk (fun hlt => ?_) (fun hge => ?_)
  · have hlt : k < 258 := by have := of_decide_eq_true hlt; omega
    have hkl : k < t.length := by omega
    have hx : (aT t)[((k : Nat) : Int).toNat]? = some (Sc.enc (.int .i64) t[k]) := by rw [Int.toNat_natCast]; exact aT_get hkl
    refine IdxP.rd (s := .int .i64) hh.p1 (by omega) (by omega) _ hx ?_
    refine IfB.mk (fun _ => wakes07_c hh fun w' h' => hK w' h'.drop.drop) (fun hn => ?_)
    have hn := of_decide_eq_false hn
    refine IdxP.rd (s := .int .i64) hh.p1 (by omega) (by omega) _ hx ?_
    refine IfB.mk (fun _ => wakes07_c hh fun w' h' => hK w' h'.drop.drop) (fun hn2 => ?_)
    have hn2 := of_decide_eq_false hn2
    refine IdxP.rd (s := .int .i64) hh.p1 (by omega) (by omega) _ hx ?_
    refine IdxP.wr hh (by omega) (by omega) (by rw [aT_size]; simp; omega) rfl fun w4 h4 => ?_
    rw [Int.toNat_natCast, aT_set, i64_id (x := 2 * t[k]) (by omega)] at h4
    rw [i64_id (by omega)]
    refine ⟨⟨k + 1, rfl, by omega, fun s hs hsk => ?_, ?_⟩, by dsimp only; omega⟩
    · by_cases e : s = k
      · subst e; omega
      · exact hb s hs (by omega)
    · have hlen : ((t.take k).map (2 * ·)).length = k := by rw [List.length_map, List.length_take]; omega
      have e : ((t.take k).map (2 * ·) ++ List.replicate (258 - k) 0).set k (2 * t[k]) = (t.take (k + 1)).map (2 * ·) ++ List.replicate (258 - (k + 1)) 0 := by
        have e1 : List.replicate (258 - k) (0 : Int) = 0 :: List.replicate (258 - (k + 1)) 0 := by
          rw [show 258 - k = (258 - (k + 1)) + 1 by omega, List.replicate_succ]
        have e2 := set_at ((t.take k).map (2 * ·)) (List.replicate (258 - (k + 1)) (0 : Int)) 0 (2 * t[k])
        rw [hlen] at e2
        rw [e1, e2, List.take_add_one, List.map_append, List.getElem?_eq_getElem hkl, List.append_assoc]
        rfl
      rw [← e]; exact h4
  · have hge : k = 258 := by have := of_decide_eq_false hge; omega
    subst hge
    rw [List.take_of_length_le (by omega)] at hh
    simp only [Nat.sub_self, List.replicate_zero, List.append_nil] at hh
    have hval : validT t = true := List.all_eq_true.2 fun x hx => by
      obtain ⟨s, hs, rfl⟩ := List.getElem_of_mem hx
      have := hb s hs (by omega)
      simp; omega
    obtain ⟨u, rfl, hm⟩ := valid_ints hval
    have hu : u.length = 258 := by rw [ints_len] at ht; exact ht
    have hu2 : (u.map (2 * ·)).length = 258 := by rw [List.length_map, hu]
    have hm2 : MaxT (u.map (2 * ·)) := by
      intro y hy
      obtain ⟨x, hx, rfl⟩ := List.mem_map.1 hy
      obtain ⟨s, hs, rfl⟩ := List.getElem_of_mem hx
      have := hb s (by rw [ints_len]; exact hs) (by omega)
      have e : (ints u)[s]'(by rw [ints_len]; exact hs) = (u[s] : Int) := by simp [ints]
      rw [e] at this
      omega
    rw [ints_map2] at hh
    have hT2 : (aT (ints (u.map (2 * ·)))).size = 258 := by rw [aT_size, ints_len, hu2]
    refine Ld.arr hh.p1 hT ?_
    have wk : ∀ {l : List HP} {w' : World}, Hp E w' (l ++ F) → Cl Try.prog [kB] n_law07_wakes ⟨[]⟩ w' K := fun h' => wakes07_c h' fun w6 h6 => hK w6 h6.dropL
    have hz8 : (ai .u8 zero8).size = 258 := by rw [ai_size, zero8_len]
    have second : ∃ (res : List Nat) (e : Int), res.length = 258 ∧ (e = 0 → ∃ ys N, GoodL (ints u) b u ys N ∧ res = lensOf u ys N) ∧
        (∀ {E w : World} {F : List HP} {K : Array Value → Int → World → Prop}, Hp E w F → (∀ w', Hp E w' F → K (ai .u8 res) e w') → Cl Try.prog [.arr 258, kI] n_packagemerge_Lengths ⟨[.agg (aT (ints u)), .int .i64 b]⟩ w K) := by
      rcases caseL ht b with hbb | ⟨u', ys, N, hg⟩
      · exact ⟨zero8, 2, zero8_len, fun h => (by cases h), fun h hK => pmLen_bad hbb ht h hK⟩
      · obtain rfl := ints_inj hg.eq
        exact ⟨lensOf u ys N, 0, lensOf_len .., fun _ => ⟨ys, N, hg, rfl⟩, fun h hK => pmLen_ok hg h hK⟩
    obtain ⟨m, f, hml, hmg, pm2⟩ := second
    rcases caseL ht a with hba | ⟨u', ys, N, hg⟩
    · have hba2 : BadL (ints (u.map (2 * ·))) a := by
        rcases hba with h | h | h | ⟨v, ys, h, h1, h2⟩
        · rw [hval] at h; cases h
        · exact .inr (.inl h)
        · exact .inr (.inr (.inl h))
        · obtain rfl := ints_inj h
          exact .inr (.inr (.inr ⟨_, ys, rfl, ord_dbl h1, h2⟩))
      refine pmLen_bad hba ht hh fun w5 h5 => Nw.mk h5 fun b29 w6 h6 => StA.blk h6 hz hz8 ai_scalar fun w7 h7 => Ld.arr h7.p2 hT (pm2 h7 fun w8 h8 => ?_)
      refine Nw.mk h8 fun b36 w9 h9 => StA.blk h9 hz (by rw [ai_size, hml]) ai_scalar fun w10 h10 => Ld.arr h10.p2 hT2 (pmLen_bad hba2 (by rw [ints_len, hu2]) h10 fun w11 h11 => ?_)
      refine Nw.mk h11 fun b43 w12 h12 => StA.blk h12 hz hz8 ai_scalar fun w13 h13 => IfB.f (by decide) (Ld.arr h13.p2 hz8 (Ld.arr h13 hz8 (EqA.mk zero8_len zero8_len (IfB.f (by simp) (IfB.t (by decide) ?_)))))
      exact wk (l := [_, _, _, _, _]) h13
    · obtain rfl := ints_inj hg.eq
      have hg2 : GoodL (ints (u.map (2 * ·))) a (u.map (2 * ·)) ys N := ⟨rfl, hm2, hu2, ord_dbl hg.ord, hg.lim, hg.one, hg.top, hg.few⟩
      have hsame : lensOf (u.map (2 * ·)) ys N = lensOf u ys N := by
        unfold lensOf
        rw [wsOf_dbl]
        exact plc_congr fun i _ => lenOf_dbl ..
      have hls : (ai .u8 (lensOf u ys N)).size = 258 := by rw [ai_size, lensOf_len]
      have hms : (ai .u8 m).size = 258 := by rw [ai_size, hml]
      refine pmLen_ok hg hh fun w5 h5 => Nw.mk h5 fun b29 w6 h6 => StA.blk h6 hz hls ai_scalar fun w7 h7 => Ld.arr h7.p2 hT (pm2 h7 fun w8 h8 => ?_)
      refine Nw.mk h8 fun b36 w9 h9 => StA.blk h9 hz hms ai_scalar fun w10 h10 => Ld.arr h10.p2 hT2 (pmLen_ok hg2 h10 fun w11 h11 => ?_)
      rw [hsame]
      refine Nw.mk h11 fun b43 w12 h12 => StA.blk h12 hz hls ai_scalar fun w13 h13 => IfB.f (by decide) (Ld.arr h13.p2 hls (Ld.arr h13 hls (EqA.mk (lensOf_len ..) (lensOf_len ..) (IfB.f (by simp) (IfB.f (by decide) ?_)))))
      refine IfB.mk (fun _ => wk (l := [_, _, _, _, _]) h13) (fun hf => ?_)
      have hf : f = 0 := by simpa using hf
      obtain ⟨zs, M, hgb, rfl⟩ := hmg hf
      obtain rfl := ord_same hg.ord hgb.ord
      have h14 : Hp E w13 (Blk b36 _ :: Blk b29 _ :: Blk b7 _ :: Blk b5 _ :: F) := h13.drop
      have hd : Hp E { w13 with drawn := w13.drawn + 1 } _ := h14.drew
      have e1 := hg.total
      have e2 := hgb.total
      have hla := hg.lim
      have hlb := hgb.lim
      have tot : ∀ {K : Int → Int → World → Prop} {w'}, Hp E w' (Blk b36 (.cells (ai .u8 (lensOf u ys M)) 23 (0, 0)) :: Blk b29 (.cells (ai .u8 (lensOf u ys N)) 23 (0, 0)) :: Blk b7 (.cells (aT (ints (u.map (2 * ·)))) 39 (0, 0)) :: Blk b5 (.cells (aT (ints u)) 39 (0, 0)) :: F) →
          (∀ w'', Hp E w'' (Blk b36 (.cells (ai .u8 (lensOf u ys M)) 23 (0, 0)) :: Blk b29 (.cells (ai .u8 (lensOf u ys N)) 23 (0, 0)) :: Blk b7 (.cells (aT (ints (u.map (2 * ·)))) 39 (0, 0)) :: Blk b5 (.cells (aT (ints u)) 39 (0, 0)) :: F) → K (best (wsOf u ys) N : Int) (best (wsOf u ys) M : Int) w'') →
          LdS (.arr 258) ⟨b5, 0, none⟩ (HasF E (Blk b36 (.cells (ai .u8 (lensOf u ys M)) 23 (0, 0)) :: Blk b29 (.cells (ai .u8 (lensOf u ys N)) 23 (0, 0)) :: Blk b7 (.cells (aT (ints (u.map (2 * ·)))) 39 (0, 0)) :: Blk b5 (.cells (aT (ints u)) 39 (0, 0)) :: F)) fun x56 =>
          LdS (.arr 258) ⟨b29, 0, none⟩ (HasF E (Blk b36 (.cells (ai .u8 (lensOf u ys M)) 23 (0, 0)) :: Blk b29 (.cells (ai .u8 (lensOf u ys N)) 23 (0, 0)) :: Blk b7 (.cells (aT (ints (u.map (2 * ·)))) 39 (0, 0)) :: Blk b5 (.cells (aT (ints u)) 39 (0, 0)) :: F)) fun x57 =>
          LdS (.arr 258) ⟨b5, 0, none⟩ (HasF E (Blk b36 (.cells (ai .u8 (lensOf u ys M)) 23 (0, 0)) :: Blk b29 (.cells (ai .u8 (lensOf u ys N)) 23 (0, 0)) :: Blk b7 (.cells (aT (ints (u.map (2 * ·)))) 39 (0, 0)) :: Blk b5 (.cells (aT (ints u)) 39 (0, 0)) :: F)) fun x58 =>
          LdS (.arr 258) ⟨b36, 0, none⟩ (HasF E (Blk b36 (.cells (ai .u8 (lensOf u ys M)) 23 (0, 0)) :: Blk b29 (.cells (ai .u8 (lensOf u ys N)) 23 (0, 0)) :: Blk b7 (.cells (aT (ints (u.map (2 * ·)))) 39 (0, 0)) :: Blk b5 (.cells (aT (ints u)) 39 (0, 0)) :: F)) fun x59 =>
          Cl Try.prog [kI] n_packagemerge_Total ⟨[.agg x56, .agg x57]⟩ w' fun r61 w_60 =>
          HasF E (Blk b36 (.cells (ai .u8 (lensOf u ys M)) 23 (0, 0)) :: Blk b29 (.cells (ai .u8 (lensOf u ys N)) 23 (0, 0)) :: Blk b7 (.cells (aT (ints (u.map (2 * ·)))) 39 (0, 0)) :: Blk b5 (.cells (aT (ints u)) 39 (0, 0)) :: F) w_60 ∧
          Cl Try.prog [kI] n_packagemerge_Total ⟨[.agg x58, .agg x59]⟩ w_60 fun r63 w_62 =>
          HasF E (Blk b36 (.cells (ai .u8 (lensOf u ys M)) 23 (0, 0)) :: Blk b29 (.cells (ai .u8 (lensOf u ys N)) 23 (0, 0)) :: Blk b7 (.cells (aT (ints (u.map (2 * ·)))) 39 (0, 0)) :: Blk b5 (.cells (aT (ints u)) 39 (0, 0)) :: F) w_62 ∧ K r61 r63 w_62 := by
        intro K w' h' hK'
        refine LdS.arrBlk (fun w2 h2 => front4 h2) hT (LdS.arrBlk (fun w2 h2 => h2.front2) hls (LdS.arrBlk (fun w2 h2 => front4 h2) hT (LdS.arrBlk (fun w2 h2 => h2.front) hms ?_)))
        refine pmTot hm hu (lensOf_len ..) hg.bytes h' fun w3 h3 => ⟨HasF.mk h3, pmTot hm hu (lensOf_len ..) hgb.bytes h3 fun w4 h4 => ⟨HasF.mk h4, ?_⟩⟩
        rw [e1, e2]; exact hK' w4 h4
      have wkS : ∀ {w'}, Hp E w' (Blk b36 (.cells (ai .u8 (lensOf u ys M)) 23 (0, 0)) :: Blk b29 (.cells (ai .u8 (lensOf u ys N)) 23 (0, 0)) :: Blk b7 (.cells (aT (ints (u.map (2 * ·)))) 39 (0, 0)) :: Blk b5 (.cells (aT (ints u)) 39 (0, 0)) :: F) →
          Cl Try.prog [kB] n_law07_wakes ⟨[]⟩ w' fun r w'' => HasF E (Blk b36 (.cells (ai .u8 (lensOf u ys M)) 23 (0, 0)) :: Blk b29 (.cells (ai .u8 (lensOf u ys N)) 23 (0, 0)) :: Blk b7 (.cells (aT (ints (u.map (2 * ·)))) 39 (0, 0)) :: Blk b5 (.cells (aT (ints u)) 39 (0, 0)) :: F) w'' ∧ K r w'' :=
        fun h' => wakes07_c h' fun w6 h6 => ⟨HasF.mk h6, hK w6 h6.drop.drop.drop.drop⟩
      refine ⟨HasF E _, HasF.mk hd, ?_⟩
      refine IfB.mk (fun hgt => ?_) (fun hle => ?_)
      · have hgt := of_decide_eq_true hgt
        have hbl := best_limit (a := M) (b := N) (ord_asc hg.ord) hgb.one (by omega) (by rw [hg.wl]; exact hgb.few)
        exact IfB.f (decide_eq_false (by omega)) (tot hd fun w4 h4 => IfB.t (decide_eq_true (by omega)) (wkS h4))
      · have hle := of_decide_eq_false hle
        have hbl := best_limit (a := N) (b := M) (ord_asc hg.ord) hg.one (by omega) (by rw [hg.wl]; exact hg.few)
        refine tot hd fun w4 h4 => IfB.t (decide_eq_true (by omega)) (IfB.mk (fun _ => wkS h4) (fun hlt => ?_))
        have hlt := of_decide_eq_false hlt
        have : N = M := by omega
        exact tot h4 fun w5 h5 => IfB.t (decide_eq_true (by rw [this]; exact Int.le_refl _)) (wkS h5)
end
end Go.Proofs.Ytcidpcahgkngjaa
