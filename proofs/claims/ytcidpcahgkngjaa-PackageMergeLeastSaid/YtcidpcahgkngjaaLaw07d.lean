/-
  What the law PackageMergeTurned answers. Conditions: as each theorem states.
-/
import Derived.Test.YtcidpcahgkngjaaLaw07c
namespace Go.Srt
open Go.Pm
theorem maxT_perm {u v : List Nat} (h : v.Perm u) (hm : MaxT u) : MaxT v := fun x hx => hm x (h.mem_iff.1 hx)
theorem maxT_set {u : List Nat} {i c : Nat} (hm : MaxT u) (hc : c ≤ 2147483647) : MaxT (u.set i c) := fun x hx => by
  rcases List.mem_or_eq_of_mem_set hx with hx | rfl
  · exact hm x hx
  · exact hc
end Go.Srt
namespace Go.Proofs.Ytcidpcahgkngjaa
open Go Go.Vc Go.Srt Go.Pm
section
variable {E w : World} {F : List HP}
theorem pmTotN {u l : List Nat} {n : Nat} {K : Int → World → Prop} (hn : dotT u l 258 = n) (hm : MaxT u) (hu : u.length = 258) (hl : l.length = 258) (hlb : ∀ y ∈ l, y < 256) (h : Hp E w F) (hK : ∀ w', Hp E w' F → K (n : Int) w') : Cl Try.prog [kI] n_packagemerge_Total ⟨[.agg (aT (ints u)), .agg (ai .u8 l)]⟩ w K := by
  subst hn
  exact pmTot hm hu hl hlb h hK
set_option maxRecDepth 20000 in
/-- the end of the law: the totals are compared -/
theorem turned_fin {b7 b27 b33 b50 b54 : Nat} {u o v ys zs : List Nat} {L : Int} {N : Nat} {K : Bool → World → Prop} (hg : GoodL (ints u) L u ys N) (hgo : GoodL (ints o) L o zs N) (hws : wsOf o zs = wsOf u ys) (hv : v.length = 258) (hvm : MaxT v)
    (hle : ∀ vs, IsOrd v vs → vs.length ≤ 2 ^ N → best (wsOf u ys) N ≤ best (wsOf v vs) N)
    (h : Hp E w (Blk b54 (.cells (aT (ints v)) 39 (0, 0)) :: Blk b50 (.cells (ai .u8 (lensOf o zs N)) 23 (0, 0)) :: Blk b33 (.cells (aT (ints o)) 39 (0, 0)) :: Blk b27 (.cells (ai .u8 (lensOf u ys N)) 23 (0, 0)) :: Blk b7 (.cells (aT (ints u)) 39 (0, 0)) :: F)) (hK : ∀ w', Hp E w' F → K true w') :
    Ld (.arr 258) ⟨b54, 0, none⟩ w fun x60 =>
    Cl Try.prog [.arr 258, kI] n_packagemerge_Lengths ⟨[.agg x60, .int .i64 L]⟩ w fun r62 r63 w_61 =>
    Nw 23 ⟨List.replicate 258 (.int .u8 0)⟩ w_61 fun b65 w_64 =>
    StA 258 ⟨b65, 0, none⟩ r62 w_64 fun w_66 =>
    Held w_66 fun S67 w_68 =>
    IfB ((0 : Int) == 0)
    (LdS (.arr 258) ⟨b33, 0, none⟩ S67 fun x69 =>
    LdS (.arr 258) ⟨b50, 0, none⟩ S67 fun x70 =>
    LdS (.arr 258) ⟨b7, 0, none⟩ S67 fun x71 =>
    LdS (.arr 258) ⟨b27, 0, none⟩ S67 fun x72 =>
    Cl Try.prog [kI] n_packagemerge_Total ⟨[.agg x69, .agg x70]⟩ w_68 fun r74 w_73 =>
    S67 w_73 ∧
    Cl Try.prog [kI] n_packagemerge_Total ⟨[.agg x71, .agg x72]⟩ w_73 fun r76 w_75 =>
    S67 w_75 ∧
    IfB (r74 == r76)
    (IfB (r63 != 0)
    (Cl Try.prog [kB] n_law07_wakes ⟨[]⟩ w_75 fun r78 w_77 =>
    S67 w_77 ∧
    K r78 w_77)
    (LdS (.arr 258) ⟨b54, 0, none⟩ S67 fun x79 =>
    LdS (.arr 258) ⟨b65, 0, none⟩ S67 fun x80 =>
    LdS (.arr 258) ⟨b7, 0, none⟩ S67 fun x81 =>
    LdS (.arr 258) ⟨b27, 0, none⟩ S67 fun x82 =>
    Cl Try.prog [kI] n_packagemerge_Total ⟨[.agg x79, .agg x80]⟩ w_75 fun r84 w_83 =>
    S67 w_83 ∧
    Cl Try.prog [kI] n_packagemerge_Total ⟨[.agg x81, .agg x82]⟩ w_83 fun r86 w_85 =>
    S67 w_85 ∧
    IfB (decide (r84 ≥ r86))
    (Cl Try.prog [kB] n_law07_wakes ⟨[]⟩ w_85 fun r88 w_87 =>
    S67 w_87 ∧
    K r88 w_87)
    (K false w_85)))
    (K false w_75))
    (K false w_68) := by
  have hz : ∀ {v : Value}, (⟨List.replicate 258 v⟩ : Array Value).size = 258 := fun {v} => by simp
  have hz8 : (ai .u8 zero8).size = 258 := by rw [ai_size, zero8_len]
  have hT : ∀ {u : List Nat}, u.length = 258 → (aT (ints u)).size = 258 := fun hu => by rw [aT_size, ints_len, hu]
  have hL : ∀ {u ys : List Nat} {N : Nat}, (ai .u8 (lensOf u ys N)).size = 258 := by intros; rw [ai_size, lensOf_len]
  obtain ⟨n0, hn0⟩ : ∃ n0, best (wsOf u ys) N = n0 := ⟨_, rfl⟩
  have e1 := hg.total.trans hn0
  have e2 : dotT o (lensOf o zs N) 258 = n0 := by rw [hgo.total, hws, hn0]
  have hvi : (ints v).length = 258 := by rw [ints_len, hv]
  refine Ld.arr h (hT hv) ?_
  rcases caseL hvi L with hb | ⟨v', vs, M, hgv⟩
  · refine pmLen_bad hb hvi h fun w2 h2 => Nw.mk h2 fun b65 w3 h3 => StA.blk h3 hz hz8 ai_scalar fun w4 h4 => ?_
    have hd : Hp E { w4 with drawn := w4.drawn + 1 } _ := h4.drew
    refine ⟨HasF E _, HasF.mk hd, IfB.t rfl ?_⟩
    refine LdS.arrBlk (cs := aT (ints o)) (fun w2 h2 => front4 h2) (hT hgo.len) ?_
    refine LdS.arrBlk (cs := ai .u8 (lensOf o zs N)) (fun w2 h2 => front3 h2) hL ?_
    refine LdS.arrBlk (cs := aT (ints u)) (fun w2 h2 => mid6 h2) (hT hg.len) ?_
    refine LdS.arrBlk (cs := ai .u8 (lensOf u ys N)) (fun w2 h2 => mid5 h2) hL ?_
    refine pmTotN e2 hgo.max hgo.len (lensOf_len ..) hgo.bytes hd fun w5 h5 => ⟨HasF.mk h5, pmTotN e1 hg.max hg.len (lensOf_len ..) hg.bytes h5 fun w6 h6 => ⟨HasF.mk h6, IfB.t (beq_self_eq_true _) (IfB.t (by decide) ?_)⟩⟩
    exact wakes07_c h6 fun w7 h7 => ⟨HasF.mk h7, hK w7 h7.drop.drop.drop.drop.drop.drop⟩
  · obtain rfl := ints_inj hgv.eq
    have hNM : M = N := by have := hgv.lim; have := hg.lim; omega
    subst hNM
    obtain ⟨n1, hn1⟩ : ∃ n1, best (wsOf v vs) M = n1 := ⟨_, rfl⟩
    have e3 := hgv.total.trans hn1
    have hle2 : (n0 : Int) ≤ (n1 : Int) := Int.ofNat_le.2 (by rw [← hn0, ← hn1]; exact hle vs hgv.ord hgv.few)
    refine pmLen_ok hgv h fun w2 h2 => Nw.mk h2 fun b65 w3 h3 => StA.blk h3 hz hL ai_scalar fun w4 h4 => ?_
    have hd : Hp E { w4 with drawn := w4.drawn + 1 } _ := h4.drew
    refine ⟨HasF E _, HasF.mk hd, IfB.t rfl ?_⟩
    refine LdS.arrBlk (cs := aT (ints o)) (fun w2 h2 => front4 h2) (hT hgo.len) ?_
    refine LdS.arrBlk (cs := ai .u8 (lensOf o zs M)) (fun w2 h2 => front3 h2) hL ?_
    refine LdS.arrBlk (cs := aT (ints u)) (fun w2 h2 => mid6 h2) (hT hg.len) ?_
    refine LdS.arrBlk (cs := ai .u8 (lensOf u ys M)) (fun w2 h2 => mid5 h2) hL ?_
    refine pmTotN e2 hgo.max hgo.len (lensOf_len ..) hgo.bytes hd fun w5 h5 => ⟨HasF.mk h5, pmTotN e1 hg.max hg.len (lensOf_len ..) hg.bytes h5 fun w6 h6 => ⟨HasF.mk h6, IfB.t (beq_self_eq_true _) (IfB.f (by decide) ?_)⟩⟩
    refine LdS.arrBlk (cs := aT (ints v)) (fun w2 h2 => h2.front2) (hT hgv.len) ?_
    refine LdS.arrBlk (cs := ai .u8 (lensOf v vs M)) (fun w2 h2 => h2.front) hL ?_
    refine LdS.arrBlk (cs := aT (ints u)) (fun w2 h2 => mid6 h2) (hT hg.len) ?_
    refine LdS.arrBlk (cs := ai .u8 (lensOf u ys M)) (fun w2 h2 => mid5 h2) hL ?_
    refine pmTotN e3 hgv.max hgv.len (lensOf_len ..) hgv.bytes h6 fun w7 h7 => ⟨HasF.mk h7, pmTotN e1 hg.max hg.len (lensOf_len ..) hg.bytes h7 fun w8 h8 => ⟨HasF.mk h8, IfB.t (decide_eq_true hle2) ?_⟩⟩
    exact wakes07_c h8 fun w9 h9 => ⟨HasF.mk h9, hK w9 h9.drop.drop.drop.drop.drop.drop⟩
set_option maxRecDepth 20000 in
theorem pmTurned_law {t : List Int} {L i k c : Int} {K : Bool → World → Prop} (h : Hp E w F) (ht : t.length = 258) (hK : ∀ w', Hp E w' F → K true w') :
    Cl Try.prog [kB] n_law07_PackageMergeTurned ⟨[.agg (aT t), .int .i64 L, .int .i64 i, .int .i64 k, .int .i64 c]⟩ w K := by
  refine law07_PackageMergeTurned.ok _ _ _ _ _ _ _ ?_
  unfold law07_PackageMergeTurned.E
  simp only [Join_eq]
  have hz : ∀ {v : Value}, (⟨List.replicate 258 v⟩ : Array Value).size = 258 := fun {v} => by simp
  have hz8 : (ai .u8 zero8).size = 258 := by rw [ai_size, zero8_len]
  have hT : (aT t).size = 258 := by rw [aT_size, ht]
  refine Nw.mk h fun b7 w1 h1 => ?_
  have wk : ∀ {l : List HP} {w' : World}, Hp E w' (l ++ F) → Cl Try.prog [kB] n_law07_wakes ⟨[]⟩ w' K := fun h' => wakes07_c h' fun w6 h6 => hK w6 h6.dropL
  refine IfB.mk (fun _ => wk (l := [_]) h1) (fun c1 => IfB.mk (fun _ => wk (l := [_]) h1) (fun c2 => IfB.mk (fun _ => wk (l := [_]) h1) (fun c3 => IfB.mk (fun _ => wk (l := [_]) h1) (fun c4 => IfB.mk (fun _ => wk (l := [_]) h1) (fun c5 => IfB.mk (fun _ => wk (l := [_]) h1) (fun c6 => ?_))))))
  have c1 := of_decide_eq_false c1
  have c2 := of_decide_eq_false c2
  have c3 := of_decide_eq_false c3
  have c4 := of_decide_eq_false c4
  have c5 := of_decide_eq_false c5
  have c6 := of_decide_eq_false c6
  obtain ⟨i, rfl⟩ := Int.eq_ofNat_of_zero_le (show 0 ≤ i by omega)
  obtain ⟨k, rfl⟩ := Int.eq_ofNat_of_zero_le (show 0 ≤ k by omega)
  obtain ⟨c, rfl⟩ := Int.eq_ofNat_of_zero_le (show 0 ≤ c by omega)
  refine Ld.arr h1 hT ?_
  rcases caseL ht L with hb | ⟨u, ys, N, hg⟩
  · exact pmLen_bad hb ht h1 fun w2 h2 => Nw.mk h2 fun b27 w3 h3 => StA.blk h3 hz hz8 ai_scalar fun w4 h4 => IfB.t (by decide) (wk (l := [_, _]) h4)
  have hte := hg.eq
  subst hte
  have hu := hg.len
  have hL : ∀ {u ys : List Nat} {N : Nat}, (ai .u8 (lensOf u ys N)).size = 258 := by intros; rw [ai_size, lensOf_len]
  refine pmLen_ok hg h1 fun w2 h2 => Nw.mk h2 fun b27 w3 h3 => StA.blk h3 hz hL ai_scalar fun w4 h4 => IfB.f (by decide) (Ld.arr h4.p1 hT (Nw.mk h4 fun b33 w5 h5 => StA.blk h5 hz hT vI_scalar fun w6 h6 => ?_))
  have hd : Hp E { w6 with drawn := w6.drawn + 1 } _ := h6.drew
  have hii : i < u.length := by omega
  have hkk : k < u.length := by omega
  have rd : ∀ {j : Nat}, j < 258 → (aT (ints u))[0 + ((j : Nat) : Int).toNat * 1]? = some (Sc.enc (.int .i64) (u.getD j 0 : Int)) := fun hj => by
    rw [aT_ints, Nat.zero_add, Nat.mul_one]; exact getI (by omega)
  refine ⟨HasF E (Blk b27 (.cells (ai .u8 (lensOf u ys N)) 23 (0, 0)) :: Blk b7 (.cells (aT (ints u)) 39 (0, 0)) :: F), HasF.mk1 hd, ?_⟩
  refine ⟨by omega, by omega, ?_⟩
  rw [add_mk]
  refine LdS.blk (s := .int .i64) (fun w2 h2 => h2.front2) (u.getD k 0 : Int) (rd (by omega)) ⟨by omega, by omega, ?_⟩
  rw [add_mk]
  refine LdS.blk (s := .int .i64) (fun w2 h2 => h2.front2) (u.getD i 0 : Int) (rd (by omega)) ?_
  refine IdxP.wr hd (by omega) (by omega) hT rfl fun w7 h7 => ⟨HasF.mk1 h7, ?_⟩
  rw [Int.toNat_natCast, aT_set, ints_set] at h7
  refine IdxP.wr h7 (by omega) (by omega) (by rw [aT_size, ints_len, List.length_set, hu]) rfl fun w8 h8 => ⟨HasF.mk1 h8, ?_⟩
  rw [Int.toNat_natCast, aT_set, ints_set] at h8
  have ho : ((u.set i (u.getD k 0)).set k (u.getD i 0)).Perm u := by
    have e1 : u.getD k 0 = u[k] := by rw [List.getD_eq_getElem?_getD, List.getElem?_eq_getElem hkk]; rfl
    have e2 : u.getD i 0 = u[i] := by rw [List.getD_eq_getElem?_getD, List.getElem?_eq_getElem hii]; rfl
    rw [e1, e2]
    exact List.set_set_perm hii hkk
  have hol : ((u.set i (u.getD k 0)).set k (u.getD i 0)).length = 258 := by rw [ho.length_eq, hu]
  generalize (u.set i (u.getD k 0)).set k (u.getD i 0) = o at ho hol h8
  obtain ⟨zs, hzs⟩ := ord_exists o
  have hzl : zs.length = ys.length := by rw [ws_len hzs, ws_len hg.ord, (ho.filter _).length_eq]
  have hgo : GoodL (ints o) L o zs N := ⟨rfl, maxT_perm ho hg.max, hol, hzs, hg.lim, hg.one, hg.top, by rw [hzl]; exact hg.few⟩
  have hws : wsOf o zs = wsOf u ys := asc_eq ((ws_perm hzs).trans ((ho.filter _).trans (ws_perm hg.ord).symm)) (ord_asc hzs) (ord_asc hg.ord)
  refine Ld.arr h8 (by rw [aT_size, ints_len, hol]) (pmLen_ok hgo h8 fun w9 h9 => Nw.mk h9 fun b50 w10 h10 => StA.blk h10 hz hL ai_scalar fun w11 h11 => Ld.arr h11.p3 hT (Nw.mk h11 fun b54 w12 h12 => StA.blk h12 hz hT vI_scalar fun w13 h13 => ?_))
  refine IdxP.rd (s := .int .i64) h13 (by omega) (by omega) (u.getD i 0 : Int) (by have := rd (show i < 258 by omega); rwa [Nat.zero_add, Nat.mul_one] at this) ?_
  refine IfB.mk (fun h0 => ?_) (fun h0 => ?_)
  · have h0 : u.getD i 0 = 0 := by have : (u.getD i 0 : Int) = 0 := by simpa using h0
                                   omega
    have h0' : u[i] = 0 := by rw [List.getD_eq_getElem?_getD, List.getElem?_eq_getElem hii] at h0; exact h0
    refine IdxP.wr h13 (by omega) (by omega) hT rfl fun w14 h14 => ?_
    rw [Int.toNat_natCast, aT_set, ints_set] at h14
    refine turned_fin hg hgo hws (by rw [List.length_set, hu]) (maxT_set hg.max (by omega)) (fun vs hvs hfew => ?_) h14 hK
    have hp : (wsOf (u.set i c) vs).Perm (c :: wsOf u ys) := (ws_perm hvs).trans ((filter_set hii h0' (by omega)).trans ((ws_perm hg.ord).symm.cons c))
    exact best_more (ord_asc hg.ord) (ord_asc hvs) hp hg.one (by rw [wsOf, List.length_map]; exact hfew)
  · refine turned_fin hg hgo hws hu hg.max (fun vs hvs _ => ?_) h13 hK
    obtain rfl := ord_same hvs hg.ord
    exact Nat.le_refl _
end
end Go.Proofs.Ytcidpcahgkngjaa
