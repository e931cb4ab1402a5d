/-
  Package histogram: ranks, different tallies. Conditions: as each theorem states.
-/
import Derived.Test.YtbldlpljfppmgaaHist
import Derived.Test.YtbldlpljfppmgaaMap2
namespace Go.Vc
open Go
theorem Run.of {P : Program} {s : Sem Value} {k : Ki} {w w' : World} {K : k.T → World → Prop} (x : k.T) (h : s.run P w = .ok (k.enc x) w') (hK : K x w') : Run P s k w K := by
  unfold Run
  rw [h]
  exact Ki.dec_enc.2 hK
/-- an array out of a slice -/
theorem Ld.arrAt {w : World} {p : Addr} {n : Nat} {cs : Array Value} {K : Array Value → Prop} (hn : cs.size = n) (hc : ∀ j, j < n → w.cell? (p.add j) = cs[j]?) (hK : K cs) : Ld (.arr n) p w K := by
  refine ⟨cs, hn, fun w' hw i hi => ?_, hK⟩
  subst hw
  rw [hc i hi]
  simp [hn, hi]
/-- tallies -/
abbrev T258 := { l : List Int // l.length = 258 }
def gT (x : T258) : List Value := x.1.map vI
theorem gT_len (x : T258) : (gT x).length = 258 := by unfold gT; rw [List.length_map]; exact x.2
def keT (a : T258) : Value := .agg (aT a.1)
def vN (z : Int) : Value := .int .i64 z
end Go.Vc
namespace Go.Proofs.Ytbldlpljfppmgaa
open Go Go.Vc Go.Hs
section
variable {E w : World} {F : List HP}
theorem sortRank_c {s : Sl} {xs : List (Int × Int)} {K : World → Prop} (h : Hp E w (OwnS 2 s (xs.flatMap enc2) :: F)) (hsz : xs.length < 4611686018427387904) (hK : ∀ w', Hp E w' (OwnS 2 s ((sort2 xs).flatMap enc2) :: F) → K w') :
    Cl Try.prog [] n_slices_SortFunc_histogram_rank_histogram_rank ⟨[.slice s.base s.len s.cap, .func (.func n_histogram_Ranks_1) ⟨[]⟩ ⟨[]⟩]⟩ w K :=
  sortF_c (ρ := Try.sortRank_ren) Try.sortRank Try.isAgg58 Try.sizeOf58 (by kernel_rfl) (fun x y W => ranks1_c x y W) h hsz hK
theorem pairs_len (t : List Int) : (pairsT t).length = (usedT t).length := List.length_map ..
set_option maxRecDepth 20000 in
theorem hRanks_c {t : List Int} {K : Sl → World → Prop} (h : Hp E w F) (ht : t.length = 258) (hK : ∀ s w', Hp E w' (OwnS 1 s ((ranksT t).map vI) :: F) → K s w') : Cl Try.prog [kS] n_histogram_Ranks ⟨[.agg (aT t)]⟩ w K := by
  refine histogram_Ranks.ok _ _ _ ?_
  unfold histogram_Ranks.E
  have hT : (aT t).size = 258 := by rw [aT_size, ht]
  have hul := usedT_len t
  refine Nw.mk h fun b3 w1 h1 => Ld.arr h1 hT (hUsed_c h1 ht fun s6 w2 h2 => ?_)
  have hl6 := h2.ownLen
  rw [List.length_map, Nat.mul_one] at hl6
  refine ⟨fun o i w' => ∃ k : Nat, i = (k : Int) ∧ k ≤ (usedT t).length ∧ Hp E w' (OwnS 2 o (((pairsT t).take k).flatMap enc2) :: OwnS 1 s6 ((usedT t).map vI) :: Blk b3 (.cells (aT t) 23 (0, 0)) :: F), fun _ i _ => (usedT t).length - i.toNat, ⟨0, rfl, by omega, h2.ownNil 2⟩, ?_⟩
  rintro o i w3 ⟨k, rfl, hk, hh⟩
  refine IfB.mk (fun hlt => ?_) (fun hge => ?_)
  · have hlt : k < (usedT t).length := by have := of_decide_eq_true hlt; omega
    have hm := usedT_mem (t := t) (z := (usedT t).getD k 0) (by rw [List.getD, List.getElem?_eq_getElem hlt]; exact List.getElem_mem hlt)
    refine Idx.nI (hh.tells (Tells.cons Tells.own)) rfl hlt (IdxP.aT hh.p2 (j := ((usedT t).getD k 0).toNat) (by omega) ht (by omega) ?_)
    have htl : ((pairsT t).take k).length = k := by rw [List.length_take, pairs_len]; omega
    refine app1 (x := (t.getD ((usedT t).getD k 0).toNat 0, (usedT t).getD k 0)) ty_rank enc2_len (by decide) rfl (enc2_scalar _) hh (by omega) (by omega) fun s' w4 h4 _ => ⟨⟨k + 1, by rw [i64_id (by omega)]; omega, by omega, ?_⟩, by dsimp only; rw [i64_id (by omega)]; omega⟩
    have e : (pairsT t).take (k + 1) = (pairsT t).take k ++ [(t.getD ((usedT t).getD k 0).toNat 0, (usedT t).getD k 0)] := by
      rw [List.take_add_one, List.getElem?_eq_getElem (by rw [pairs_len]; exact hlt)]
      simp [pairsT, List.getD, hlt]
    rw [e]
    exact h4
  have hge : k = (usedT t).length := by have := of_decide_eq_false hge; omega
  subst hge
  rw [List.take_of_length_le (by rw [pairs_len]; exact Nat.le_refl _)] at hh
  refine sortRank_c hh (by rw [pairs_len]; omega) fun w4 h4 => ?_
  have hsl := sort2_len (pairsT t)
  rw [pairs_len] at hsl
  have hol := SlT.len enc2_len (by decide) (h4.tells Tells.own)
  refine ⟨fun o2 i w' => ∃ k : Nat, i = (k : Int) ∧ k ≤ (usedT t).length ∧ Hp E w' (OwnS 1 o2 (((ranksT t).take k).map vI) :: OwnS 2 o ((sort2 (pairsT t)).flatMap enc2) :: F), fun _ i _ => (usedT t).length - i.toNat, ⟨0, rfl, by omega, h4.p1.drop.p1.drop.ownNil 1⟩, ?_⟩
  rintro o2 i w5 ⟨k, rfl, hk, h5⟩
  refine IfB.mk (fun hlt => ?_) (fun hge => ?_)
  · have hlt : k < (sort2 (pairsT t)).length := by have := of_decide_eq_true hlt; omega
    refine Idx.elT (g := enc2) enc2_len (by decide) h5 (Tells.cons Tells.own) rfl hlt fun p hp => ?_
    refine Ld.st ((sort2 (pairsT t))[k].1, (sort2 (pairsT t))[k].2, ()) (fun j hj => h5.tells (hp j hj)) ?_
    refine Nw.mk h5 fun b29 w6 h6 => StC.blk h6 rfl (by
      intro v hv
      simp only [List.mem_cons, List.not_mem_nil, or_false] at hv
      rcases hv with rfl | rfl <;> rfl) fun w7 h7 => ?_
    refine Ld.blk (s := .int .i64) (i := 1) h7 (sort2 (pairsT t))[k].2 rfl ?_
    have hrl : (ranksT t).length = (usedT t).length := by unfold ranksT; rw [List.length_map]; exact hsl
    refine app_n ty_zs rfl h7.p1 (by rw [List.length_take, big_eq]; omega) fun s' w8 h8 _ => ⟨⟨k + 1, by rw [i64_id (by omega)]; omega, by omega, ?_⟩, by dsimp only; rw [i64_id (by omega)]; omega⟩
    have e : (ranksT t).take (k + 1) = (ranksT t).take k ++ [(sort2 (pairsT t))[k].2] := by
      rw [List.take_add_one, List.getElem?_eq_getElem (by omega)]
      simp [ranksT]
    rw [e]
    exact h8.p1.drop
  have hge : k = (usedT t).length := by have := of_decide_eq_false hge; omega
  subst hge
  rw [List.take_of_length_le (by unfold ranksT; rw [List.length_map]; omega)] at h5
  exact hK _ _ h5.p1.drop
theorem infoN : ∃ i, Try.prog.info? 3 = some i ∧ i.size = 1 := by
  have h : (Try.prog.info? 3).map (fun i => i.size) = some 1 := by kernel_rfl
  obtain ⟨i, h1, h2⟩ := Option.map_eq_some_iff.1 h
  exact ⟨i, h1, h2⟩
set_option maxRecDepth 20000 in
theorem keyOk_T : KeyOk Try.prog (α := T258) 23 keT where
  und := ⟨.array 258 3, by kernel_rfl, fun a b => .inl rfl⟩
  check := fun e a w => by
    obtain ⟨i, h1, h2⟩ := infoN
    exact check_arr (n := 258) (e := 3) (by kernel_rfl) h1 h2 (by kernel_rfl) a.2 e 9998 w
  eq := fun a b w => by
    have e : eqAgg Try.prog 23 (aT a.1) (aT b.1) (fun r => r = (a.1 == b.1)) = EqA .i64 258 (aT a.1) (aT b.1) (fun r => r = (a.1 == b.1)) := by kernel_rfl
    obtain ⟨_, r, h1, h2⟩ := eqAgg_sound (P := Try.prog) (t := 23) (e ▸ EqA.aT (K := fun r => r = (a.1 == b.1)) a.2 b.2 rfl)
    have h3 := h1 w
    have e2 : decide (a = b) = (a.1 == b.1) := by
      rw [Bool.eq_iff_iff]
      simp [Subtype.ext_iff]
    rw [e2, ← h2]; exact h3
  same := fun a => same_arr a.1 9999
theorem ty_mapT : Try.prog.underlying 63 = some (.map 23 3) := by kernel_rfl
theorem zero_int (w : World) : (zeroValue 3).run Try.prog w = .ok (vN 0) w := Try.zeroValue3 w
set_option maxRecDepth 20000 in
theorem hDiff_c {s : Sl} {ts : List T258} {K : Int → World → Prop} (h : Hp E w F) (hs : Tells F (SlT 258 s (ts.flatMap gT))) (hn : ts.length ≤ big) (hK : ∀ w', Hp E w' F → K ((firsts ts).length : Int) w') :
    Cl Try.prog [kI] n_histogram_Different ⟨[.slice s.base s.len s.cap]⟩ w K := by
  refine histogram_Different.ok _ _ _ ?_
  unfold histogram_Different.E
  have hlen := SlT.len gT_len (by decide) (h.tells hs)
  rw [big_eq] at hn
  refine run_makeMapC (ke := keT) (ve := vN) h fun m w1 h1 => ?_
  refine ⟨fun i w' => ∃ (k : Nat) (l : List (T258 × Int)), i = (k : Int) ∧ k ≤ ts.length ∧ l.map (·.1) = firsts (ts.take k) ∧ Hp E w' (OwnC keT vN m l :: F), fun i _ => ts.length - i.toNat, ⟨0, [], rfl, by omega, rfl, h1⟩, ?_⟩
  rintro i w2 ⟨k, l, rfl, hk, hkeys, hh⟩
  refine IfB.mk (fun hlt => ?_) (fun hge => ?_)
  · have hlt : k < ts.length := by have := of_decide_eq_true hlt; omega
    have hT : (aT ts[k].1).size = 258 := by rw [aT_size]; exact ts[k].2
    refine Idx.elT (g := gT) gT_len (by decide) hh (Tells.cons hs) rfl hlt fun p hp => ?_
    refine Ld.arrAt (cs := aT ts[k].1) hT (fun j hj => by rw [hh.tells (hp j hj)]; simp [gT, aT]) ?_
    refine Nw.mk hh fun b w3 h3 => StA.blk h3 (by simp) hT aT_scalar fun w4 h4 => ?_
    refine ⟨fun w' => ∃ G, Hp E w' (Blk b (.cells (aT ts[k].1) 23 (0, 0)) :: G), ⟨_, h4.drew⟩, ?_⟩
    refine LdS.arrBlk (fun w' h' => h') hT ?_
    have h5 : Hp E { w4 with drawn := w4.drawn + 1 } (OwnC keT vN m l :: Blk b (.cells (aT ts[k].1) 23 (0, 0)) :: F) := h4.drew.p1
    have hS : ∀ {A : HP} {w' : World}, Hp E w' (A :: Blk b (.cells (aT ts[k].1) 23 (0, 0)) :: F) → ∃ G, Hp E w' (Blk b (.cells (aT ts[k].1) 23 (0, 0)) :: G) := fun h' => ⟨_, h'.p1⟩
    have fin : ∀ {w' : World} {x : Int}, Hp E w' (OwnC keT vN m (updAt ts[k] x (entL ts[k] 0 l)) :: Blk b (.cells (aT ts[k].1) 23 (0, 0)) :: F) →
        (∃ (k' : Nat) (l' : List (T258 × Int)), i64 ((k : Int) + 1) = (k' : Int) ∧ k' ≤ ts.length ∧ l'.map (·.1) = firsts (ts.take k') ∧ Hp E w' (OwnC keT vN m l' :: F)) ∧ ts.length - (i64 ((k : Int) + 1)).toNat < ts.length - (k : Int).toNat := fun {w' x} h' => by
      rw [i64_id (by omega)]
      refine ⟨⟨k + 1, _, by omega, by omega, ?_, h'.p1.drop⟩, by omega⟩
      rw [entL_keys, hkeys, List.take_add_one, List.getElem?_eq_getElem hlt]
      exact (firsts_snoc _ _).symm
    refine ⟨?_, ?_⟩
    · refine Run.of (k := kI) (entV ts[k] 0 l) ?_ ⟨hS h5, ?_⟩
      · rw [show Value.agg (aT ts[k].1) = keT ts[k] from rfl, run_lookup1 (z := vN 0) keyOk_T ty_mapT zero_int h5.cToM]
        unfold entV
        cases findAt ts[k] l 0 <;> rfl
      refine run_mapEntry (a := ts[k]) (z := (0 : Int)) (k := kI) (x := entV ts[k] 0 l) keyOk_T ty_mapT zero_int rfl h5 fun born w6 h6 => ⟨hS h6, ?_⟩
      exact run_entryStore (entL_find ts[k] 0 l) h6 fun w7 h7 => ⟨hS h7, fin h7⟩
    · refine run_mapEntry (a := ts[k]) (z := (0 : Int)) (k := kI) (x := entV ts[k] 0 l) keyOk_T ty_mapT zero_int rfl h5 fun born w6 h6 => ⟨hS h6, ?_⟩
      refine Run.of (k := kI) (entV ts[k] 0 l) ?_ ⟨hS h6, ?_⟩
      · rw [show Value.agg (aT ts[k].1) = keT ts[k] from rfl, run_lookup1 (z := vN 0) keyOk_T ty_mapT zero_int h6.jToM, entL_find]
        rfl
      exact run_entryStore (entL_find ts[k] 0 l) h6 fun w7 h7 => ⟨hS h7, fin h7⟩
  · have hge : k = ts.length := by have := of_decide_eq_false hge; omega
    subst hge
    rw [List.take_length] at hkeys
    refine run_lenM ty_mapT hh.cToM ?_
    have e : l.length = (firsts ts).length := by rw [← hkeys, List.length_map]
    rw [e]
    exact hK w2 hh.drop
end
end Go.Proofs.Ytbldlpljfppmgaa
