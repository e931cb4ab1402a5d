/-
  The laws HistogramOrder and HistogramMost of winepresslaw06. Conditions: as each theorem states.
-/
import Derived.Test.YtbldlpljfppmgaaLaw06b
namespace Go.Hs
open Go Go.Vc
theorem zero258_get (i : Nat) : zero258'.getD i 0 = 0 := by
  unfold zero258'
  simp only [List.getD, List.getElem?_replicate]
  split <;> rfl
theorem zero258_valid : validT zero258' = true := validT_iff.2 fun i _ => by rw [zero258_get]; omega
theorem cnt_eq {t : List Int} {a b : List Int} (ht : t.length = 258) (ha : a.all isS = true) (hb : b.all isS = true) (h : ∀ z, a.count z = b.count z) : cnt t a = cnt t b := by
  apply List.ext_getElem
  · rw [cnt_len, cnt_len]
  intro i h1 h2
  have e1 := cnt_get ha ht i
  have e2 := cnt_get hb ht i
  rw [h] at e1
  have g1 : (cnt t a).getD i 0 = (cnt t a)[i] := by simp [List.getD, h1]
  have g2 : (cnt t b).getD i 0 = (cnt t b)[i] := by simp [List.getD, h2]
  rw [← g1, ← g2, e1, e2]
theorem cnt_valid {zs : List Int} (h : zs.all isS = true) (hn : zs.length ≤ 1000000) : validT (cnt zero258' zs) = true := validT_iff.2 fun i _ => by
  have e := cnt_get (t := zero258') h List.length_replicate i
  rw [e, zero258_get]
  have := List.count_le_length (a := (i : Int)) (l := zs)
  omega
theorem addT_of {zs : List Int} (hn : zs.length ≤ 1000000) : addT zero258' zs = if zs.all isS then some (cnt zero258' zs) else none := by
  by_cases h : zs.all isS = true
  · rw [if_pos h, addT_all zero258_valid h (cnt_valid h hn)]
  · rw [if_neg h]
    unfold addT
    rw [if_neg]
    simp only [Bool.and_eq_true]
    exact fun hh => h hh.1.2
theorem swap_count {l : List Int} {i k : Nat} (hi : i < l.length) (hk : k < l.length) (z : Int) : ((l.set i (l.getD k 0)).set k (l.getD i 0)).count z = l.count z := by
  have key : ∀ (l : List Int) (i : Nat) (x : Int), i < l.length → ((l.set i x).count z : Int) = l.count z + (if x = z then 1 else 0) - (if l.getD i 0 = z then 1 else 0) := by
    intro l
    induction l with
    | nil => intro i x h; simp at h
    | cons y l ih =>
      intro i x h
      cases i with
      | zero =>
        simp only [List.set_cons_zero, List.count_cons, List.getD_cons_zero, beq_iff_eq]
        by_cases h1 : y = z <;> by_cases h2 : x = z <;> simp only [h1, h2, if_true, if_false] <;> omega
      | succ i =>
        have := ih i x (by simpa using h)
        simp only [List.set_cons_succ, List.count_cons, List.getD_cons_succ, beq_iff_eq]
        by_cases h1 : y = z <;> simp only [h1, if_true, if_false] <;> omega
  have h1 := key (l.set i (l.getD k 0)) k (l.getD i 0) (by rw [List.length_set]; exact hk)
  have h2 := key l i (l.getD k 0) hi
  rw [getD_set hi] at h1
  by_cases e : k = i
  · subst e
    rw [if_pos rfl] at h1
    omega
  · rw [if_neg e] at h1
    omega
theorem firsts2 {α : Type} [DecidableEq α] (a b : α) : (firsts [a, a, b]).length ≤ 2 := by
  show (fi (fi (fi [] a) a) b).length ≤ 2
  simp only [fi]
  split <;> simp <;> split <;> simp_all
end Go.Hs
namespace Go.Proofs.Ytbldlpljfppmgaa
open Go Go.Vc Go.Hs
theorem all_true {zs : List Int} : zs.all isS = true ↔ ∀ k, k < zs.length → isS (zs.getD k 0) = true := by
  rw [List.all_eq_true]
  constructor
  · intro h k hk
    rw [List.getD, List.getElem?_eq_getElem hk]
    exact h _ (List.getElem_mem hk)
  · intro h x hx
    obtain ⟨k, hk, rfl⟩ := List.getElem_of_mem hx
    have := h k hk
    rwa [List.getD, List.getElem?_eq_getElem hk] at this
theorem clamp6 (p : Int) (n : Nat) : ∃ q : Nat, (if (n : Int) < (if (0 : Int) > p then 0 else p) then (n : Int) else (if (0 : Int) > p then 0 else p)) = (q : Int) ∧ q ≤ n := by
  refine ⟨(if (n : Int) < (if (0 : Int) > p then 0 else p) then (n : Int) else (if (0 : Int) > p then 0 else p)).toNat, ?_, ?_⟩ <;> split <;> split <;> omega
section
variable {E w : World} {F : List HP}
theorem hAdd_s {t zs u : List Int} {s : Sl} {K : Array Value → Int → World → Prop} (e : addT t zs = some u) (h : Hp E w F) (ht : t.length = 258) (hs : Tells F (SlT 1 s (zs.map vI))) (hn : zs.length ≤ big)
    (hK : ∀ w', Hp E w' F → K (aT u) 0 w') : Cl Try.prog [.arr 258, kI] n_histogram_Add ⟨[.agg (aT t), .slice s.base s.len s.cap]⟩ w K :=
  hAdd_c h ht hs hn fun w' h' => by rw [e]; exact hK w' h'
set_option maxRecDepth 100000 in
theorem hOrder_law {zs : List Int} {s : Sl} {i2 k3 at4 : Int} {K : Bool → World → Prop} (h : Hp E w F) (hs : Tells F (SlT 1 s (zs.map vI))) (hcap : s.len ≤ s.cap) (hK : ∀ w', Hp E w' F → K true w') :
    Cl Try.prog [kB] n_law06_HistogramOrder ⟨[.slice s.base s.len s.cap, .int .i64 i2, .int .i64 k3, .int .i64 at4]⟩ w K := by
  refine law06_HistogramOrder.ok _ _ _ _ _ _ ?_
  unfold law06_HistogramOrder.E
  simp only [Join_eq]
  rw [aT_zero]
  have hz : (aT (List.replicate 258 0)).size = 258 := by rw [aT_size]; exact List.length_replicate
  have hl1 := (h.tells hs).1
  simp only [List.length_map, Nat.mul_one] at hl1
  refine IfB.mk (fun _ => wakes06_c h fun w2 h2 => hK w2 h2) (fun g1 => ?_)
  have g1 := of_decide_eq_false g1
  have b1 : zs.length ≤ big := by rw [big_eq]; omega
  have hO := addO_len zs
  have hOs : (aT ((addT zero258 zs).getD zero258)).size = 258 := by rw [aT_size, hO]
  have hof : addT zero258 zs = if zs.all isS then some (cnt zero258 zs) else none := addT_of (by omega)
  refine hOf_c h hs b1 fun w2 h2 => Nw.mk h2 fun b11 w3 h3 => StA.blk h3 hz hOs aT_scalar fun w4 h4 => ?_
  by_cases hall : ¬ zs.all isS = true
  · rw [if_neg hall] at hof
    rw [hof] at h4 ⊢
    rw [Option.getD_none] at h4
    refine IfB.t (by decide) ?_
    refine ⟨fun no j w' => ∃ k : Nat, j = (k : Int) ∧ k ≤ zs.length ∧ no = (zs.take k).all isS ∧ Hp E w' (Blk b11 (.cells (aT zero258) 23 (0, 0)) :: F), fun _ j _ => zs.length - j.toNat, ⟨0, rfl, by omega, rfl, h4⟩, ?_⟩
    rintro no j w5 ⟨k, rfl, hk, rfl, h5⟩
    refine IfB.mk (fun hlt => ?_) (fun hge => ?_)
    · have hlt : k < zs.length := by have := of_decide_eq_true hlt; omega
      have hst : (zs.take (k + 1)).all isS = ((zs.take k).all isS && isS (zs.getD k 0)) := by rw [take_snocD hlt, List.all_append, List.all_cons, List.all_nil, Bool.and_true]
      have step : ∀ b : Bool, b = (zs.take (k + 1)).all isS → (∃ k' : Nat, i64 ((k : Int) + 1) = (k' : Int) ∧ k' ≤ zs.length ∧ b = (zs.take k').all isS ∧ Hp E w5 (Blk b11 (.cells (aT zero258) 23 (0, 0)) :: F)) ∧ zs.length - (i64 ((k : Int) + 1)).toNat < zs.length - (k : Int).toNat :=
        fun b hb => ⟨⟨k + 1, by rw [i64_id (by omega)]; omega, by omega, hb, h5⟩, by rw [i64_id (by omega)]; omega⟩
      refine IfB.mk (fun ht => ?_) (fun hf => step _ (by rw [hst, hf, Bool.false_and]))
      refine Idx.nI (h5.tells (Tells.cons hs)) rfl hlt (IfB.mk (fun h0 => ?_) (fun h0 => step _ ?_))
      · have h0 := of_decide_eq_true h0
        refine Idx.nI (h5.tells (Tells.cons hs)) rfl hlt (step _ ?_)
        rw [hst, ht, Bool.true_and]
        unfold isS
        rw [show decide (0 ≤ zs.getD k 0) = true from decide_eq_true h0, Bool.true_and]
      · have h0 := of_decide_eq_false h0
        rw [hst, ht, Bool.true_and]
        unfold isS
        rw [show decide (0 ≤ zs.getD k 0) = false from decide_eq_false h0, Bool.false_and]
    · have hge : k = zs.length := by have := of_decide_eq_false hge; omega
      subst hge
      rw [List.take_length]
      refine IfB.t (by decide) (IfB.t (by simpa using hall) ?_)
      exact Ld.arr h5 (by rw [aT_size, zero258_len]) (bld_zero (EqA.aT zero258_len zero258_len (IfB.t (by simp) (wakes06_c h5 fun w6 h6 => hK w6 h6.drop))))
  have hall : zs.all isS = true := Classical.not_not.1 hall
  rw [if_pos hall] at hof
  rw [hof] at h4 hO ⊢
  rw [Option.getD_some] at h4 hO
  refine IfB.f rfl ?_
  obtain ⟨q, hq, hqn⟩ := clamp6 at4 s.len
  rw [hq]
  have hat : (zs.take q).all isS = true := by rw [List.all_eq_true] at hall ⊢; exact fun x hx => hall x (List.mem_of_mem_take hx)
  have had : (zs.drop q).all isS = true := by rw [List.all_eq_true] at hall ⊢; exact fun x hx => hall x (List.mem_of_mem_drop hx)
  have hofT : addT zero258 (zs.take q) = some (cnt zero258 (zs.take q)) := by
    have := addT_of (zs := zs.take q) (by rw [List.length_take]; omega)
    rw [if_pos hat] at this; exact this
  have hcl : ∀ l : List Int, (cnt zero258 l).length = 258 := fun l => by rw [cnt_len, zero258_len]
  have hcs : ∀ l : List Int, (aT (cnt zero258 l)).size = 258 := fun l => by rw [aT_size, hcl]
  have hcomp : cnt (cnt zero258 (zs.take q)) (zs.drop q) = cnt zero258 zs := by rw [← cnt_app, List.take_append_drop]
  have hofD : addT (cnt zero258 (zs.take q)) (zs.drop q) = some (cnt zero258 zs) := by
    rw [← hcomp]
    exact addT_all (cnt_valid hat (by rw [List.length_take]; omega)) had (by rw [hcomp]; exact cnt_valid hall (by omega))
  refine Slc.rd (h4.tells (Tells.cons hs)) (by omega) (by omega) (by omega) (by omega) (by omega) fun s27 hs27 hl27 => ?_
  have hs27' : Tells F (SlT 1 s27 ((zs.take q).map vI)) := by
    have := hs.imp hs27
    rwa [show (0 : Int).toNat = 0 from rfl, List.drop_zero, Nat.sub_zero, Int.toNat_natCast, ← List.map_take] at this
  refine hOf_c h4 (Tells.cons hs27') (by rw [List.length_take, big_eq]; omega) fun w5 h5 => ?_
  rw [hofT, Option.getD_some]
  refine Nw.mk h5 fun b32 w6 h6 => StA.blk h6 hz (hcs _) aT_scalar fun w7 h7 => ?_
  refine ⟨HasF E _, HasF.mk h7.drew, ?_⟩
  have h8 := h7.drew (n := w7.drawn + 1)
  refine LdS.arrBlk (fun w h => h.front) (hcs _) ?_
  refine Slc.rd (h8.tells (Tells.cons (Tells.cons hs))) (by omega) (by omega) (by omega) (by omega) (by omega) fun s37 hs37 hl37 => ?_
  have hs37' : Tells F (SlT 1 s37 ((zs.drop q).map vI)) := by
    have := hs.imp hs37
    rwa [Int.toNat_natCast, Int.toNat_natCast, ← List.map_drop, List.take_of_length_le (by rw [List.length_map, List.length_drop]; omega)] at this
  have hdl : (zs.drop q).length ≤ big := by rw [List.length_drop, big_eq]; omega
  have hsum : sumT (cnt zero258 zs) = (s.len : Int) := by
    unfold sumT
    have hv : validT (cnt zero258 zs) = true := cnt_valid hall (by omega)
    rw [if_pos hv, sum_cnt hall zero258_len]
    have : zero258.sum = 0 := by decide +kernel
    omega
  refine ⟨hAdd_s hofD h8 (hcl _) (Tells.cons (Tells.cons hs37')) hdl fun w9 h9 => ⟨HasF.mk h9, Nw.mk h9 fun b42 w10 h10 => ⟨HasF.mk1 h10, StA.blk h10 hz (hcs _) aT_scalar fun w11 h11 => ⟨HasF.mk1 h11, ?_⟩⟩⟩,
    Nw.mk h8 fun b42 w9 h9 => ⟨HasF.mk1 h9, hAdd_s hofD h9 (hcl _) (Tells.cons (Tells.cons (Tells.cons hs37'))) hdl fun w10 h10 => ⟨HasF.mk1 h10, StA.blk h10 hz (hcs _) aT_scalar fun w11 h11 => ⟨HasF.mk1 h11, ?_⟩⟩⟩⟩
  all_goals
    refine IfB.f rfl (IfB.f (by decide) (Ld.arr h11 (hcs _) (Ld.arr h11.p2 (hcs _) (EqA.aT (hcl _) (hcl _) (IfB.f (by simp) (Ld.arr h11.p2 (hcs _) (hSum_c h11 (hcl _) fun w12 h12 => IfB.f (by rw [hsum]; simp) ?_)))))))
    refine IfB.mk (fun h0 => ?_) (fun h0 => ?_)
    · have h0 : zs.length = 0 := by have := beq_iff_eq.1 h0; omega
      obtain rfl : zs = [] := List.length_eq_zero_iff.1 h0
      exact Ld.arr h12.p2 (hcs _) (bld_zero (EqA.aT (hcl _) zero258_len (IfB.t (by simp [cnt]) (wakes06_c h12 fun w13 h13 => hK w13 h13.drop.drop.drop))))
    have h0 : 0 < zs.length := by have := beq_eq_false_iff_ne.1 h0; omega
    have en : i64 ((s.len : Int) - 1) = ((zs.length - 1 : Nat) : Int) := by rw [i64_id (by omega)]; omega
    rw [en]
    obtain ⟨i, hi, hin⟩ := clamp6 i2 (zs.length - 1)
    obtain ⟨k, hk, hkn⟩ := clamp6 k3 (zs.length - 1)
    rw [hi, hk]
    refine Nw.mk h12 fun b58 w13 h13 => ?_
    have hnew : Hp E w13 (OwnS 1 ⟨some ⟨b58, 0, none⟩, 0, 0⟩ ([].map vI) :: Blk b42 (.cells (aT (cnt zero258 zs)) 23 (0, 0)) :: Blk b32 (.cells (aT (cnt zero258 (zs.take q))) 23 (0, 0)) :: Blk b11 (.cells (aT (cnt zero258 zs)) 23 (0, 0)) :: F) := h13.ownNew (n := 0) (sz := 1) rfl
    refine run_append (s := ⟨some ⟨b58, 0, none⟩, 0, 0⟩) (ys := zs.map vI) (n := zs.length) ty_zs (by decide) (.inl ⟨3, by kernel_rfl⟩) hnew (.inl ⟨s.base, s.len, s.cap, rfl, hl1, hnew.tells (Tells.cons (Tells.cons (Tells.cons (Tells.cons hs))))⟩) (by simp) vI_scalar (by show (2 * (0 + zs.length) + 1024) * 8 ≤ 2 ^ 48; omega) (by show 0 + zs.length < 2 ^ 62; omega) fun s60 w14 h14 hs60 => ?_
    rw [List.map_nil, List.nil_append] at h14
    refine Drw.mk h14 fun w15 h15 => ?_
    refine Idx.nI (h15.tells Tells.own) rfl (by omega) (Idx.nI (h15.tells Tells.own) rfl (by omega) (Idx.setI h15 rfl (by omega) fun w16 h16 => Idx.setI h16 rfl (by rw [List.length_set]; omega) fun w17 h17 => ?_))
    have hsw : ∀ z, ((zs.set i (zs.getD k 0)).set k (zs.getD i 0)).count z = zs.count z := fun z => swap_count (by omega) (by omega) z
    have hall2 : ((zs.set i (zs.getD k 0)).set k (zs.getD i 0)).all isS = true := by
      rw [List.all_eq_true] at hall ⊢
      intro x hx
      have := List.count_pos_iff.2 hx
      rw [hsw] at this
      exact hall x (List.count_pos_iff.1 this)
    have hl2 : ((zs.set i (zs.getD k 0)).set k (zs.getD i 0)).length = zs.length := by rw [List.length_set, List.length_set]
    have hof2 : addT zero258 ((zs.set i (zs.getD k 0)).set k (zs.getD i 0)) = some (cnt zero258 zs) := by
      have := addT_of (zs := (zs.set i (zs.getD k 0)).set k (zs.getD i 0)) (by omega)
      rw [if_pos hall2] at this
      show addT zero258' _ = some (cnt zero258' zs)
      rw [this, cnt_eq (t := zero258') List.length_replicate hall2 hall hsw]
    refine hOf_c h17 Tells.own (by rw [hl2, big_eq]; omega) fun w18 h18 => ?_
    rw [hof2, Option.getD_some]
    refine Nw.mk h18 fun b74 w19 h19 => StA.blk h19 hz (hcs _) aT_scalar fun w20 h20 => ?_
    refine IfB.t rfl (Ld.arr h20 (hcs _) (Ld.arr h20.p4 (hcs _) (EqA.aT (hcl _) (hcl _) (IfB.t (by simp) ?_))))
    refine Ld.arr h20.p4 (hcs _) (Ld.arr h20 (hcs _) (Ld.arr h20.p3 (hcs _) ?_))
    refine bldS3 (a := ⟨cnt zero258 zs, hcl _⟩) (b := ⟨cnt zero258 zs, hcl _⟩) (c := ⟨cnt zero258 (zs.take q), hcl _⟩) (Nw.mk h20 fun b83 w21 h21 => ?_)
    refine hDiff_c (s := ⟨some ⟨b83, 0, none⟩, 3, 3⟩) (ts := [⟨cnt zero258 zs, hcl _⟩, ⟨cnt zero258 zs, hcl _⟩, ⟨cnt zero258 (zs.take q), hcl _⟩]) h21 (Tells.blk rfl (by rw [fm_len gT_len]; rfl)) (by rw [big_eq]; exact Nat.le_of_ble_eq_true rfl) fun w22 h22 => ?_
    refine IfB.t (by have := firsts2 (⟨cnt zero258 zs, hcl _⟩ : T258) ⟨cnt zero258 (zs.take q), hcl _⟩; rw [decide_eq_true_iff]; omega) (wakes06_c h22 fun w23 h23 => hK w23 h23.drop.drop.drop.drop.drop.drop)
set_option maxRecDepth 100000 in
theorem hMost_law {s0 more : Int} {K : Bool → World → Prop} (h : Hp E w F) (hK : ∀ w', Hp E w' F → K true w') :
    Cl Try.prog [kB] n_law06_HistogramMost ⟨[.int .i64 s0, .int .i64 more]⟩ w K := by
  refine law06_HistogramMost.ok _ _ _ _ ?_
  unfold law06_HistogramMost.E
  simp only [Join_eq]
  rw [aT_zero]
  have hz : (aT (List.replicate 258 0)).size = 258 := by rw [aT_size]; exact List.length_replicate
  refine IfB.mk (fun _ => wakes06_c h fun w2 h2 => hK w2 h2) (fun g1 => ?_)
  refine IfB.mk (fun _ => wakes06_c h fun w2 h2 => hK w2 h2) (fun g2 => ?_)
  refine IfB.mk (fun _ => wakes06_c h fun w2 h2 => hK w2 h2) (fun g3 => ?_)
  refine IfB.mk (fun _ => wakes06_c h fun w2 h2 => hK w2 h2) (fun g4 => ?_)
  have g1 := of_decide_eq_false g1
  have g2 := of_decide_eq_false g2
  have g3 := of_decide_eq_false g3
  have g4 := of_decide_eq_false g4
  obtain ⟨a, rfl⟩ := Int.eq_ofNat_of_zero_le (show 0 ≤ s0 by omega)
  obtain ⟨m, rfl⟩ := Int.eq_ofNat_of_zero_le (show 0 ≤ more by omega)
  have ha : a < 258 := by omega
  have hm : m ≤ 40 := by omega
  have hzl : (List.replicate 258 (0 : Int)).length = 258 := List.length_replicate
  refine Nw.mk h fun b14 w1 h1 => IdxP.aTset h1 (j := a) rfl hzl ha fun w2 h2 => ?_
  obtain ⟨t, ht⟩ : ∃ t, t = (List.replicate 258 (0 : Int)).set a 2147483627 := ⟨_, rfl⟩
  rw [← ht] at h2
  have htl : t.length = 258 := by rw [ht, List.length_set]; exact hzl
  have htg : ∀ i, t.getD i 0 = if i = a then 2147483627 else 0 := fun i => by
    rw [ht, getD_set (by rw [hzl]; exact ha)]
    split
    · rfl
    · exact zero258_get i
  have htv : validT t = true := validT_iff.2 fun i _ => by rw [htg]; split <;> omega
  have hts : (aT t).size = 258 := by rw [aT_size, htl]
  have hsa : isS (a : Int) = true := isS_iff.2 (by omega)
  refine ⟨fun o i w' => ∃ k : Nat, i = (k : Int) ∧ k ≤ m ∧ Hp E w' (OwnS 1 o ((List.replicate k (a : Int)).map vI) :: Blk b14 (.cells (aT t) 23 (0, 0)) :: F), fun _ i _ => m - i.toNat, ⟨0, rfl, by omega, h2.ownNil 1⟩, ?_⟩
  rintro o i w3 ⟨k, rfl, hk, h3⟩
  refine IfB.mk (fun hlt => ?_) (fun hge => ?_)
  · have hlt : k < m := by have := of_decide_eq_true hlt; omega
    refine app_n ty_zs rfl h3 (by rw [List.length_replicate, big_eq]; omega) fun s' w4 h4 _ => ⟨⟨k + 1, by rw [i64_id (by omega)]; omega, by omega, ?_⟩, by dsimp only; rw [i64_id (by omega)]; omega⟩
    rw [List.replicate_succ']
    exact h4
  have hge : k = m := by have := of_decide_eq_false hge; omega
  subst hge
  have hall : (List.replicate k (a : Int)).all isS = true := by
    rw [List.all_eq_true]
    intro x hx
    rw [List.eq_of_mem_replicate hx]; exact hsa
  have hcl : (cnt t (List.replicate k (a : Int))).length = 258 := by rw [cnt_len, htl]
  have hcg : (cnt t (List.replicate k (a : Int))).getD a 0 = 2147483627 + k := by
    rw [cnt_get hall htl, htg, if_pos rfl, List.count_replicate_self]
  refine Ld.arr h3.p1 hts (hAdd_c h3 htl Tells.own (by rw [List.length_replicate, big_eq]; omega) fun w4 h4 => ?_)
  have hds : (aT ((addT t (List.replicate k (a : Int))).getD t)).size = 258 := by rw [aT_size, addD_len htl]
  refine Nw.mk h4 fun b31 w5 h5 => StA.blk h5 hz hds aT_scalar fun w6 h6 => ?_
  refine IfB.mk (fun h20 => ?_) (fun h20 => ?_)
  · have h20 : 20 < k := by have := of_decide_eq_true h20; omega
    have hn : addT t (List.replicate k (a : Int)) = none := addT_big (validT_f (i := a) (by omega) (by rw [hcg]; omega))
    rw [hn] at h6 hds ⊢
    exact IfB.t (by decide) (Ld.arr h6 hds (Ld.arr h6.p2 hts (EqA.aT htl htl (IfB.t (by simp) (wakes06_c h6 fun w7 h7 => hK w7 h7.drop.drop.drop)))))
  · have h20 : k ≤ 20 := by have := of_decide_eq_false h20; omega
    have hv : validT (cnt t (List.replicate k (a : Int))) = true := validT_iff.2 fun i _ => by
      rw [cnt_get hall htl, htg]
      have := List.count_le_length (a := (i : Int)) (l := List.replicate k (a : Int))
      rw [List.length_replicate] at this
      split <;> omega
    have hso : addT t (List.replicate k (a : Int)) = some (cnt t (List.replicate k (a : Int))) := addT_all htv hall hv
    rw [hso, Option.getD_some] at h6 hds
    rw [hso]
    refine ⟨HasF E _, HasF.mk h6.drew, ?_⟩
    have m1 : ∀ w, HasF E (Blk b31 (.cells (aT (cnt t (List.replicate k (a : Int)))) 23 (0, 0)) :: OwnS 1 o ((List.replicate k (a : Int)).map vI) :: Blk b14 (.cells (aT t) 23 (0, 0)) :: F) w → ∃ G, Hp E w (Blk b14 (.cells (aT t) 23 (0, 0)) :: G) :=
      fun w h => h.mem (List.mem_cons_of_mem _ (List.mem_cons_of_mem _ (List.mem_cons_self ..)))
    refine IfB.t rfl (IdxP.aTS (fun w h => h.front) (j := a) rfl hcl ha (IdxP.aTS m1 (j := a) rfl htl ha ?_))
    rw [hcg, htg, if_pos rfl]
    refine IfB.t (by rw [i64_id (by omega)]; simp) ?_
    refine LdS.arrBlk (fun w h => h.front) hds (LdS.arrBlk m1 hts ?_)
    refine hSum_c (h6.drew (n := w6.drawn + 1)) hcl fun w7 h7 => ⟨HasF.mk h7, hSum_c h7 htl fun w8 h8 => ⟨HasF.mk h8, ?_⟩⟩
    have e1 : sumT (cnt t (List.replicate k (a : Int))) = sumT t + k := by
      unfold sumT
      rw [if_pos hv, if_pos htv, sum_cnt hall htl, List.length_replicate]
    have e2 := sumTo_range htv 258 (by omega)
    have e3 : sumTo t 258 = sumT t := by
      unfold sumTo sumT
      rw [if_pos htv, List.take_of_length_le (by omega)]
    rw [e3] at e2
    refine IfB.t (by rw [e1, i64_id (by omega)]; simp) ?_
    exact wakes06_c h8 fun w9 h9 => ⟨HasF.mk h9, hK w9 h9.drop.drop.drop⟩
end
end Go.Proofs.Ytbldlpljfppmgaa
