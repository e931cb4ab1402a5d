/-
  The examples of winepresslaw07, and the contracts of packagemerge in the form in which the laws use them. Conditions: as each theorem states.
-/
import Derived.Test.YtcidpcahgkngjaaPm7
namespace Go.Srt
theorem ord_exists (l : List Nat) : ∃ ys, IsOrd l ys := by
  have tr : ∀ a b c : Nat, decide (l.getD a 0 < l.getD b 0 ∨ (l.getD a 0 = l.getD b 0 ∧ a ≤ b)) = true → decide (l.getD b 0 < l.getD c 0 ∨ (l.getD b 0 = l.getD c 0 ∧ b ≤ c)) = true → decide (l.getD a 0 < l.getD c 0 ∨ (l.getD a 0 = l.getD c 0 ∧ a ≤ c)) = true := by
    intro a b c h1 h2
    simp only [decide_eq_true_eq] at *; omega
  have to : ∀ a b : Nat, (decide (l.getD a 0 < l.getD b 0 ∨ (l.getD a 0 = l.getD b 0 ∧ a ≤ b)) || decide (l.getD b 0 < l.getD a 0 ∨ (l.getD b 0 = l.getD a 0 ∧ b ≤ a))) = true := by
    intro a b
    simp only [Bool.or_eq_true, decide_eq_true_eq]; omega
  have hs := List.pairwise_mergeSort (le := fun a b => decide (l.getD a 0 < l.getD b 0 ∨ (l.getD a 0 = l.getD b 0 ∧ a ≤ b))) tr to (used l)
  have hp := List.mergeSort_perm (used l) (fun a b => decide (l.getD a 0 < l.getD b 0 ∨ (l.getD a 0 = l.getD b 0 ∧ a ≤ b)))
  have hn : (used l).Nodup := List.Pairwise.filter _ (List.nodup_range (n := l.length))
  have hn2 := hp.nodup_iff.2 hn
  exact ⟨_, hp, (hs.and hn2).imp fun {a b} h => by have := of_decide_eq_true h.1; have := h.2; omega⟩
/-- the tally or the limit is not right -/
def BadL (t : List Int) (L : Int) : Prop := validT t = false ∨ L < 1 ∨ 15 < L ∨ ∃ u ys, t = Proofs.Ytcidpcahgkngjaa.ints u ∧ IsOrd u ys ∧ 2 ^ L.toNat < ys.length
structure GoodL (t : List Int) (L : Int) (u ys : List Nat) (N : Nat) : Prop where
  eq : t = Proofs.Ytcidpcahgkngjaa.ints u
  max : MaxT u
  len : u.length = 258
  ord : IsOrd u ys
  lim : L = (N : Int)
  one : 1 ≤ N
  top : N ≤ 15
  few : ys.length ≤ 2 ^ N
theorem ints_inj {u v : List Nat} (h : Proofs.Ytcidpcahgkngjaa.ints u = Proofs.Ytcidpcahgkngjaa.ints v) : u = v := (List.map_inj_right (fun x y h => by have h : (x : Int) = (y : Int) := h; omega)).1 h
theorem caseL {t : List Int} (hl : t.length = 258) (L : Int) : BadL t L ∨ ∃ u ys N, GoodL t L u ys N := by
  cases hv : validT t with
  | false => exact .inl (.inl hv)
  | true =>
    by_cases h1 : L < 1
    · exact .inl (.inr (.inl h1))
    by_cases h2 : 15 < L
    · exact .inl (.inr (.inr (.inl h2)))
    obtain ⟨u, rfl, hm⟩ := Proofs.Ytcidpcahgkngjaa.valid_ints hv
    obtain ⟨ys, hys⟩ := ord_exists u
    by_cases h3 : 2 ^ L.toNat < ys.length
    · exact .inl (.inr (.inr (.inr ⟨u, ys, rfl, hys, h3⟩)))
    · exact .inr ⟨u, ys, L.toNat, rfl, hm, by rw [Proofs.Ytcidpcahgkngjaa.ints_len] at hl; exact hl, hys, by omega, by omega, by omega, by omega⟩
end Go.Srt
namespace Go.Proofs.Ytcidpcahgkngjaa
open Go Go.Vc Go.Srt Go.Pm
section
variable {E w : World} {F : List HP}
theorem bad_not {t : List Int} {L : Int} {u ys : List Nat} {N : Nat} (hg : GoodL t L u ys N) : ¬ (validT t = false ∨ L < 1 ∨ 15 < L ∨ ∃ l, t = ints l ∧ (2 : Int) ^ L.toNat < (used l).length) := by
  obtain ⟨rfl, hm, hl, hys, rfl, h1, h2, h3⟩ := hg
  rintro (h | h | h | ⟨l, h, h4⟩)
  · rw [ints_valid hm] at h; cases h
  · omega
  · omega
  · obtain rfl := ints_inj h
    rw [← hys.1.length_eq, Int.toNat_natCast, show (2 : Int) ^ N = ((2 ^ N : Nat) : Int) by norm_cast] at h4
    omega
theorem good_not {t : List Int} {L : Int} (hb : BadL t L) {l ys : List Nat} (h0 : t = ints l) (hm : MaxT l) (hys : IsOrd l ys) (h1 : 1 ≤ L) (h2 : L ≤ 15) (h3 : ys.length ≤ 2 ^ L.toNat) : False := by
  subst h0
  rcases hb with h | h | h | ⟨u, zs, h, h4, h5⟩
  · rw [ints_valid hm] at h; cases h
  · omega
  · omega
  · obtain rfl := ints_inj h
    obtain rfl := ord_same hys h4
    omega
/-- the lengths of a good tally -/
def lensOf (u ys : List Nat) (N : Nat) : List Nat := plc ys (lenOf (wsOf u ys) N)
theorem lensOf_len (u ys : List Nat) (N : Nat) : (lensOf u ys N).length = 258 := plc_len ..
theorem pmLen_ok {t : List Int} {L : Int} {u ys : List Nat} {N : Nat} {K : Array Value → Int → World → Prop} (hg : GoodL t L u ys N) (h : Hp E w F) (hK : ∀ w', Hp E w' F → K (ai .u8 (lensOf u ys N)) 0 w') : Cl Try.prog [.arr 258, kI] n_packagemerge_Lengths ⟨[.agg (aT t), .int .i64 L]⟩ w K := by
  refine pmLengths_c h (by rw [hg.eq, ints_len, hg.len]) (fun hb => absurd hb (bad_not hg)) fun l zs w' h0 hm hzs h1 h2 h3 h' => ?_
  have : l = u := ints_inj (h0.symm.trans hg.eq)
  subst this
  obtain rfl := ord_same hzs hg.ord
  have hk := hK w' h'
  rw [hg.lim, Int.toNat_natCast]
  exact hk
theorem rLen_ok {t : List Int} {L : Int} {u ys : List Nat} {N : Nat} {K : Array Value → Int → World → Prop} (hg : GoodL t L u ys N) (h : Hp E w F) (hK : ∀ w', Hp E w' F → K (ai .u8 (lensOf u ys N)) 0 w') : Cl Try.prog [.arr 258, kI] n_ref07_Lengths ⟨[.agg (aT t), .int .i64 L]⟩ w K := by
  refine rLengths_c h (by rw [hg.eq, ints_len, hg.len]) (fun hb => absurd hb (bad_not hg)) fun l zs w' h0 hm hzs h1 h2 h3 h' => ?_
  have : l = u := ints_inj (h0.symm.trans hg.eq)
  subst this
  obtain rfl := ord_same hzs hg.ord
  have hk := hK w' h'
  rw [hg.lim, Int.toNat_natCast]
  exact hk
def zero8 : List Nat := List.replicate 258 0
theorem zero8_len : zero8.length = 258 := List.length_replicate
theorem pmLen_bad {t : List Int} {L : Int} {K : Array Value → Int → World → Prop} (hb : BadL t L) (hl : t.length = 258) (h : Hp E w F) (hK : ∀ w', Hp E w' F → K (ai .u8 zero8) 2 w') : Cl Try.prog [.arr 258, kI] n_packagemerge_Lengths ⟨[.agg (aT t), .int .i64 L]⟩ w K :=
  pmLengths_c h hl (fun _ => hK) fun _ _ _ h0 hm hzs h1 h2 h3 _ => (good_not hb h0 hm hzs h1 h2 h3).elim
theorem rLen_bad {t : List Int} {L : Int} {K : Array Value → Int → World → Prop} (hb : BadL t L) (hl : t.length = 258) (h : Hp E w F) (hK : ∀ w', Hp E w' F → K (ai .u8 zero8) 2 w') : Cl Try.prog [.arr 258, kI] n_ref07_Lengths ⟨[.agg (aT t), .int .i64 L]⟩ w K :=
  rLengths_c h hl (fun _ => hK) fun _ _ _ h0 hm hzs h1 h2 h3 _ => (good_not hb h0 hm hzs h1 h2 h3).elim
/-- the order of a tally, in a slice of its own -/
theorem pmOrd {u ys : List Nat} {K : Sl → World → Prop} (hm : MaxT u) (hl : u.length = 258) (hys : IsOrd u ys) (h : Hp E w F) (hK : ∀ s w', Hp E w' (OwnS 1 s ((ints ys).map vI) :: F) → K s w') : Cl Try.prog [kS] n_packagemerge_Order ⟨[.agg (aT (ints u))]⟩ w K :=
  pmOrder_c h (by rw [ints_len, hl]) (fun hv => by rw [ints_valid hm] at hv; cases hv) fun l h0 _ _ zs s w' hzs h' => by
    obtain rfl := ints_inj h0
    obtain rfl := ord_same hzs hys
    exact hK s w' h'
theorem rOrd {u ys : List Nat} {K : Sl → World → Prop} (hm : MaxT u) (hl : u.length = 258) (hys : IsOrd u ys) (h : Hp E w F) (hK : ∀ s w', Hp E w' (OwnS 1 s ((ints ys).map vI) :: F) → K s w') : Cl Try.prog [kS] n_ref07_Order ⟨[.agg (aT (ints u))]⟩ w K :=
  rOrder_c h (by rw [ints_len, hl]) (fun hv => by rw [ints_valid hm] at hv; cases hv) fun l h0 _ _ zs s w' hzs h' => by
    obtain rfl := ints_inj h0
    obtain rfl := ord_same hzs hys
    exact hK s w' h'
theorem pmTot {u l : List Nat} {K : Int → World → Prop} (hm : MaxT u) (hu : u.length = 258) (hl : l.length = 258) (hlb : ∀ y ∈ l, y < 256) (h : Hp E w F) (hK : ∀ w', Hp E w' F → K (dotT u l 258 : Int) w') : Cl Try.prog [kI] n_packagemerge_Total ⟨[.agg (aT (ints u)), .agg (ai .u8 l)]⟩ w K :=
  pmTotal_c h (by rw [ints_len, hu]) hl hlb (fun hv => by rw [ints_valid hm] at hv; cases hv) fun v h0 _ w' h' => by
    obtain rfl := ints_inj h0
    exact hK w' h'
/-! the examples -/
def exT : List Nat := 1 :: 1 :: 2 :: 4 :: List.replicate 254 0
def exU : List Nat := 0 :: 9 :: List.replicate 256 0
def exN : List Int := -1 :: List.replicate 257 0
def exL1 : List Nat := 3 :: 3 :: 2 :: 1 :: List.replicate 254 0
def exL2 : List Nat := 2 :: 2 :: 2 :: 2 :: List.replicate 254 0
def exL3 : List Nat := 0 :: 1 :: List.replicate 256 0
theorem maxT_of {u : List Nat} (h : u.all (fun x => decide (x ≤ 2147483647)) = true) : MaxT u := fun x hx => by
  have := List.all_eq_true.1 h x hx
  simpa using this
theorem exT_ord : IsOrd exT [0, 1, 2, 3] := by
  constructor
  · have : used exT = [0, 1, 2, 3] := by decide +kernel
    rw [this]
  · decide +kernel
theorem exU_ord : IsOrd exU [1] := by
  constructor
  · have : used exU = [1] := by decide +kernel
    rw [this]
  · decide +kernel
theorem exZ_ord : IsOrd zero8 [] := by
  constructor
  · have : used zero8 = [] := by decide +kernel
    rw [this]
  · exact .nil
theorem exT_max : MaxT exT := maxT_of (by decide +kernel)
theorem exU_max : MaxT exU := maxT_of (by decide +kernel)
theorem exZ_max : MaxT zero8 := maxT_of (by decide +kernel)
theorem exT_len : exT.length = 258 := by decide +kernel
theorem exU_len : exU.length = 258 := by decide +kernel
theorem exN_len : exN.length = 258 := by decide +kernel
theorem exN_bad : validT exN = false := by decide +kernel
theorem ex1 : lensOf exT [0, 1, 2, 3] 15 = exL1 := by decide +kernel
theorem ex2 : lensOf exT [0, 1, 2, 3] 2 = exL2 := by decide +kernel
theorem ex3 : lensOf exU [1] 1 = exL3 := by decide +kernel
theorem ex4 : lensOf zero8 [] 3 = zero8 := by decide +kernel
theorem exL1_len : exL1.length = 258 := by decide +kernel
theorem exL2_len : exL2.length = 258 := by decide +kernel
theorem exL3_len : exL3.length = 258 := by decide +kernel
theorem exL1_b : ∀ y ∈ exL1, y < 256 := fun y hy => of_decide_eq_true (List.all_eq_true.1 (by decide +kernel : exL1.all (fun y => decide (y < 256)) = true) y hy)
theorem exL2_b : ∀ y ∈ exL2, y < 256 := fun y hy => of_decide_eq_true (List.all_eq_true.1 (by decide +kernel : exL2.all (fun y => decide (y < 256)) = true) y hy)
theorem ex5 : dotT exT exL1 258 = 14 := by decide +kernel
theorem ex6 : dotT exT exL2 258 = 16 := by decide +kernel
theorem ai_zero64 {n : Nat} : (⟨List.replicate n (.int .i64 0)⟩ : Array Value) = aT (ints (List.replicate n 0)) := by
  rw [aT_ints, ai_zero]
set_option maxRecDepth 20000 in
theorem wakes07_c {K : Bool → World → Prop} (h : Hp E w F) (hK : ∀ w', Hp E w' F → K true w') : Cl Try.prog [kB] n_law07_wakes ⟨[]⟩ w K := by
  refine law07_wakes.ok _ _ ?_
  unfold law07_wakes.E
  have hz : ∀ {v : Value}, (⟨List.replicate 258 v⟩ : Array Value).size = 258 := fun {v} => by simp
  have hz8 : (ai .u8 zero8).size = 258 := by rw [ai_size, zero8_len]
  have hT : (aT (ints exT)).size = 258 := by rw [aT_size, ints_len, exT_len]
  have g1 : GoodL (ints exT) 15 exT [0, 1, 2, 3] 15 := ⟨rfl, exT_max, exT_len, exT_ord, rfl, by decide, by decide, by decide⟩
  have g2 : GoodL (ints exT) 2 exT [0, 1, 2, 3] 2 := ⟨rfl, exT_max, exT_len, exT_ord, rfl, by decide, by decide, by decide⟩
  have g3 : GoodL (ints exU) 1 exU [1] 1 := ⟨rfl, exU_max, exU_len, exU_ord, rfl, by decide, by decide, by decide⟩
  have g4 : GoodL (ints zero8) 3 zero8 [] 3 := ⟨rfl, exZ_max, zero8_len, exZ_ord, rfl, by decide, by decide, by decide⟩
  have b1 : BadL (ints exT) 1 := .inr (.inr (.inr ⟨exT, _, rfl, exT_ord, by decide⟩))
  have b2 : BadL (ints exT) 16 := .inr (.inr (.inl (by decide)))
  have b3 : BadL exN 3 := .inl exN_bad
  have hl : (ints exT).length = 258 := by rw [ints_len, exT_len]
  refine ⟨aT (ints exT), by kernel_rfl, Nw.mk h fun c1 w1 h1 => StA.blk h1 hz hT vI_scalar fun w2 h2 => Ld.arr h2 hT (pmLen_ok g1 h2 fun w3 h3 => ?_)⟩
  rw [ex1]
  refine Nw.mk h3 fun c2 w4 h4 => StA.blk h4 hz (by rw [ai_size, exL1_len]) ai_scalar fun w5 h5 => Ld.arr h5.p1 hT (pmLen_ok g2 h5 fun w6 h6 => ?_)
  rw [ex2]
  refine Nw.mk h6 fun c3 w7 h7 => StA.blk h7 hz (by rw [ai_size, exL2_len]) ai_scalar fun w8 h8 => Ld.arr h8.p2 hT (pmLen_bad b1 hl h8 fun w9 h9 => ?_)
  refine Nw.mk h9 fun c4 w10 h10 => StA.blk h10 hz hz8 ai_scalar fun w11 h11 => Ld.arr h11.p3 hT (pmLen_bad b2 hl h11 fun w12 h12 => ?_)
  refine Nw.mk h12 fun c5 w13 h13 => StA.blk h13 hz hz8 ai_scalar fun w14 h14 => ?_
  have h14 := h14.drop.drop
  refine ⟨aT (ints exU), by kernel_rfl, pmLen_ok g3 h14 fun w15 h15 => ?_⟩
  rw [ex3]
  refine Nw.mk h15 fun c6 w16 h16 => StA.blk h16 hz (by rw [ai_size, exL3_len]) ai_scalar fun w17 h17 => ?_
  refine ⟨aT (ints zero8), by kernel_rfl, pmLen_ok g4 h17 fun w18 h18 => ?_⟩
  rw [ex4]
  refine Nw.mk h18 fun c7 w19 h19 => StA.blk h19 hz hz8 ai_scalar fun w20 h20 => ?_
  refine ⟨aT exN, by kernel_rfl, pmLen_bad b3 exN_len h20 fun w21 h21 => ?_⟩
  refine Nw.mk h21 fun c8 w22 h22 => StA.blk h22 hz hz8 ai_scalar fun w23 h23 => ?_
  have h23 := h23.drop
  have eq : ∀ {a : List Nat}, (a == a) = true := fun {a} => by simp
  refine IfB.t rfl (Ld.arr h23.p3 (by rw [ai_size, exL1_len]) ⟨ai .u8 exL1, by kernel_rfl, EqA.mk exL1_len exL1_len (IfB.t eq ?_)⟩)
  refine IfB.t rfl (Ld.arr h23.p2 (by rw [ai_size, exL2_len]) ⟨ai .u8 exL2, by kernel_rfl, EqA.mk exL2_len exL2_len (IfB.t eq ?_)⟩)
  refine IfB.t rfl (IfB.t rfl (IfB.t rfl (Ld.arr h23.p1 (by rw [ai_size, exL3_len]) ⟨ai .u8 exL3, by kernel_rfl, EqA.mk exL3_len exL3_len (IfB.t eq ?_)⟩)))
  refine IfB.t rfl (Ld.arr h23 hz8 ⟨ai .u8 zero8, by kernel_rfl, EqA.mk zero8_len zero8_len (IfB.t eq ?_)⟩)
  refine IfB.t rfl ?_
  have h24 := h23.drop.drop
  refine Ld.arr h24.p2 hT (Ld.arr h24.p1 (by rw [ai_size, exL1_len]) (pmTot exT_max exT_len exL1_len exL1_b h24 fun w25 h25 => IfB.t (by rw [ex5]; rfl) ?_))
  refine Ld.arr h25.p2 hT (Ld.arr h25 (by rw [ai_size, exL2_len]) (pmTot exT_max exT_len exL2_len exL2_b h25 fun w26 h26 => IfB.t (by rw [ex6]; rfl) ?_))
  refine Ld.arr h26.p2 hT (pmOrd exT_max exT_len exT_ord h26 fun s w27 h27 => Nw.mk h27 fun b5 w28 h28 => ?_)
  refine ints_c (s2 := ⟨some ⟨b5, 0, none⟩, 4, 4⟩) (a := [0, 1, 2, 3]) (b := [0, 1, 2, 3]) h28 (Tells.cons Tells.own) (Tells.blk rfl rfl) (by rw [big_eq]; decide) fun w29 h29 => IfB.t rfl ?_
  have h30 := h29.drop.drop
  refine Ld.arr h30.p2 hT (pmValid_c h30 hl fun w31 h31 => IfB.t (ints_valid exT_max) ?_)
  refine ⟨aT exN, by kernel_rfl, pmValid_c h31 exN_len fun w32 h32 => ?_⟩
  rw [exN_bad]
  exact hK w32 h32.drop.drop.drop
end
end Go.Proofs.Ytcidpcahgkngjaa
