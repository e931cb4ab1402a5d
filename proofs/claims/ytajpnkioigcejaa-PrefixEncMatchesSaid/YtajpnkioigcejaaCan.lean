/-
  What kraft.Sum, canonical.Valid and canonical.Order compute. Conditions: as each theorem states.
-/
import Derived.Test.YtajpnkioigcejaaStab
import Derived.Test.YtajpnkioigcejaaArr
namespace Go.Srt
/-- a code length's share of 2^15; too much where it is too long -/
def wt (n : Nat) : Nat := if n = 0 then 0 else if n > 15 then 32769 else 2 ^ (15 - n)
def ksum (l : List Nat) : Nat := (l.map wt).sum
theorem wt_le (n : Nat) : wt n ≤ 32769 := by
  unfold wt
  split
  · omega
  · split
    · omega
    · have : 2 ^ (15 - n) ≤ 2 ^ 15 := Nat.pow_le_pow_right (by decide) (by omega)
      omega
theorem ksum_le : ∀ l : List Nat, ksum l ≤ 32769 * l.length
  | [] => by simp [ksum]
  | x :: l => by
    have := ksum_le l
    have := wt_le x
    simp only [ksum, List.map_cons, List.sum_cons, List.length_cons] at *
    omega
theorem ksum_succ {l : List Nat} {k : Nat} (h : k < l.length) : ksum (l.take (k + 1)) = ksum (l.take k) + wt l[k] := by
  unfold ksum
  rw [List.take_add_one, List.map_append, List.sum_append, List.getElem?_eq_getElem h]
  simp only [Option.toList, List.map_cons, List.map_nil, List.sum_cons, List.sum_nil, Nat.add_zero]
theorem ksum_take {l : List Nat} {k : Nat} : ksum (l.take k) ≤ ksum l := by
  have := congrArg ksum (List.take_append_drop k l)
  unfold ksum at this ⊢
  rw [List.map_append, List.sum_append] at this
  omega
theorem wt_mem {l : List Nat} {x : Nat} (h : x ∈ l) : wt x ≤ ksum l := by
  obtain ⟨i, hi, rfl⟩ := List.getElem_of_mem h
  have := ksum_succ hi
  have := ksum_take (l := l) (k := i + 1)
  omega
/-- the symbols that have a code -/
def used (l : List Nat) : List Nat := (List.range l.length).filter fun s => decide (0 < l.getD s 0)
def lkey (l : List Nat) (i : Int) : Int := (l.getD i.toNat 0 : Int)
/-- the symbols in order -/
def IsOrd (l ys : List Nat) : Prop := ys.Perm (used l) ∧ ys.Pairwise fun a b => l.getD a 0 < l.getD b 0 ∨ (l.getD a 0 = l.getD b 0 ∧ a < b)
end Go.Srt
namespace Go.Proofs.Ytajpnkioigcejaa
open Go Go.Vc Go.Srt
section
variable {E w : World} {F : List HP}
theorem share_c {n : Nat} {K : Int → World → Prop} (hK : K (wt n : Int) w) : Cl Try.prog [kI] n_kraft_share ⟨[.int .u8 (n : Int)]⟩ w K := by
  refine kraft_share.ok _ _ _ ?_
  unfold kraft_share.E
  unfold wt at hK
  refine IfB.mk (fun h => ?_) (fun h => IfB.mk (fun h2 => ?_) (fun h2 => ⟨by omega, ?_⟩))
  · have h : n = 0 := by have := of_decide_eq_true h; omega
    rw [if_pos h] at hK; exact hK
  · have h : n ≠ 0 := by have := of_decide_eq_false h; omega
    have h2 : n > 15 := by have := of_decide_eq_true h2; omega
    rw [if_neg h, if_pos h2] at hK; exact hK
  · have h : n ≠ 0 := by have := of_decide_eq_false h; omega
    have h2 : ¬ n > 15 := by have := of_decide_eq_false h2; omega
    rw [if_neg h, if_neg h2] at hK
    have e := ishr_nat (k := .i64) (a := 32768) (b := n) (by have : IntKind.bits .i64 = 64 := rfl; omega)
    rw [show (32768 : Int) = ((32768 : Nat) : Int) from rfl, e]
    have : 32768 / 2 ^ n = 2 ^ (15 - n) := by
      have e15 : (2 : Nat) ^ 15 = 32768 := by decide
      have e2 := Nat.pow_sub_mul_pow 2 (show n ≤ 15 by omega)
      rw [e15] at e2
      exact Nat.div_eq_of_eq_mul_left (Nat.two_pow_pos n) e2.symm
    rw [this]; exact hK
set_option maxRecDepth 20000 in
theorem kraftSum_c {l : List Nat} {K : Int → World → Prop} (h : Hp E w F) (hl : l.length = 258) (hK : ∀ w', Hp E w' F → K (ksum l : Int) w') : Cl Try.prog [kI] n_kraft_Sum ⟨[.agg (ai .u8 l)]⟩ w K := by
  refine kraft_Sum.ok _ _ _ ?_
  unfold kraft_Sum.E
  refine Nw.mk h fun b w1 h1 => Ld.arr h1 (by rw [ai_size, hl]) ?_
  have hb := ksum_le l
  refine ⟨fun sm i w' => ∃ k : Nat, i = (k : Int) ∧ k ≤ 258 ∧ sm = (ksum (l.take k) : Int) ∧ Hp E w' F, fun _ i _ => 258 - i.toNat, ⟨0, rfl, by omega, by simp [ksum], h1.drop⟩, ?_⟩
  intro sm i w' hI
  obtain ⟨k, hi, hk, hs, hh⟩ := hI
  subst hi
  subst hs
  refine IfB.mk (fun hlt => ?_) (fun hge => ?_)
  · have hlt : k < 258 := by have := of_decide_eq_true hlt; omega
    have hkl : k < l.length := by omega
    refine IdxV.rd (s := .int .u8) (by omega) (by omega) (l[k] : Int) (by rw [Int.toNat_natCast]; exact ai_get hkl) (share_c ?_)
    have e := ksum_succ hkl
    have := ksum_take (l := l) (k := k + 1)
    rw [i64_id (x := (ksum (l.take k) : Int) + (wt l[k] : Int)) (by omega), i64_id (by omega)]
    exact ⟨⟨k + 1, rfl, by omega, by rw [e]; rfl, hh⟩, by dsimp only; omega⟩
  · have hge : k = 258 := by have := of_decide_eq_false hge; omega
    subst hge
    rw [← hl, List.take_length]
    exact hK _ hh
theorem fits_c {l : List Nat} {K : Bool → World → Prop} (h : Hp E w F) (hl : l.length = 258) (hK : ∀ w', Hp E w' F → K (decide (ksum l ≤ 32768)) w') : Cl Try.prog [kB] n_kraft_Fits ⟨[.agg (ai .u8 l)]⟩ w K := by
  refine kraft_Fits.ok _ _ _ ?_
  unfold kraft_Fits.E
  refine Nw.mk h fun b w1 h1 => Ld.arr h1 (by rw [ai_size, hl]) (kraftSum_c h1 hl fun w2 h2 => ?_)
  have : decide ((ksum l : Int) ≤ 32768) = decide (ksum l ≤ 32768) := by rw [Bool.eq_iff_iff]; simp; omega
  rw [this]
  exact hK _ h2.drop
theorem cvalid_c {l : List Nat} {K : Bool → World → Prop} (h : Hp E w F) (hl : l.length = 258) (hK : ∀ w', Hp E w' F → K (decide (ksum l ≤ 32768)) w') : Cl Try.prog [kB] n_canonical_Valid ⟨[.agg (ai .u8 l)]⟩ w K := by
  refine canonical_Valid.ok _ _ _ ?_
  unfold canonical_Valid.E
  exact Nw.mk h fun b w1 h1 => Ld.arr h1 (by rw [ai_size, hl]) (fits_c h1 hl fun w2 h2 => hK _ h2.drop)
theorem cmpU8_c {x y : Int} {K : Int → World → Prop} (hK : ∀ z : Int, (z < 0 ↔ x < y) → K z w) : Cl Try.prog [kI] n_cmp_Compare_uint8 ⟨[.int .u8 x, .int .u8 y]⟩ w K := by
  refine cmp_Compare_uint8.ok _ _ _ _ ?_
  unfold cmp_Compare_uint8.E
  refine cmp_isNaN_uint8.ok _ _ _ (cmp_isNaN_uint8.ok _ _ _ ?_)
  refine IfB.f (by simp) (IfB.f (by simp) (IfB.mk (fun h => hK _ ?_) (fun h => IfB.mk (fun h2 => hK _ ?_) (fun h2 => hK _ ?_))))
  · have := of_decide_eq_true h; omega
  · have := of_decide_eq_false h; omega
  · have := of_decide_eq_false h; omega
theorem canCmp {l : List Nat} {b : Nat} {t : TypeId} (hl : l.length = 258) : CmpOk E (Blk b (.cells (ai .u8 l) t (0, 0)) :: F) (.func (.func n_canonical_Order_1) ⟨[]⟩ ⟨[.pointer (some ⟨b, 0, none⟩)]⟩) (lkey l) (fun x => 0 ≤ x ∧ x < 258) := by
  rintro A w y x K h ⟨hx0, hx⟩ ⟨hy0, hy⟩ hK
  refine ClV.mk (by kernel_rfl) ?_
  refine canonical_Order_1.ok y x ⟨b, 0, none⟩ K w ?_
  unfold canonical_Order_1.E
  have h' := h.perm List.perm_append_comm
  have hx' : x.toNat < l.length := by omega
  have hy' : y.toNat < l.length := by omega
  refine Drw.mk h fun w1 h1 => ?_
  have h1' := h1.perm List.perm_append_comm
  refine IdxP.rd (s := .int .u8) h1' hy0 (by omega) (l[y.toNat] : Int) (ai_get hy') ?_
  refine IdxP.rd (s := .int .u8) h1' hx0 (by omega) (l[x.toNat] : Int) (ai_get hx') ?_
  refine cmpU8_c fun z hz => hK z w1 ?_ h1
  rw [hz]
  unfold lkey
  rw [List.getD_eq_getElem?_getD, List.getD_eq_getElem?_getD, List.getElem?_eq_getElem hx', List.getElem?_eq_getElem hy']
  rfl
theorem ty_ints : ElemT Try.prog 24 3 1 8 := ElemT.of (by kernel_rfl) (by kernel_rfl)
def usedTo (l : List Nat) (k : Nat) : List Nat := (List.range k).filter fun s => decide (0 < l.getD s 0)
theorem usedTo_succ {l : List Nat} {k : Nat} : usedTo l (k + 1) = usedTo l k ++ if 0 < l.getD k 0 then [k] else [] := by
  unfold usedTo
  rw [List.range_succ, List.filter_append]
  congr 1
  by_cases h : 0 < l.getD k 0
  · rw [if_pos h, List.filter_cons_of_pos (by simpa using h)]; rfl
  · rw [if_neg h, List.filter_cons_of_neg (by simpa using h)]; rfl
theorem one_scalar {z : Int} : ∀ y ∈ [vI z], scalarB y = true := by
  intro y hy
  have : y = vI z := by simpa using hy
  rw [this]; rfl
theorem usedTo_len (l : List Nat) (k : Nat) : (usedTo l k).length ≤ k := by
  have := List.length_filter_le (fun s => decide (0 < l.getD s 0)) (List.range k)
  simpa [usedTo] using this
def ints (l : List Nat) : List Int := l.map fun (x : Nat) => (x : Int)
theorem ints_app {a b : List Nat} : ints (a ++ b) = ints a ++ ints b := List.map_append
set_option maxRecDepth 20000 in
/-- the symbols in order, in a slice of its own; nil if the lengths are not valid -/
theorem order_c {l : List Nat} {K : Sl → World → Prop} (h : Hp E w F) (hl : l.length = 258) (hK1 : ¬ ksum l ≤ 32768 → ∀ w', Hp E w' F → K ⟨none, 0, 0⟩ w')
    (hK2 : ksum l ≤ 32768 → ∀ ys s w', IsOrd l ys → Hp E w' (OwnS 1 s ((ints ys).map vI) :: F) → K s w') : Cl Try.prog [kS] n_canonical_Order ⟨[.agg (ai .u8 l)]⟩ w K := by
  refine canonical_Order.ok _ _ _ ?_
  unfold canonical_Order.E
  refine Nw.mk h fun b w1 h1 => Ld.arr h1 (by rw [ai_size, hl]) (cvalid_c h1 hl fun w2 h2 => ?_)
  refine IfB.mk (fun hv => hK1 (by simpa using hv) w2 h2.drop) (fun hv => ?_)
  have hv : ksum l ≤ 32768 := by simpa using hv
  refine Ld.arr h2 (by rw [ai_size, hl]) ?_
  refine ⟨fun o i w' => ∃ k : Nat, i = (k : Int) ∧ k ≤ 258 ∧ Hp E w' (OwnS 1 o ((ints (usedTo l k)).map vI) :: Blk b (.cells (ai .u8 l) 23 (0, 0)) :: F), fun _ i _ => 258 - i.toNat, ⟨0, rfl, by omega, h2.ownNil 1⟩, ?_⟩
  intro o i w' hI
  obtain ⟨k, hi, hk, hh⟩ := hI
  subst hi
  refine IfB.mk (fun hlt => ?_) (fun hge => ?_)
  · have hlt : k < 258 := by have := of_decide_eq_true hlt; omega
    have hkl : k < l.length := by omega
    have hg : l.getD k 0 = l[k] := by rw [List.getD_eq_getElem?_getD, List.getElem?_eq_getElem hkl]; rfl
    refine IdxV.rd (s := .int .u8) (by omega) (by omega) (l[k] : Int) (by rw [Int.toNat_natCast]; exact ai_get hkl) ?_
    refine IfB.mk (fun hp => ?_) (fun hp => ?_)
    · have hp : 0 < l[k] := by have := of_decide_eq_true hp; omega
      refine Nw.mk hh fun b2 w3 h3 => ?_
      have ho := hh.ownLen
      have hu := usedTo_len l k
      simp only [List.length_map, ints, Nat.mul_one] at ho
      refine run_append (ys := [vI (k : Int)]) (n := 1) ty_ints (by decide) (.inl ⟨3, by kernel_rfl⟩) h3.p1 (.inl ⟨some ⟨b2, 0, none⟩, 1, 1, rfl, rfl, h3.tells (Tells.blk rfl rfl)⟩) rfl one_scalar (by omega) (by omega) fun s' w4 h4 hs' => ?_
      rw [i64_id (by omega)]
      refine ⟨⟨k + 1, rfl, by omega, ?_⟩, by dsimp only; omega⟩
      rw [usedTo_succ, hg, if_pos hp, ints_app, List.map_append]
      exact h4.p1.drop
    · have hp : ¬ 0 < l[k] := by have := of_decide_eq_false hp; omega
      rw [i64_id (by omega)]
      refine ⟨⟨k + 1, rfl, by omega, ?_⟩, by dsimp only; omega⟩
      rw [usedTo_succ, hg, if_neg hp, List.append_nil]
      exact hh
  · have hge : k = 258 := by have := of_decide_eq_false hge; omega
    subst hge
    have hin : ∀ x ∈ usedTo l 258, x < 258 := fun x hx => by
      have := (List.mem_filter.1 hx).1
      simpa using this
    refine sortStable_c (key := lkey l) (D := fun x => 0 ≤ x ∧ x < 258) hh (by have := usedTo_len l 258; rw [big_eq]; simp only [ints, List.length_map]; omega) (canCmp hl) (fun x hx => ?_) ?_ fun ys w3 hp hs h3 => ?_
    · obtain ⟨y, hy, rfl⟩ := List.mem_map.1 hx
      have := hin y hy
      omega
    · unfold ints
      refine List.Pairwise.map _ (fun a b hab => Int.ofNat_lt.2 hab) ?_
      exact List.Pairwise.filter _ List.pairwise_lt_range
    · have hU : usedTo l 258 = used l := by unfold usedTo used; rw [hl]
      rw [hU] at hp
      have e : ys = ints (ys.map Int.toNat) := by
        unfold ints
        rw [List.map_map]
        refine (List.map_id ys).symm.trans (List.map_congr_left fun x hx => ?_)
        obtain ⟨y, _, rfl⟩ := List.mem_map.1 (hp.mem_iff.1 hx)
        simp
      have pN : (ys.map Int.toNat).Perm (used l) := by
        have := hp.map Int.toNat
        refine this.trans ?_
        unfold ints
        rw [List.map_map]
        refine List.Perm.of_eq ((List.map_congr_left fun x _ => ?_).trans (List.map_id _))
        simp
      rw [e] at h3 hs
      refine hK2 hv (ys.map Int.toNat) _ w3 ⟨pN, ?_⟩ h3.p1.drop
      refine (List.pairwise_map.1 hs).imp fun {a b} hab => ?_
      unfold Ky lkey at hab
      simp only [Int.toNat_natCast] at hab
      omega
end
end Go.Proofs.Ytajpnkioigcejaa
