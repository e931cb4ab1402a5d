/-
  The examples and the laws of winepresslaw09. Conditions: as each theorem states.
-/
import Derived.Test.YtcidpcahgkngjaaFind
namespace Go.Srt
theorem go_le {l ys : List Nat} {i j : Nat} (hij : i < j) (hj : j < ys.length) : start l ys i + sh l (ys[i]'(by omega)) ≤ start l ys j := by
  rw [← start_succ]
  exact start_mono hij
/-- a later code does not begin with an earlier one -/
theorem later {l ys : List Nat} (h : IsOrd l ys) {i j : Nat} (hij : i < j) (hj : j < ys.length) : codeAt l ys i < codeAt l ys j / 2 ^ (l.getD ys[j] 0 - l.getD (ys[i]'(by omega)) 0) ∨ 15 < l.getD ys[j] 0 := by
  have h1 := codeAt_mul h (show i < ys.length by omega)
  have h2 := codeAt_mul h hj
  have h3 := go_le (l := l) hij hj
  have h4 := ord_len h hj (Nat.le_of_lt hij)
  rcases Nat.lt_or_ge 15 (l.getD ys[j] 0) with h5 | h5
  · exact .inr h5
  · left
    have e : sh l (ys[i]'(by omega)) = 2 ^ (l.getD ys[j] 0 - l.getD (ys[i]'(by omega)) 0) * sh l ys[j] := by
      unfold sh
      rw [← Nat.pow_add]
      congr 1; omega
    rw [Nat.lt_iff_add_one_le, Nat.le_div_iff_mul_le (Nat.two_pow_pos _)]
    have h6 : ((codeAt l ys i + 1) * 2 ^ (l.getD ys[j] 0 - l.getD (ys[i]'(by omega)) 0)) * sh l ys[j] ≤ codeAt l ys j * sh l ys[j] := by
      rw [Nat.mul_assoc, ← e, h2, Nat.succ_mul, h1]; exact h3
    exact Nat.le_of_mul_le_mul_right h6 (sh_pos _ _)
/-- how many of the codes begin these bits -/
def hits (l : List Nat) (c : List Nat) (bits : Nat) (k : Nat) : Nat := ((List.range k).filter fun s => decide (0 < l.getD s 0) && decide (bits / 2 ^ (15 - l.getD s 0) = c.getD s 0)).length
theorem hits_succ {l c : List Nat} {bits k : Nat} : hits l c bits (k + 1) = hits l c bits k + (if 0 < l.getD k 0 ∧ bits / 2 ^ (15 - l.getD k 0) = c.getD k 0 then 1 else 0) := by
  unfold hits
  rw [List.range_succ, List.filter_append, List.length_append]
  congr 1
  by_cases h : 0 < l.getD k 0 ∧ bits / 2 ^ (15 - l.getD k 0) = c.getD k 0
  · rw [if_pos h, List.filter_cons_of_pos (by simpa using h)]; rfl
  · rw [if_neg h, List.filter_cons_of_neg (by simpa using h)]; rfl
theorem hits_le (l c : List Nat) (bits k : Nat) : hits l c bits k ≤ k := by
  have := List.length_filter_le (fun s => decide (0 < l.getD s 0) && decide (bits / 2 ^ (15 - l.getD s 0) = c.getD s 0)) (List.range k)
  simpa [hits] using this
theorem hits_all {l ys : List Nat} (hv : ksum l ≤ 32768) (h : IsOrd l ys) (hin : ∀ s ∈ ys, s < 258) (bits : Nat) : hits l (codesTo l ys ys.length) bits l.length = if bits < ksum l then 1 else 0 := by
  have e1 : hits l (codesTo l ys ys.length) bits l.length = (ys.filter fun s => decide (bits / 2 ^ (15 - l.getD s 0) = (codesTo l ys ys.length).getD s 0)).length := by
    unfold hits
    rw [(h.1.filter _).length_eq]
    unfold used
    rw [List.filter_filter]
    congr 1
    refine List.filter_congr fun s _ => ?_
    rw [Bool.and_comm]
  rw [e1, ← start_all hv h]
  have key : ∀ k, k ≤ ys.length → ((ys.take k).filter fun s => decide (bits / 2 ^ (15 - l.getD s 0) = (codesTo l ys ys.length).getD s 0)).length = if bits < start l ys k then 1 else 0 := by
    intro k
    induction k with
    | zero => intro _; simp [start]
    | succ k ih =>
      intro hk
      have hk' : k < ys.length := by omega
      rw [List.take_add_one, List.filter_append, List.length_append, ih (by omega), List.getElem?_eq_getElem hk', start_succ hk']
      simp only [Option.toList]
      have hc := codesTo_at h hin _ (Nat.le_refl _) k hk' hk'
      have hm := codeAt_mul h hk'
      have hp := sh_pos l ys[k]
      have hiff : bits / 2 ^ (15 - l.getD ys[k] 0) = (codesTo l ys ys.length).getD ys[k] 0 ↔ start l ys k ≤ bits ∧ bits < start l ys k + sh l ys[k] := by
        rw [hc, ← hm]
        show bits / sh l ys[k] = _ ↔ _
        rw [Nat.div_eq_iff hp]
        constructor
        · rintro ⟨a, b⟩
          constructor
          · exact a
          · omega
        · rintro ⟨a, b⟩
          refine ⟨a, by omega⟩
      by_cases hh : start l ys k ≤ bits ∧ bits < start l ys k + sh l ys[k]
      · rw [List.filter_cons_of_pos (by simpa using hiff.2 hh), if_neg (by omega), if_pos (by omega)]; rfl
      · rw [List.filter_cons_of_neg (by simpa using fun h' => hh (hiff.1 h'))]
        simp only [List.filter_nil, List.length_nil, Nat.add_zero]
        by_cases hb : bits < start l ys k
        · rw [if_pos hb, if_pos (by omega)]
        · rw [if_neg hb, if_neg (by omega)]
  have := key ys.length (Nat.le_refl _)
  rwa [List.take_length] at this
/-- the code of the first symbol of a length, and how many there are -/
def firstTo (l ys : List Nat) (n : Int) : Nat → Nat × Nat
  | 0 => (0, 0)
  | k + 1 => if (l.getD (ys.getD k 0) 0 : Int) = n then (if (firstTo l ys n k).2 = 0 then (codesTo l ys ys.length).getD (ys.getD k 0) 0 else (firstTo l ys n k).1, (firstTo l ys n k).2 + 1) else firstTo l ys n k
theorem firstTo_le (l ys : List Nat) (n : Int) : ∀ k, (firstTo l ys n k).2 ≤ k
  | 0 => Nat.le_refl _
  | k + 1 => by
    have := firstTo_le l ys n k
    unfold firstTo
    split
    · simp only; omega
    · omega
end Go.Srt
namespace Go.Proofs.Ytcidpcahgkngjaa
open Go Go.Vc Go.Srt
section
variable {E w : World} {F : List HP}
set_option maxRecDepth 20000 in
theorem first_c {l : List Nat} {n : Int} {K : Int → Int → Bool → World → Prop} (h : Hp E w F) (hl : l.length = 258) (hv : ksum l ≤ 32768)
    (hK : ∀ ys w', IsOrd l ys → Hp E w' F → K ((firstTo l ys n ys.length).1 : Int) ((firstTo l ys n ys.length).2 : Int) (decide (((firstTo l ys n ys.length).2 : Int) > 0)) w') :
    Cl Try.prog [kInt .u32, kI, kB] n_canonical_First ⟨[.agg (ai .u8 l), .int .i64 n]⟩ w K := by
  refine canonical_First.ok _ _ _ _ ?_
  unfold canonical_First.E
  rw [ai_zero]
  refine Nw.mk h fun b w1 h1 => Ld.arr h1 (by rw [ai_size, hl]) (codes_c h1 hl (fun hn => absurd hv hn) fun _ ys w2 hys h2 => ?_)
  have hlen := ord_le hl hys
  refine Nw.mk h2 fun b2 w3 h3 => StA.blk h3 (by rw [ai_size]; simp) (by rw [ai_size, codesTo_len]) ai_scalar fun w4 h4 => ?_
  refine Ld.arr h4.p1 (by rw [ai_size, hl]) (order_c h4 hl (fun hn => absurd hv hn) fun _ zs s w6 hzs h6 => ?_)
  obtain rfl := ord_same hys hzs
  have hpl := h6.ownLen
  simp only [ints, List.length_map, Nat.mul_one] at hpl
  refine ⟨fun c m i w' => ∃ k : Nat, i = (k : Int) ∧ k ≤ ys.length ∧ c = ((firstTo l ys n k).1 : Int) ∧ m = ((firstTo l ys n k).2 : Int) ∧ Hp E w' (OwnS 1 s ((ints ys).map vI) :: Blk b2 (.cells (ai .u32 (codesTo l ys ys.length)) 28 (0, 0)) :: Blk b (.cells (ai .u8 l) 23 (0, 0)) :: F), fun _ _ i _ => ys.length - i.toNat, ⟨0, rfl, by omega, rfl, rfl, h6⟩, ?_⟩
  rintro c m i w' ⟨k, rfl, hk, rfl, rfl, hh⟩
  have hfl := firstTo_le l ys n k
  refine IfB.mk (fun hlt => ?_) (fun hge => ?_)
  · have hlt : k < ys.length := by have := of_decide_eq_true hlt; omega
    have hin := ord_in hl hys _ (List.getElem_mem hlt)
    have h15 := len15 hv ys[k]
    refine rdI hh (by omega) (x := (ys[k] : Int)) (by simp [ints, hlt]) ?_
    refine IdxP.rd (s := .int .u8) hh.p2 (by omega) (by omega) _ (getI (by omega)) ?_
    rw [i64_id (x := (l.getD ys[k] 0 : Int)) (by omega), i64_id (x := (k : Int) + 1) (by omega), i64_id (by omega)]
    have es : firstTo l ys n (k + 1) = if (l.getD ys[k] 0 : Int) = n then (if (firstTo l ys n k).2 = 0 then (codesTo l ys ys.length).getD ys[k] 0 else (firstTo l ys n k).1, (firstTo l ys n k).2 + 1) else firstTo l ys n k := by
      rw [firstTo, getD_at hlt]
    refine IfB.mk (fun hne => ?_) (fun heq => ?_)
    · have hne : ¬ (l.getD ys[k] 0 : Int) = n := by simpa using hne
      rw [if_neg hne] at es
      exact ⟨⟨k + 1, rfl, by omega, by rw [es], by rw [es], hh⟩, by dsimp only; omega⟩
    · have heq : (l.getD ys[k] 0 : Int) = n := by simpa using heq
      rw [if_pos heq] at es
      refine IfB.mk (fun h1 => ?_) (fun h1 => ?_)
      · have h1 : (firstTo l ys n k).2 = 0 := by have : ((firstTo l ys n k).2 : Int) + 1 = 1 := by simpa using h1
                                                 omega
        refine IdxP.rd (s := .int .u32) hh.p1 (by omega) (by omega) _ (getI (by rw [codesTo_len]; omega)) ?_
        rw [if_pos h1] at es
        exact ⟨⟨k + 1, rfl, by omega, by rw [es], by rw [es]; rfl, hh⟩, by dsimp only; omega⟩
      · have h1 : ¬ (firstTo l ys n k).2 = 0 := by have : ¬ ((firstTo l ys n k).2 : Int) + 1 = 1 := by simpa using h1
                                                   omega
        rw [if_neg h1] at es
        exact ⟨⟨k + 1, rfl, by omega, by rw [es], by rw [es]; rfl, hh⟩, by dsimp only; omega⟩
  · have hge : k = ys.length := by have := of_decide_eq_false hge; omega
    subst hge
    exact hK ys w' hys hh.drop.drop.drop
/-! the examples -/
def exA : List Nat := 3 :: 3 :: 2 :: 1 :: List.replicate 254 0
def exB : List Nat := 1 :: 1 :: 1 :: List.replicate 255 0
def exC : List Nat := 16 :: List.replicate 257 0
def exCodes : List Nat := 6 :: 7 :: 2 :: 0 :: List.replicate 254 0
theorem exA_sum : ksum exA = 32768 := by decide +kernel
theorem exB_sum : ¬ ksum exB ≤ 32768 := by decide +kernel
theorem exC_sum : ¬ ksum exC ≤ 32768 := by decide +kernel
theorem exA_ord : IsOrd exA [3, 2, 0, 1] := by
  constructor
  · have : used exA = [0, 1, 2, 3] := by decide +kernel
    rw [this]; decide
  · decide +kernel
theorem exA_codes : codesTo exA [3, 2, 0, 1] 4 = exCodes := by decide +kernel
theorem exA_find1 : findAt ((7 : Int), (3 : Int)) (spell exA [3, 2, 0, 1] 4) 0 = some (3, 1) := by decide +kernel
theorem exA_find2 : findAt ((7 : Int), (4 : Int)) (spell exA [3, 2, 0, 1] 4) 0 = none := by decide +kernel
theorem exA_first1 : firstTo exA [3, 2, 0, 1] 3 4 = (6, 2) := by decide +kernel
theorem exA_first2 : firstTo exA [3, 2, 0, 1] 4 4 = (0, 0) := by decide +kernel
set_option maxRecDepth 20000 in
theorem wakes09_c {K : Bool → World → Prop} (h : Hp E w F) (hK : ∀ w', Hp E w' F → K true w') : Cl Try.prog [kB] n_law09_wakes ⟨[]⟩ w K := by
  have hv : ksum exA ≤ 32768 := Nat.le_of_eq exA_sum
  have hl : exA.length = 258 := by decide +kernel
  refine law09_wakes.ok _ _ ?_
  unfold law09_wakes.E
  rw [ai_zero, ai_zero]
  refine ⟨ai .u8 exA, by kernel_rfl, Nw.mk h fun b1 w1 h1 => StA.blk h1 (by rw [ai_size]; simp) (by rw [ai_size, hl]) ai_scalar fun w2 h2 => Ld.arr h2 (by rw [ai_size, hl]) (codes_c h2 hl (fun hn => absurd hv hn) fun _ ys w3 hys h3 => ?_)⟩
  obtain rfl := ord_same hys exA_ord
  have hcl : (codesTo exA [3, 2, 0, 1] 4).length = 258 := codesTo_len _ _ _
  refine Nw.mk h3 fun b2 w4 h4 => StA.blk h4 (by rw [ai_size]; simp) (by rw [ai_size]; exact hcl) ai_scalar fun w5 h5 => ?_
  refine ⟨ai .u8 exB, by kernel_rfl, codes_c h5 (by decide +kernel) (fun _ w6 h6 => ?_) (fun hn => absurd hn exB_sum)⟩
  refine Nw.mk h6 fun b3 w7 h7 => StA.blk h7 (by rw [ai_size]; simp) (by rw [ai_size]; simp) ai_scalar fun w8 h8 => ?_
  refine ⟨ai .u8 exC, by kernel_rfl, codes_c h8 (by decide +kernel) (fun _ w9 h9 => ?_) (fun hn => absurd hn exC_sum)⟩
  refine Nw.mk h9 fun b4 w10 h10 => StA.blk h10 (by rw [ai_size]; simp) (by rw [ai_size]; simp) ai_scalar fun w11 h11 => ?_
  refine Ld.arr h11.p3 (by rw [ai_size, hl]) (find_c h11 hl hv fun zs w12 hzs h12 => ?_)
  obtain rfl := ord_same hzs exA_ord
  rw [show List.length [3, 2, 0, 1] = 4 from rfl, exA_find1]
  refine Ld.arr h12.p3 (by rw [ai_size, hl]) (find_c h12 hl hv fun zs w13 hzs h13 => ?_)
  obtain rfl := ord_same hzs exA_ord
  rw [show List.length [3, 2, 0, 1] = 4 from rfl, exA_find2]
  refine Ld.arr h13.p3 (by rw [ai_size, hl]) (first_c h13 hl hv fun zs w14 hzs h14 => ?_)
  obtain rfl := ord_same hzs exA_ord
  rw [show List.length [3, 2, 0, 1] = 4 from rfl, exA_first1]
  refine Ld.arr h14.p3 (by rw [ai_size, hl]) (first_c h14 hl hv fun zs w15 hzs h15 => ?_)
  obtain rfl := ord_same hzs exA_ord
  rw [show List.length [3, 2, 0, 1] = 4 from rfl, exA_first2]
  refine IfB.t rfl (Ld.arr h15.p2 (by rw [ai_size]; exact hcl) ⟨ai .u32 exCodes, by kernel_rfl, EqA.mk hcl (by decide +kernel) (IfB.t (by rw [show List.length [3, 2, 0, 1] = 4 from rfl, exA_codes]; simp) ?_)⟩)
  iterate 9 refine IfB.t (by decide) ?_
  refine Ld.arr h15.p3 (by rw [ai_size, hl]) (order_c h15 hl (fun hn => absurd hv hn) fun _ zs s w16 hzs h16 => ?_)
  obtain rfl := ord_same hzs exA_ord
  refine Nw.mk h16 fun b5 w17 h17 => ints_c (s2 := ⟨some ⟨b5, 0, none⟩, 4, 4⟩) (a := [3, 2, 0, 1]) (b := [3, 2, 0, 1]) h17 (Tells.cons Tells.own) (Tells.blk rfl rfl) (by rw [big_eq]; decide) fun w18 h18 => IfB.t rfl ?_
  have h19 := h18.drop.drop
  refine Ld.arr h19.p3 (by rw [ai_size, hl]) (cvalid_c h19 hl fun w20 h20 => IfB.t (by simpa using hv) ?_)
  refine ⟨ai .u8 exB, by kernel_rfl, cvalid_c h20 (by decide +kernel) fun w21 h21 => ?_⟩
  have e : decide (ksum exB ≤ 32768) = false := decide_eq_false exB_sum
  rw [e]
  exact hK w21 h21.drop.drop.drop.drop
theorem begins_c {a m b n : Nat} {K : Bool → World → Prop} (hm : m ≤ 15) (hn : n ≤ 15) (hK : K (decide (m ≤ n ∧ b / 2 ^ (n - m) = a)) w) : Cl Try.prog [kB] n_law09_begins ⟨[.int .u32 (a : Int), .int .u8 (m : Int), .int .u32 (b : Int), .int .u8 (n : Int)]⟩ w K := by
  refine law09_begins.ok _ _ _ _ _ _ ?_
  unfold law09_begins.E
  refine IfB.mk (fun h => ?_) (fun h => ?_)
  · have h : m ≤ n := by have := of_decide_eq_true h; omega
    have e1 : u64 (u8 ((n : Int) - (m : Int))) = ((n - m : Nat) : Int) := by rw [u8_id (by omega), u64_id (by omega)]; omega
    rw [e1]
    refine ⟨by omega, ?_⟩
    rw [ishr_nat (by have : IntKind.bits .u32 = 32 := rfl; omega)]
    have e2 : (((b / 2 ^ (n - m) : Nat) : Int) == (a : Int)) = decide (m ≤ n ∧ b / 2 ^ (n - m) = a) := by
      rw [Bool.eq_iff_iff]
      simp only [beq_iff_eq, decide_eq_true_eq, h, true_and]
      exact Int.ofNat_inj
    rw [e2]; exact hK
  · have h : ¬ m ≤ n := by have := of_decide_eq_false h; omega
    have e2 : decide (m ≤ n ∧ b / 2 ^ (n - m) = a) = false := decide_eq_false fun hh => h hh.1
    rw [e2] at hK; exact hK
end
end Go.Proofs.Ytcidpcahgkngjaa
