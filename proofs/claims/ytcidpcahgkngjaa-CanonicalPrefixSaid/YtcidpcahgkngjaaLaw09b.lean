/-
  What the laws CanonicalPrefix and CanonicalWhole answer. Conditions: as each theorem states.
-/
import Derived.Test.YtcidpcahgkngjaaLaw09
namespace Go.Proofs.Ytcidpcahgkngjaa
open Go Go.Vc Go.Srt
section
variable {E w : World} {F : List HP}
theorem shl_code {l ys : List Nat} (hl : l.length = 258) (hv : ksum l ≤ 32768) (h : IsOrd l ys) {k : Nat} (hk : k < ys.length) :
    ishl .u32 ((codesTo l ys ys.length).getD ys[k] 0 : Int) (u64 (i64 (15 - i64 (l.getD ys[k] 0 : Int)))) = (Srt.start l ys k : Int) ∧ (0 : Int) ≤ u64 (i64 (15 - i64 (l.getD ys[k] 0 : Int))) := by
  have h15 := len15 hv ys[k]
  obtain ⟨h1, h2, h3⟩ := codesTo_lt hl hv h hk
  have h4 := codeAt_mul h hk
  have h5 := start_le hv h (Nat.le_of_lt hk)
  unfold sh at h4
  have e1 : u64 (i64 (15 - i64 (l.getD ys[k] 0 : Int))) = ((15 - l.getD ys[k] 0 : Nat) : Int) := by
    rw [i64_id (x := (l.getD ys[k] 0 : Int)) (by omega), i64_id (by omega), u64_id (by omega)]; omega
  rw [e1, h1]
  refine ⟨?_, by omega⟩
  have hm : IntKind.max .u32 = 4294967295 := rfl
  rw [ishl_nat (by have : IntKind.bits .u32 = 32 := rfl; omega) (by rw [hm, h4]; omega), h4]
set_option maxRecDepth 20000 in
theorem prefix_law {l : List Nat} {K : Bool → World → Prop} (h : Hp E w F) (hl : l.length = 258) (hK : ∀ w', Hp E w' F → K true w') : Cl Try.prog [kB] n_law09_CanonicalPrefix ⟨[.agg (ai .u8 l)]⟩ w K := by
  refine law09_CanonicalPrefix.ok _ _ _ ?_
  unfold law09_CanonicalPrefix.E
  rw [ai_zero]
  simp only [Join_eq]
  refine Nw.mk h fun b w1 h1 => Ld.arr h1 (by rw [ai_size, hl]) (rsum_c h1 hl fun r w2 hr1 hr2 h2 => ?_)
  refine IfB.mk (fun _ => wakes09_c h2.drop hK) (fun hle => ?_)
  have hv : ksum l ≤ 32768 := hr1.1 (by have := of_decide_eq_false hle; omega)
  refine Ld.arr h2 (by rw [ai_size, hl]) (codes_c h2 hl (fun hn => absurd hv hn) fun _ ys w3 hys h3 => ?_)
  have hlen := ord_le hl hys
  refine Nw.mk h3 fun b2 w4 h4 => StA.blk h4 (by rw [ai_size]; simp) (by rw [ai_size, codesTo_len]) ai_scalar fun w5 h5 => ?_
  refine Ld.arr h5.p1 (by rw [ai_size, hl]) (order_c h5 hl (fun hn => absurd hv hn) fun _ zs s w6 hzs h6 => ?_)
  obtain rfl := ord_same hys hzs
  have hpl := h6.ownLen
  simp only [ints, List.length_map, Nat.mul_one] at hpl
  refine IfB.f rfl ?_
  refine ⟨fun i w' => ∃ k : Nat, i = (k : Int) ∧ k ≤ ys.length ∧ Hp E w' (OwnS 1 s ((ints ys).map vI) :: Blk b2 (.cells (ai .u32 (codesTo l ys ys.length)) 28 (0, 0)) :: Blk b (.cells (ai .u8 l) 23 (0, 0)) :: F), fun i _ => ys.length - i.toNat, ⟨0, rfl, by omega, h6⟩, ?_⟩
  rintro i w' ⟨k, rfl, hk, hh⟩
  refine IfB.mk (fun hlt => ?_) (fun hge => ?_)
  · have hlt : k < ys.length := by have := of_decide_eq_true hlt; omega
    have hin := ord_in hl hys _ (List.getElem_mem hlt)
    have h15 := len15 hv ys[k]
    obtain ⟨hc1, hc2, hc3⟩ := codesTo_lt hl hv hys hlt
    refine rdI hh (by omega) (x := (ys[k] : Int)) (by simp [ints, hlt]) ?_
    refine Drw.mk hh fun w7 h7 => IfB.f (decide_eq_false (by omega)) (IfB.f (decide_eq_false (by omega)) ?_)
    refine IdxP.rd (s := .int .u8) h7.p2 (by omega) (by omega) _ (getI (by omega)) (IfB.f (decide_eq_false (by omega)) ?_)
    refine IdxP.rd (s := .int .u32) h7.p1 (by omega) (by omega) _ (getI (by rw [codesTo_len]; omega)) ?_
    refine IdxP.rd (s := .int .u8) h7.p2 (by omega) (by omega) _ (getI (by omega)) ?_
    rw [u64_id (x := (l.getD ys[k] 0 : Int)) (by omega)]
    have hm : IntKind.max .u32 = 4294967295 := rfl
    have hp15 : 2 ^ l.getD ys[k] 0 ≤ 2 ^ 15 := Nat.pow_le_pow_right (by decide) h15
    have e1 := ishl_nat (k := .u32) (a := 1) (b := l.getD ys[k] 0) (by have : IntKind.bits .u32 = 32 := rfl; omega) (by rw [hm]; omega)
    refine ⟨by omega, IfB.f (decide_eq_false ?_) ?_⟩
    · rw [show (1 : Int) = ((1 : Nat) : Int) from rfl, e1, hc1, Nat.one_mul]
      omega
    · rw [i64_id (x := (k : Int) + 1) (by omega)]
      have step : ∀ w', Hp E w' (OwnS 1 s ((ints ys).map vI) :: Blk b2 (.cells (ai .u32 (codesTo l ys ys.length)) 28 (0, 0)) :: Blk b (.cells (ai .u8 l) 23 (0, 0)) :: F) →
          (∃ k' : Nat, (k : Int) + 1 = (k' : Int) ∧ k' ≤ ys.length ∧ Hp E w' (OwnS 1 s ((ints ys).map vI) :: Blk b2 (.cells (ai .u32 (codesTo l ys ys.length)) 28 (0, 0)) :: Blk b (.cells (ai .u8 l) 23 (0, 0)) :: F)) ∧ ys.length - ((k : Int) + 1).toNat < ys.length - ((k : Int)).toNat :=
        fun w' h' => ⟨⟨k + 1, rfl, by omega, h'⟩, by omega⟩
      refine IfB.mk (fun h0 => ?_) (fun h0 => ?_)
      · have h0 : k = 0 := by have : (k : Int) = 0 := by simpa using h0
                              omega
        refine IdxP.rd (s := .int .u32) h7.p1 (by omega) (by omega) _ (getI (by rw [codesTo_len]; omega)) (IfB.f ?_ (step _ h7))
        rw [hc1]
        subst h0
        simp [codeAt, Srt.start]
      · have h0 : k ≠ 0 := by have : ¬ (k : Int) = 0 := by simpa using h0
                              omega
        have hk1 : k - 1 < ys.length := by omega
        have hin' := ord_in hl hys _ (List.getElem_mem hk1)
        have h15' := len15 hv ys[k - 1]
        obtain ⟨hd1, hd2, hd3⟩ := codesTo_lt hl hv hys hk1
        have hmono := ord_len hys hlt (show k - 1 ≤ k by omega)
        have hpw := (List.pairwise_iff_getElem.1 hys.2) (k - 1) k hk1 hlt (by omega)
        obtain ⟨s1, s2⟩ := shl_code hl hv hys hlt
        obtain ⟨t1, t2⟩ := shl_code hl hv hys hk1
        have hgo := go_le (l := l) (show k - 1 < k by omega) hlt
        have hpos := sh_pos l ys[k - 1]
        have hlat := later hys (show k - 1 < k by omega) hlt
        rw [i64_id (x := (k : Int) - 1) (by omega)]
        refine rdI h7 (by omega) (x := (ys[k - 1] : Int)) (by simp [ints, show ((k : Int) - 1).toNat = k - 1 by omega, hk1]) ?_
        refine Drw.mk h7 fun w8 h8 => ?_
        refine IdxP.rd (s := .int .u8) h8.p2 (by omega) (by omega) _ (getI (by omega)) ?_
        refine IdxP.rd (s := .int .u8) h8.p2 (by omega) (by omega) _ (getI (by omega)) ?_
        refine IfB.f (decide_eq_false (by omega)) ?_
        refine IdxP.rd (s := .int .u8) h8.p2 (by omega) (by omega) _ (getI (by omega)) ?_
        refine IdxP.rd (s := .int .u8) h8.p2 (by omega) (by omega) _ (getI (by omega)) ?_
        refine IfB.mk (fun heq => IfB.f (decide_eq_false ?_) ?_) (fun _ => ?_)
        · have heq : (l.getD ys[k - 1] 0 : Int) = (l.getD ys[k] 0 : Int) := by simpa using heq
          omega
        all_goals
          refine IdxP.rd (s := .int .u32) h8.p1 (by omega) (by omega) _ (getI (by rw [codesTo_len]; omega)) ?_
          refine IdxP.rd (s := .int .u8) h8.p2 (by omega) (by omega) _ (getI (by omega)) ?_
          refine ⟨s2, ?_⟩
          refine IdxP.rd (s := .int .u32) h8.p1 (by omega) (by omega) _ (getI (by rw [codesTo_len]; omega)) ?_
          refine IdxP.rd (s := .int .u8) h8.p2 (by omega) (by omega) _ (getI (by omega)) ?_
          refine ⟨t2, ?_⟩
          rw [s1, t1]
          refine IfB.f (decide_eq_false (by omega)) ?_
          refine IdxP.rd (s := .int .u32) h8.p1 (by omega) (by omega) _ (getI (by rw [codesTo_len]; omega)) ?_
          refine IdxP.rd (s := .int .u8) h8.p2 (by omega) (by omega) _ (getI (by omega)) ?_
          refine IdxP.rd (s := .int .u32) h8.p1 (by omega) (by omega) _ (getI (by rw [codesTo_len]; omega)) ?_
          refine IdxP.rd (s := .int .u8) h8.p2 (by omega) (by omega) _ (getI (by omega)) ?_
          refine begins_c h15' h15 (IfB.f (decide_eq_false ?_) (step _ h8))
          rw [hc1, hd1]
          omega
  · have hge : k = ys.length := by have := of_decide_eq_false hge; omega
    refine ⟨fun i w' => ∃ k : Nat, i = (k : Int) ∧ k ≤ ys.length ∧ Hp E w' (OwnS 1 s ((ints ys).map vI) :: Blk b2 (.cells (ai .u32 (codesTo l ys ys.length)) 28 (0, 0)) :: Blk b (.cells (ai .u8 l) 23 (0, 0)) :: F), fun i _ => ys.length - i.toNat, ⟨0, rfl, by omega, hh⟩, ?_⟩
    rintro i w2 ⟨j, rfl, hj, hh⟩
    refine IfB.mk (fun hlt => ?_) (fun hge => wakes09_c hh.drop.drop.drop hK)
    have hlt : j < ys.length := by have := of_decide_eq_true hlt; omega
    have hin := ord_in hl hys _ (List.getElem_mem hlt)
    have h15 := len15 hv ys[j]
    obtain ⟨hc1, hc2, hc3⟩ := codesTo_lt hl hv hys hlt
    rw [i64_id (x := (j : Int) + 1) (by omega)]
    refine ⟨fun i w' => ∃ k : Nat, i = (k : Int) ∧ k ≤ j ∧ Hp E w' (OwnS 1 s ((ints ys).map vI) :: Blk b2 (.cells (ai .u32 (codesTo l ys ys.length)) 28 (0, 0)) :: Blk b (.cells (ai .u8 l) 23 (0, 0)) :: F), fun i _ => j - i.toNat, ⟨0, rfl, by omega, hh⟩, ?_⟩
    rintro i w3 ⟨m, rfl, hm, hh⟩
    refine IfB.mk (fun hlt2 => IfB.mk (fun _ => ?_) (fun _ => ⟨⟨j + 1, rfl, by omega, hh⟩, by dsimp only; omega⟩)) (fun _ => ⟨⟨j + 1, rfl, by omega, hh⟩, by dsimp only; omega⟩)
    have hlt2 : m < j := by have := of_decide_eq_true hlt2; omega
    have hml : m < ys.length := by omega
    have hin' := ord_in hl hys _ (List.getElem_mem hml)
    have h15' := len15 hv ys[m]
    obtain ⟨hd1, hd2, hd3⟩ := codesTo_lt hl hv hys hml
    have hlat := later hys hlt2 hlt
    refine Drw.mk hh fun w4 h4 => ?_
    refine rdI h4 (by omega) (x := (ys[m] : Int)) (by simp [ints, hml]) ?_
    refine IdxP.rd (s := .int .u32) h4.p1 (by omega) (by omega) _ (getI (by rw [codesTo_len]; omega)) ?_
    refine rdI h4 (by omega) (x := (ys[m] : Int)) (by simp [ints, hml]) ?_
    refine IdxP.rd (s := .int .u8) h4.p2 (by omega) (by omega) _ (getI (by omega)) ?_
    refine rdI h4 (by omega) (x := (ys[j] : Int)) (by simp [ints, hlt]) ?_
    refine IdxP.rd (s := .int .u32) h4.p1 (by omega) (by omega) _ (getI (by rw [codesTo_len]; omega)) ?_
    refine rdI h4 (by omega) (x := (ys[j] : Int)) (by simp [ints, hlt]) ?_
    refine IdxP.rd (s := .int .u8) h4.p2 (by omega) (by omega) _ (getI (by omega)) ?_
    refine begins_c h15' h15 (IfB.f (decide_eq_false ?_) ?_)
    · rw [hc1, hd1]
      omega
    · rw [i64_id (by omega)]
      exact ⟨⟨m + 1, rfl, by omega, h4⟩, by dsimp only; omega⟩
theorem whole_end {b1 b2 b3 : Bool} {X Y : Prop} (h2 : b2 = true) (h3 : b1 = false → b3 = true) (hX : X) : IfB b1 (IfB b2 X Y) (IfB b3 (IfB b2 X Y) Y) := by
  subst h2
  cases b1
  · have := h3 rfl
    subst this
    exact hX
  · exact hX
theorem whole_eq {a s d : Nat} (hd : d < 32768) (ha : a = if d < s then 1 else 0) : (((a : Int) == 1) == decide ((d : Int) < (s : Int))) = true ∧ (decide ((s : Int) < 32768) = false → ((a : Int) == 1) = true) := by
  subst ha
  constructor
  · by_cases hds : d < s
    · simp [hds]
    · simp [hds]
  · intro h
    have h := of_decide_eq_false h
    rw [if_pos (by omega)]; rfl
set_option maxRecDepth 20000 in
theorem whole_law {l : List Nat} {bits : Nat} {K : Bool → World → Prop} (h : Hp E w F) (hl : l.length = 258) (hb : bits < 4294967296) (hK : ∀ w', Hp E w' F → K true w') : Cl Try.prog [kB] n_law09_CanonicalWhole ⟨[.agg (ai .u8 l), .int .u32 (bits : Int)]⟩ w K := by
  refine law09_CanonicalWhole.ok _ _ _ _ ?_
  unfold law09_CanonicalWhole.E
  rw [ai_zero]
  refine Nw.mk h fun b w1 h1 => Ld.arr h1 (by rw [ai_size, hl]) (rsum_c h1 hl fun r w2 hr1 hr2 h2 => ?_)
  refine IfB.mk (fun _ => wakes09_c h2.drop hK) (fun hle => ?_)
  have hv : ksum l ≤ 32768 := hr1.1 (by have := of_decide_eq_false hle; omega)
  obtain rfl := hr2 hv
  refine Ld.arr h2 (by rw [ai_size, hl]) (codes_c h2 hl (fun hn => absurd hv hn) fun _ ys w3 hys h3 => ?_)
  refine Nw.mk h3 fun b2 w4 h4 => StA.blk h4 (by rw [ai_size]; simp) (by rw [ai_size, codesTo_len]) ai_scalar fun w5 h5 => ⟨by decide, ?_⟩
  have et : Int.tmod (bits : Int) 32768 = ((bits % 32768 : Nat) : Int) := by
    rw [Int.tmod_eq_emod_of_nonneg (by omega)]; omega
  rw [et]
  have hm : bits % 32768 < 32768 := Nat.mod_lt _ (by decide)
  generalize bits % 32768 = d at hm
  refine ⟨fun n i w' => ∃ k : Nat, i = (k : Int) ∧ k ≤ 258 ∧ n = (hits l (codesTo l ys ys.length) d k : Int) ∧ Hp E w' (Blk b2 (.cells (ai .u32 (codesTo l ys ys.length)) 28 (0, 0)) :: Blk b (.cells (ai .u8 l) 23 (0, 0)) :: F), fun _ i _ => 258 - i.toNat, ⟨0, rfl, by omega, rfl, h5⟩, ?_⟩
  rintro n i w' ⟨k, rfl, hk, rfl, hh⟩
  refine IfB.mk (fun hlt => ?_) (fun hge => ?_)
  · have hlt : k < 258 := by have := of_decide_eq_true hlt; omega
    have hle := hits_le l (codesTo l ys ys.length) d k
    have hs := hits_succ (l := l) (c := codesTo l ys ys.length) (bits := d) (k := k)
    have h15 := len15 hv k
    refine Drw.mk hh fun w7 h7 => ?_
    refine IdxP.rd (s := .int .u8) h7.p1 (by omega) (by omega) _ (getI (by omega)) ?_
    rw [i64_id (x := (hits l (codesTo l ys ys.length) d k : Int) + 1) (by omega), i64_id (x := (k : Int) + 1) (by omega)]
    refine IfB.mk (fun hp => ?_) (fun hp => ?_)
    · have hp : 0 < l.getD k 0 := by have := of_decide_eq_true hp; omega
      refine IdxP.rd (s := .int .u8) h7.p1 (by omega) (by omega) _ (getI (by omega)) ?_
      have e1 : u64 (i64 (15 - i64 (l.getD k 0 : Int))) = ((15 - l.getD k 0 : Nat) : Int) := by
        rw [i64_id (x := (l.getD k 0 : Int)) (by omega), i64_id (by omega), u64_id (by omega)]; omega
      rw [e1]
      refine ⟨by omega, ?_⟩
      rw [ishr_nat (by have : IntKind.bits .u32 = 32 := rfl; omega)]
      refine IdxP.rd (s := .int .u32) h7 (by omega) (by omega) _ (getI (by rw [codesTo_len]; omega)) ?_
      refine IfB.mk (fun he => ?_) (fun he => ?_)
      · have he : d / 2 ^ (15 - l.getD k 0) = (codesTo l ys ys.length).getD k 0 := Int.ofNat_inj.1 (by simpa only [beq_iff_eq] using he)
        rw [if_pos ⟨hp, he⟩] at hs
        exact ⟨⟨k + 1, rfl, by omega, by rw [hs]; rfl, h7⟩, by dsimp only; omega⟩
      · have he : ¬ d / 2 ^ (15 - l.getD k 0) = (codesTo l ys ys.length).getD k 0 := fun h' => by
          rw [h'] at he; simp at he
        rw [if_neg (fun h' => he h'.2)] at hs
        exact ⟨⟨k + 1, rfl, by omega, by rw [hs]; rfl, h7⟩, by dsimp only; omega⟩
    · have hp : ¬ 0 < l.getD k 0 := by have := of_decide_eq_false hp; omega
      rw [if_neg (fun h' => hp h'.1)] at hs
      exact ⟨⟨k + 1, rfl, by omega, by rw [hs]; rfl, h7⟩, by dsimp only; omega⟩
  · have hge : k = 258 := by have := of_decide_eq_false hge; omega
    subst hge
    have ha := hits_all hv hys (fun s hs => (ord_in hl hys s hs).1) d
    rw [hl] at ha
    have hm1 : hits l (codesTo l ys ys.length) d 258 ≤ 1 := by rw [ha]; split <;> decide
    rw [i64_id (by omega)]
    have e3 : decide ((hits l (codesTo l ys ys.length) d 258 : Int) ≤ 1) = true := decide_eq_true (by omega)
    obtain ⟨e4, e5⟩ := whole_eq hm ha
    have hX := wakes09_c hh.drop.drop hK
    refine IfB.t rfl (IfB.t e3 ?_)
    with_reducible exact whole_end e4 e5 hX
end
end Go.Proofs.Ytcidpcahgkngjaa
