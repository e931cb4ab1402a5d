/-
  What Valid, Order, Codes and Find of the reference winepressref09 compute. Conditions: as each theorem states.
-/
import Derived.Test.YtajpnkioigcejaaRef07s
import Derived.Test.YtajpnkioigcejaaOrd
import Derived.Test.YtajpnkioigcejaaTbl
import Derived.Test.YtajpnkioigcejaaEnc
namespace Go.Srt
/-- the symbols with a code of at most N bits, by lengths -/
def ordL (l : List Nat) (N : Nat) : List Nat := (List.range N).flatMap fun n => (List.range 258).filter fun s => l.getD s 0 == n + 1
theorem ordL_mem {l : List Nat} {N s : Nat} : s ∈ ordL l N ↔ s < 258 ∧ 0 < l.getD s 0 ∧ l.getD s 0 ≤ N := by
  unfold ordL
  simp only [List.mem_flatMap, List.mem_range, List.mem_filter, beq_iff_eq]
  constructor
  · rintro ⟨n, h1, h2, h3⟩; omega
  · rintro ⟨h1, h2, h3⟩; exact ⟨l.getD s 0 - 1, by omega, h1, by omega⟩
theorem ordL_sorted (l : List Nat) (N : Nat) : (ordL l N).Pairwise fun a b => l.getD a 0 < l.getD b 0 ∨ (l.getD a 0 = l.getD b 0 ∧ a < b) := by
  unfold ordL
  rw [List.pairwise_flatMap]
  refine ⟨fun n _ => ?_, ?_⟩
  · have h : (List.range 258).Pairwise fun a b => a < b := List.pairwise_lt_range
    refine List.Pairwise.imp_of_mem ?_ (h.filter _)
    intro a b ha hb hab
    have ha := (List.mem_filter.1 ha).2
    have hb := (List.mem_filter.1 hb).2
    rw [beq_iff_eq] at ha hb
    omega
  · refine List.pairwise_lt_range.imp ?_
    intro m n hmn a ha b hb
    have ha := (List.mem_filter.1 ha).2
    have hb := (List.mem_filter.1 hb).2
    rw [beq_iff_eq] at ha hb
    omega
theorem ordL_ord {l : List Nat} (hl : l.length = 258) (hv : ksum l ≤ 32768) : IsOrd l (ordL l 15) := by
  refine ⟨?_, ordL_sorted l 15⟩
  have n1 : (ordL l 15).Nodup := (ordL_sorted l 15).imp fun h => by rintro rfl; omega
  have n2 : (used l).Nodup := (List.nodup_range).filter _
  rw [List.perm_ext_iff_of_nodup n1 n2]
  intro s
  rw [ordL_mem, used_mem, hl]
  have := len15 hv s
  omega
theorem ordL_succ (l : List Nat) (N : Nat) : ordL l (N + 1) = ordL l N ++ (List.range 258).filter fun s => l.getD s 0 == N + 1 := by
  unfold ordL
  rw [List.range_succ (n := N), List.flatMap_append]
  simp
end Go.Srt
namespace Go.Proofs.Ytajpnkioigcejaa
open Go Go.Vc Go.Srt Go.Bits
section
variable {E w : World} {F : List HP}
theorem rValid9_c {l : List Nat} {K : Bool → World → Prop} (h : Hp E w F) (hl : l.length = 258) (hK : ∀ w', Hp E w' F → K (decide (ksum l ≤ 32768)) w') : Cl Try.prog [kB] n_ref09_Valid ⟨[.agg (ai .u8 l)]⟩ w K := by
  refine ref09_Valid.ok _ _ _ ?_
  unfold ref09_Valid.E
  refine Nw.mk h fun b w1 h1 => Ld.arr h1 (by rw [ai_size, hl]) (rsum_c h1 hl fun r w2 hr _ h2 => ?_)
  have : decide ((r : Int) ≤ 32768) = decide (ksum l ≤ 32768) := by rw [Bool.eq_iff_iff, decide_eq_true_eq, decide_eq_true_eq]; omega
  rw [this]
  exact hK _ h2.drop
set_option maxRecDepth 20000 in
theorem rOrder9_c {l : List Nat} {K : Sl → World → Prop} (h : Hp E w F) (hl : l.length = 258) (h8 : ∀ x ∈ l, x ≤ 255) (hv : ksum l ≤ 32768) (hK : ∀ ys s w', IsOrd l ys → Hp E w' (OwnS 1 s ((ints ys).map vI) :: F) → K s w') : Cl Try.prog [kS] n_ref09_Order ⟨[.agg (ai .u8 l)]⟩ w K := by
  refine ref09_Order.ok _ _ _ ?_
  unfold ref09_Order.E
  have hlen : ∀ N, (ordL l N).length ≤ 258 := fun N => by
    have h1 : (ordL l N).Nodup := (ordL_sorted l N).imp fun h => by rintro rfl; omega
    have h2 : ordL l N ⊆ List.range 258 := fun s hs => by have := (ordL_mem.1 hs).1; simpa using this
    have := h1.length_le_of_subset h2
    simpa using this
  refine Nw.mk h fun b w1 h1 => ?_
  refine ⟨fun o n w' => ∃ N : Nat, n = (N : Int) + 1 ∧ N ≤ 15 ∧ Hp E w' (OwnS 1 o ((ints (ordL l N)).map vI) :: Blk b (.cells (ai .u8 l) 23 (0, 0)) :: F), fun _ n _ => 20 - n.toNat, ⟨0, rfl, by omega, h1.ownNil 1⟩, ?_⟩
  rintro o n w' ⟨N, rfl, hN, hh⟩
  refine IfB.mk (fun hlt => ?_) (fun hge => ?_)
  · have hlt : N < 15 := by have := of_decide_eq_true hlt; omega
    refine Ld.arr hh.p1 (by rw [ai_size, hl]) (rValid9_c hh hl fun w2 h2 => IfB.t (decide_eq_true hv) ?_)
    refine ⟨fun o s w' => ∃ k : Nat, s = (k : Int) ∧ k ≤ 258 ∧ Hp E w' (OwnS 1 o ((ints (ordL l N ++ (List.range k).filter fun s => l.getD s 0 == N + 1)).map vI) :: Blk b (.cells (ai .u8 l) 23 (0, 0)) :: F), fun _ s _ => 258 - s.toNat, ⟨0, rfl, by omega, by simpa using h2⟩, ?_⟩
    rintro o2 s w3 ⟨k, rfl, hk, h3⟩
    refine IfB.mk (fun hlt2 => ?_) (fun hge2 => ?_)
    · have hlt2 : k < 258 := by have := of_decide_eq_true hlt2; omega
      have hg : l.getD k 0 ≤ 255 := by rw [getD_get (by omega)]; exact h8 _ (List.getElem_mem _)
      have hrs : (List.range (k + 1)).filter (fun s => l.getD s 0 == N + 1) = (List.range k).filter (fun s => l.getD s 0 == N + 1) ++ if l.getD k 0 = N + 1 then [k] else [] := by
        rw [List.range_succ, List.filter_append]
        congr 1
        by_cases e : l.getD k 0 = N + 1
        · rw [if_pos e, List.filter_cons_of_pos (by rw [beq_iff_eq]; exact e)]; rfl
        · rw [if_neg e, List.filter_cons_of_neg (by rw [beq_iff_eq]; exact e)]; rfl
      refine IdxP.rd (s := .int .u8) h3.p1 (by omega) (by omega) (l.getD k 0 : Int) (getN (by omega)) ?_
      rw [i64_id (x := (l.getD k 0 : Int)) (by omega), i64_id (x := (k : Int) + 1) (by omega)]
      refine IfB.mk (fun heq => ?_) (fun hne => ?_)
      · have heq : l.getD k 0 = N + 1 := by rw [beq_iff_eq] at heq; omega
        rw [if_pos heq] at hrs
        have hol := h3.ownLen
        have hl1 := hlen N
        have hl2 := List.length_filter_le (fun s => l.getD s 0 == N + 1) (List.range k)
        rw [List.length_range] at hl2
        rw [List.length_map, ints, List.length_map, List.length_append, Nat.mul_one] at hol
        refine Nw.mk h3 fun b20 w4 h4 => run_append (ys := [vI (k : Int)]) (n := 1) ty_ints (by decide) (.inl ⟨3, by kernel_rfl⟩) h4.p1 (.inl ⟨some ⟨b20, 0, none⟩, 1, 1, rfl, rfl, h4.tells (Tells.blk rfl rfl)⟩) rfl one_scalar (by omega) (by omega) fun s' w5 h5 hs' => ⟨⟨k + 1, rfl, by omega, ?_⟩, by dsimp only; omega⟩
        rw [hrs, ← List.append_assoc, ints_app, List.map_append]
        exact h5.p1.drop
      · have hne : l.getD k 0 ≠ N + 1 := by have := beq_eq_false_iff_ne.1 hne; omega
        rw [if_neg hne, List.append_nil] at hrs
        exact ⟨⟨k + 1, rfl, by omega, by rw [hrs]; exact h3⟩, by dsimp only; omega⟩
    · have hge2 : k = 258 := by have := of_decide_eq_false hge2; omega
      subst hge2
      rw [i64_id (by omega)]
      rw [← ordL_succ] at h3
      exact ⟨⟨N + 1, by omega, by omega, h3⟩, by dsimp only; omega⟩
  · have hge : N = 15 := by have := of_decide_eq_false hge; omega
    subst hge
    exact hK _ _ _ (ordL_ord hl hv) hh.p1.drop
set_option maxRecDepth 20000 in
theorem rCodes9_c {l : List Nat} {K : Array Value → Int → World → Prop} (h : Hp E w F) (hl : l.length = 258) (h8 : ∀ x ∈ l, x ≤ 255) (hK1 : ¬ ksum l ≤ 32768 → ∀ w', Hp E w' F → K (ai .u32 (List.replicate 258 0)) 2 w')
    (hK2 : ksum l ≤ 32768 → ∀ ys w', IsOrd l ys → Hp E w' F → K (ai .u32 (codesTo l ys ys.length)) 0 w') : Cl Try.prog [.arr 258, kI] n_ref09_Codes ⟨[.agg (ai .u8 l)]⟩ w K := by
  refine ref09_Codes.ok _ _ _ ?_
  unfold ref09_Codes.E
  rw [ai_zero]
  have hz : (ai .u32 (List.replicate 258 0)).size = 258 := by rw [ai_size]; exact List.length_replicate
  refine Nw.mk h fun b3 w1 h1 => Nw.mk h1 fun b5 w2 h2 => Nw.mk h2 fun b7 w3 h3 => Ld.arr h3.p2 (by rw [ai_size, hl]) (rValid9_c h3 hl fun w4 h4 => IfB.mk (fun hv => ?_) (fun hv => ?_))
  · have hv : ¬ ksum l ≤ 32768 := by simpa using hv
    exact Ld.arr h4 hz (StA.blk h4.p1 hz hz ai_scalar fun w5 h5 => Ld.arr h5 hz (hK1 hv w5 h5.drop.drop.drop))
  have hv : ksum l ≤ 32768 := by simpa using hv
  refine Ld.arr h4.p2 (by rw [ai_size, hl]) (rOrder9_c h4 hl h8 hv fun ys so w5 hys h5 => ?_)
  have hpl := h5.ownLen
  simp only [ints, List.length_map, Nat.mul_one] at hpl
  have hylen := ord_le hl hys
  have sized : ∀ i, (ai .u32 (codesTo l ys i)).size = 258 := fun i => by rw [ai_size, codesTo_len]
  have hc1 : 0 < ys.length → codesTo l ys 1 = List.replicate 258 0 := fun h0 => by
    rw [codesTo, codesTo]
    have : codeAt l ys 0 = 0 := by unfold codeAt Srt.start; simp
    rw [this, List.set_replicate_self]
  have fin : ∀ w' k, k = ys.length → Hp E w' (OwnS 1 so ((ints ys).map vI) :: Blk b7 (.cells (ai .u32 (codesTo l ys k)) 80 (0, 0)) :: Blk b5 (.cells (ai .u32 (List.replicate 258 0)) 80 (0, 0)) :: Blk b3 (.cells (ai .u8 l) 23 (0, 0)) :: F) →
      Ld (.arr 258) (⟨b7, 0, none⟩ : Addr) w' fun (x42 : (Array Value)) => StA 258 (⟨b5, 0, none⟩ : Addr) x42 w' fun (w_43 : World) => Ld (.arr 258) (⟨b5, 0, none⟩ : Addr) w_43 fun (res44 : (Array Value)) => K res44 0 w_43 := by
    rintro w' k rfl h'
    exact Ld.arr h'.p1 (sized _) (StA.blk h'.p2 hz (sized _) ai_scalar fun w6 h6 => Ld.arr h6 (sized _) (hK2 hv ys w6 hys h6.drop.drop.drop.drop))
  refine ⟨fun i w' => ∃ k : Nat, i = (k : Int) ∧ 1 ≤ k ∧ (k ≤ ys.length ∨ (ys.length = 0 ∧ k = 1)) ∧ Hp E w' (OwnS 1 so ((ints ys).map vI) :: Blk b7 (.cells (ai .u32 (codesTo l ys (if ys.length = 0 then 0 else k))) 80 (0, 0)) :: Blk b5 (.cells (ai .u32 (List.replicate 258 0)) 80 (0, 0)) :: Blk b3 (.cells (ai .u8 l) 23 (0, 0)) :: F),
    fun i _ => ys.length + 1 - i.toNat, ⟨1, rfl, by omega, by omega, ?_⟩, ?_⟩
  · by_cases e : ys.length = 0
    · rw [if_pos e]; exact h5
    · rw [if_neg e, hc1 (by omega)]; exact h5
  rintro i w6 ⟨k, rfl, hk1, hk, hh⟩
  refine IfB.mk (fun hlt => ?_) (fun hge => fin w6 (if ys.length = 0 then 0 else k) ?_ hh)
  · have hlt : k < ys.length := by have := of_decide_eq_true hlt; omega
    rw [if_neg (by omega)] at hh
    obtain ⟨j, rfl⟩ : ∃ j, k = j + 1 := ⟨k - 1, by omega⟩
    have hj : j < ys.length := by omega
    have hin0 := ord_in hl hys _ (List.getElem_mem hj)
    have hin1 := ord_in hl hys _ (List.getElem_mem hlt)
    have h15a := len15 hv ys[j]
    have h15b := len15 hv ys[j + 1]
    have hmono := ord_len hys hlt (show j ≤ j + 1 by omega)
    rw [i64_id (x := ((j + 1 : Nat) : Int) - 1) (by omega), show ((j + 1 : Nat) : Int) - 1 = (j : Int) by omega]
    have rdo : ∀ {w' : World} {F' : List HP} {m : Nat} {K : Int → Prop} (hm : m < ys.length), Hp E w' (OwnS 1 so ((ints ys).map vI) :: F') → K (ys[m] : Int) → Idx so (m : Int) 1 fun q => Ld kI q w' K := fun {w' F' m K} hm h' hK => by
      refine Idx.rd (h'.tells Tells.own) (by omega) (by omega) fun q hq hc => Ld.sc (s := .int .i64) (ys[m] : Int) (by rw [hc]; simp [ints, vI, Sc.enc]) hK
    have hca := codesTo_at hys (fun s hs => (ord_in hl hys s hs).1) (j + 1) (by omega) j hj (by omega)
    have hcl := codeAt_lt hv hys hj
    have hp : 2 ^ l.getD ys[j] 0 ≤ 2 ^ 15 := Nat.pow_le_pow_right (by decide) h15a
    have hp2 : (2 : Nat) ^ 15 = 32768 := by decide
    refine rdo hj hh (IdxP.rd (s := .int .u32) hh.p1 (by omega) (by omega) ((codesTo l ys (j + 1)).getD ys[j] 0 : Int) (getN (by rw [codesTo_len]; omega)) ?_)
    refine rdo hj hh (IdxP.rd (s := .int .u8) hh.p3 (by omega) (by omega) (l.getD ys[j] 0 : Int) (getN (by omega)) ?_)
    rw [hca, u32_id (by omega)]
    have hnew : (codeAt l ys j + 1) * 2 ^ (l.getD ys[j + 1] 0 - l.getD ys[j] 0) = codeAt l ys (j + 1) := by
      have e1 := codeAt_mul hys hj
      have e2 := codeAt_mul hys hlt
      have e3 := start_succ (l := l) hj
      refine Nat.eq_of_mul_eq_mul_right (sh_pos l ys[j + 1]) ?_
      rw [e2, e3, ← e1, Nat.mul_assoc]
      have : 2 ^ (l.getD ys[j + 1] 0 - l.getD ys[j] 0) * sh l ys[j + 1] = sh l ys[j] := by
        unfold sh; rw [← Nat.pow_add]; congr 1; omega
      rw [this, Nat.succ_mul]
    have hcl1 := codeAt_lt hv hys hlt
    have hp1 : 2 ^ l.getD ys[j + 1] 0 ≤ 2 ^ 15 := Nat.pow_le_pow_right (by decide) h15b
    refine ⟨fun c kk w' => ∃ n : Nat, kk = ((l.getD ys[j] 0 + n : Nat) : Int) ∧ l.getD ys[j] 0 + n ≤ l.getD ys[j + 1] 0 ∧ c = (((codeAt l ys j + 1) * 2 ^ n : Nat) : Int) ∧ Hp E w' (OwnS 1 so ((ints ys).map vI) :: Blk b7 (.cells (ai .u32 (codesTo l ys (j + 1))) 80 (0, 0)) :: Blk b5 (.cells (ai .u32 (List.replicate 258 0)) 80 (0, 0)) :: Blk b3 (.cells (ai .u8 l) 23 (0, 0)) :: F),
      fun _ kk _ => 16 - kk.toNat, ⟨0, by omega, by omega, by simp, hh⟩, ?_⟩
    rintro c kk w7 ⟨n, rfl, hn, rfl, h7⟩
    refine rdo hlt h7 (IdxP.rd (s := .int .u8) h7.p3 (by omega) (by omega) (l.getD ys[j + 1] 0 : Int) (getN (by omega)) (IfB.mk (fun hl2 => ?_) (fun hg2 => ?_)))
    · have hl2 := of_decide_eq_true hl2
      have hle : (codeAt l ys j + 1) * 2 ^ (n + 1) ≤ codeAt l ys (j + 1) := by
        rw [← hnew]; exact Nat.mul_le_mul_left _ (Nat.pow_le_pow_right (by decide) (by omega))
      have hpw : (codeAt l ys j + 1) * 2 ^ (n + 1) = 2 * ((codeAt l ys j + 1) * 2 ^ n) := by rw [Nat.pow_succ, ← Nat.mul_assoc, Nat.mul_comm]
      rw [u32_id (by omega), u8_id (by omega)]
      exact ⟨⟨n + 1, by omega, by omega, by rw [hpw]; omega, h7⟩, by dsimp only; omega⟩
    · have hg2 := of_decide_eq_false hg2
      have hne : l.getD ys[j + 1] 0 - l.getD ys[j] 0 = n := by omega
      rw [hne] at hnew
      rw [hnew]
      refine rdo hlt h7 (IdxP.wr h7.p1 (by omega) (by omega) (sized _) rfl fun w8 h8 => ?_)
      rw [Int.toNat_natCast, ai_set] at h8
      rw [i64_id (by omega)]
      refine ⟨⟨j + 1 + 1, by omega, by omega, by omega, ?_⟩, by dsimp only; omega⟩
      rw [if_neg (by omega)]
      have : codesTo l ys (j + 1 + 1) = (codesTo l ys (j + 1)).set ys[j + 1] (codeAt l ys (j + 1)) := by rw [codesTo, getD_at hlt]
      rw [this]
      exact h8.p1
  · have := of_decide_eq_false hge
    by_cases e : ys.length = 0
    · rw [if_pos e]; omega
    · rw [if_neg e]; omega
set_option maxRecDepth 20000 in
theorem rFind9_c {l : List Nat} {c n : Nat} {K : Int → Bool → World → Prop} (h : Hp E w F) (hl : l.length = 258) (h8 : ∀ x ∈ l, x ≤ 255) (hv : ksum l ≤ 32768)
    (hK : ∀ w', Hp E w' F → K (((findS l c n).getD 0 : Nat) : Int) (findS l c n).isSome w') : Cl Try.prog [kI, kB] n_ref09_Find ⟨[.agg (ai .u8 l), .int .u32 (c : Int), .int .i64 (n : Int)]⟩ w K := by
  refine ref09_Find.ok _ _ _ _ _ ?_
  unfold ref09_Find.E
  rw [ai_zero]
  refine Nw.mk h fun b5 w1 h1 => Ld.arr h1 (by rw [ai_size, hl]) (rCodes9_c h1 hl h8 (fun hn => absurd hv hn) fun _ ys w2 hys h2 => ?_)
  refine Nw.mk h2 fun b11 w3 h3 => StA.blk h3 (by rw [ai_size]; simp) (by rw [ai_size, codesTo_len]) ai_scalar fun w4 h4 => ?_
  refine ⟨fun s w' => ∃ k : Nat, s = (k : Int) ∧ k ≤ 258 ∧ (∀ t, t < k → ¬ (goodS l t ∧ l.getD t 0 = n ∧ code l t = c)) ∧ Hp E w' (Blk b11 (.cells (ai .u32 (codesTo l ys ys.length)) 80 (0, 0)) :: Blk b5 (.cells (ai .u8 l) 23 (0, 0)) :: F), fun s _ => 258 - s.toNat, ⟨0, rfl, by omega, by omega, h4⟩, ?_⟩
  rintro s w5 ⟨k, rfl, hk, hno, hh⟩
  refine IfB.mk (fun hlt => ?_) (fun hge => ?_)
  · have hlt : k < 258 := by have := of_decide_eq_true hlt; omega
    have h15 := len15 hv k
    have next : ¬ (goodS l k ∧ l.getD k 0 = n ∧ code l k = c) → ∀ t, t < k + 1 → ¬ (goodS l t ∧ l.getD t 0 = n ∧ code l t = c) := fun hk2 t ht => by
      by_cases e : t = k
      · subst e; exact hk2
      · exact hno t (by omega)
    rw [i64_id (x := (k : Int) + 1) (by omega)]
    refine IfB.t (by decide) (IdxP.rd (s := .int .u8) hh.p1 (by omega) (by omega) (l.getD k 0 : Int) (getN (by omega)) (IfB.mk (fun hp => ?_) (fun hp => ?_)))
    · have hp : 0 < l.getD k 0 := by have := of_decide_eq_true hp; omega
      refine IdxP.rd (s := .int .u8) hh.p1 (by omega) (by omega) (l.getD k 0 : Int) (getN (by omega)) ?_
      rw [i64_id (x := (l.getD k 0 : Int)) (by omega)]
      refine IfB.mk (fun hn => ?_) (fun hn => ⟨⟨k + 1, rfl, by omega, next (fun hh => by have := beq_eq_false_iff_ne.1 hn; omega), hh⟩, by dsimp only; omega⟩)
      have hn : l.getD k 0 = n := by rw [beq_iff_eq] at hn; omega
      refine IdxP.rd (s := .int .u32) hh (by omega) (by omega) ((codesTo l ys ys.length).getD k 0 : Int) (getN (by rw [codesTo_len]; exact hlt)) ?_
      rw [codes_code hl hv hys hlt hp]
      refine IfB.mk (fun hc => ?_) (fun hc => ⟨⟨k + 1, rfl, by omega, next (fun hh => by have := beq_eq_false_iff_ne.1 hc; omega), hh⟩, by dsimp only; omega⟩)
      have hc : code l k = c := by rw [beq_iff_eq] at hc; omega
      have hf := findS_self hl (s := k) ⟨hlt, hp⟩
      rw [hn, hc] at hf
      rw [hf] at hK
      exact hK w5 hh.drop.drop
    · exact ⟨⟨k + 1, rfl, by omega, next (fun hh => by have := of_decide_eq_false hp; have := hh.1.2; omega), hh⟩, by dsimp only; omega⟩
  · have hge : k = 258 := by have := of_decide_eq_false hge; omega
    subst hge
    have hf : findS l c n = none := by
      cases hq : findS l c n with
      | none => rfl
      | some s =>
        obtain ⟨h2, h3, h4⟩ := findS_some hq
        exact absurd ⟨h2, h3, h4⟩ (hno s h2.1)
    rw [hf] at hK
    exact hK w5 hh.drop.drop
end
end Go.Proofs.Ytajpnkioigcejaa
