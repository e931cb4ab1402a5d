/-
  What kraft.Complete, Table and Counts, the reference's Share, Sum and Table, and prefixdec's New, first, Valid, of and Step compute. Conditions: as each theorem states.
-/
import Derived.Test.YtajpnkioigcejaaTblP
import Derived.Test.YtajpnkioigcejaaHeld
namespace Go.Srt
/-- lengths that form a code table -/
def okT (l : List Nat) : Bool := decide (ksum l = 32768) && decide (0 < l.getD 257 0)
theorem okT_iff {l : List Nat} : okT l = true ↔ ksum l = 32768 ∧ 0 < l.getD 257 0 := by simp [okT]
def ofS (l : List Nat) (n p : Nat) : Nat := ((List.range l.length).find? fun s => (l.getD s 0 == n) && (rank l s == p)).getD 0
theorem ofS_spec {l : List Nat} {n p : Nat} (h : p < l.count n) : ofS l n p < l.length ∧ l.getD (ofS l n p) 0 = n ∧ rank l (ofS l n p) = p := by
  obtain ⟨s, hs, h1, h2⟩ := of_rank l n p h
  unfold ofS
  cases hf : (List.range l.length).find? fun s => (l.getD s 0 == n) && (rank l s == p) with
  | none =>
    have := List.find?_eq_none.1 hf s (by simpa using hs)
    simp only [Bool.and_eq_true, beq_iff_eq] at this
    exact absurd ⟨h1, h2⟩ this
  | some t =>
    have h3 := List.find?_some hf
    have h4 := List.mem_of_find?_eq_some hf
    simp only [Bool.and_eq_true, beq_iff_eq] at h3
    exact ⟨by simpa using h4, h3⟩
/-- a state on the way to a symbol -/
def VSt (l : List Nat) (c b : Nat) : Prop := okT l = true ∧ b < 15 ∧ c < 2 ^ b ∧ fst l b + many l b ≤ c
def stp (l : List Nat) (c b x : Nat) : (Nat × Nat) × Option Nat :=
  if fst l (b + 1) + many l (b + 1) ≤ 2 * c + x then ((2 * c + x, b + 1), none) else ((0, 0), some (ofS l (b + 1) (2 * c + x - fst l (b + 1))))
theorem VSt.zero {l : List Nat} (h : okT l = true) : VSt l 0 0 := ⟨h, by decide, by decide, by simp [fst, many]⟩
theorem VSt.ge {l : List Nat} {c b : Nat} (h : VSt l c b) : fst l (b + 1) ≤ 2 * c := by rw [fst]; have := h.2.2.2; omega
theorem fst16 {l : List Nat} (h : okT l = true) : fst l 15 + many l 15 = 32768 := by
  have h1 := fst_low l 15 (by decide)
  have h2 := low16 (l := l) (by rw [(okT_iff.1 h).1]; decide)
  rw [(okT_iff.1 h).1] at h2
  rw [low] at h2
  omega
theorem VSt.next {l : List Nat} {c b x : Nat} (h : VSt l c b) (hx : x ≤ 1) : VSt l (stp l c b x).1.1 (stp l c b x).1.2 := by
  unfold stp
  split
  · rename_i hc
    have hp : (2 : Nat) ^ (b + 1) = 2 * 2 ^ b := by rw [Nat.pow_succ, Nat.mul_comm]
    have h2 := h.2.2.1
    refine ⟨h.1, ?_, by show 2 * c + x < 2 ^ (b + 1); omega, hc⟩
    rcases Nat.lt_or_ge (b + 1) 15 with h1 | h1
    · exact h1
    · have : b = 14 := by have := h.2.1; omega
      subst this
      have := fst16 h.1
      have : (2 : Nat) ^ 14 = 16384 := by decide
      simp only [Nat.reduceAdd] at hc
      omega
  · exact VSt.zero h.1
/-- a symbol is found after as many bits as its code has, and its code is what was read -/
theorem stp_done {l : List Nat} {c b x s : Nat} (hl : l.length = 258) (h : VSt l c b) (hx : x ≤ 1) (hs : (stp l c b x).2 = some s) : s < 258 ∧ l.getD s 0 = b + 1 ∧ code l s = 2 * c + x ∧ b < 15 := by
  unfold stp at hs
  split at hs
  · cases hs
  · rename_i hc
    have h1 : s = ofS l (b + 1) (2 * c + x - fst l (b + 1)) := by injection hs with hs; exact hs.symm
    have hge := h.ge
    have hm : many l (b + 1) = l.count (b + 1) := by unfold many; rw [if_neg (by omega)]
    obtain ⟨h2, h3, h4⟩ := ofS_spec (l := l) (n := b + 1) (p := 2 * c + x - fst l (b + 1)) (by omega)
    rw [← h1] at h2 h3 h4
    refine ⟨by omega, h3, ?_, h.2.1⟩
    unfold code
    rw [h3, h4]; omega
theorem stp_none {l : List Nat} {c b x : Nat} (hs : (stp l c b x).2 = none) : (stp l c b x).1 = (2 * c + x, b + 1) := by
  unfold stp at hs ⊢
  split
  · rfl
  · rename_i h; rw [if_neg h] at hs; cases hs
theorem stp_some {l : List Nat} {c b x s : Nat} (hs : (stp l c b x).2 = some s) : (stp l c b x).1 = (0, 0) := by
  unfold stp at hs ⊢
  split
  · rename_i h; rw [if_pos h] at hs; cases hs
  · rfl
theorem fst_le {l : List Nat} (hl : l.length ≤ 258) : ∀ n, fst l n + 516 ≤ 516 * 2 ^ n
  | 0 => by simp [fst]
  | n + 1 => by
    have := fst_le hl n
    have h2 : many l n ≤ 258 := by
      unfold many
      split
      · omega
      · exact Nat.le_trans List.count_le_length hl
    rw [fst, Nat.pow_succ]; omega
theorem many_le {l : List Nat} (hl : l.length ≤ 258) (n : Nat) : many l n ≤ 258 := by
  unfold many
  split
  · omega
  · exact Nat.le_trans List.count_le_length hl
end Go.Srt
namespace Go.Proofs.Ytajpnkioigcejaa
open Go Go.Vc Go.Srt
section
variable {E w : World} {F : List HP}
theorem getN {l : List Nat} {i : Nat} {k : IntKind} (h : i < l.length) : (ai k l)[((i : Nat) : Int).toNat]? = some (Sc.enc (.int k) (l.getD i 0 : Int)) := by
  rw [Int.toNat_natCast, ai_get h, getD_get h]
theorem complete_c {l : List Nat} {K : Bool → World → Prop} (h : Hp E w F) (hl : l.length = 258) (hK : ∀ w', Hp E w' F → K (decide (ksum l = 32768)) w') : Cl Try.prog [kB] n_kraft_Complete ⟨[.agg (ai .u8 l)]⟩ w K := by
  refine kraft_Complete.ok _ _ _ ?_
  unfold kraft_Complete.E
  refine Nw.mk h fun b w1 h1 => Ld.arr h1 (by rw [ai_size, hl]) (kraftSum_c h1 hl fun w2 h2 => ?_)
  have : ((ksum l : Int) == 32768) = decide (ksum l = 32768) := by rw [Bool.eq_iff_iff]; simp; omega
  rw [this]
  exact hK _ h2.drop
theorem table_c {l : List Nat} {K : Bool → World → Prop} (h : Hp E w F) (hl : l.length = 258) (hK : ∀ w', Hp E w' F → K (okT l) w') : Cl Try.prog [kB] n_kraft_Table ⟨[.agg (ai .u8 l)]⟩ w K := by
  refine kraft_Table.ok _ _ _ ?_
  unfold kraft_Table.E
  refine Nw.mk h fun b w1 h1 => Ld.arr h1 (by rw [ai_size, hl]) (complete_c h1 hl fun w2 h2 => IfB.mk (fun hv => ?_) (fun hv => ?_))
  · refine IdxP.rd (s := .int .u8) h2 (by decide) (by decide) (l.getD 257 0 : Int) (getN (i := 257) (by omega)) ?_
    have : decide ((l.getD 257 0 : Int) > 0) = okT l := by
      unfold okT; rw [hv, Bool.true_and, Bool.eq_iff_iff, decide_eq_true_eq, decide_eq_true_eq]; omega
    rw [this]
    exact hK _ h2.drop
  · have : false = okT l := by unfold okT; rw [hv, Bool.false_and]
    rw [this]
    exact hK _ h2.drop
theorem rShare_c {n : Nat} {K : Int → World → Prop} (hn : n ≤ 255) (hK : K (wt n : Int) w) : Cl Try.prog [kI] n_ref08_Share ⟨[.int .u8 (n : Int)]⟩ w K := by
  refine ref08_Share.ok _ _ _ ?_
  unfold ref08_Share.E
  unfold wt at hK
  refine IfB.mk (fun h => ?_) (fun h => IfB.mk (fun h2 => ?_) (fun h2 => ?_))
  · have h : n = 0 := by have := of_decide_eq_true h; omega
    rw [if_pos h] at hK; exact hK
  · have h : n ≠ 0 := by have := of_decide_eq_false h; omega
    have h2 : n > 15 := by have := of_decide_eq_true h2; omega
    rw [if_neg h, if_pos h2] at hK; exact hK
  · have h : n ≠ 0 := by have := of_decide_eq_false h; omega
    have h2 : ¬ n > 15 := by have := of_decide_eq_false h2; omega
    rw [if_neg h, if_neg h2] at hK
    refine ⟨fun v i w' => ∃ k v' : Nat, i = (k : Int) ∧ k ≤ n ∧ v = (v' : Int) ∧ v' = 2 ^ (15 - k) ∧ w' = w, fun _ i _ => 15 - i.toNat, ⟨0, 32768, rfl, by omega, rfl, by decide, rfl⟩, ?_⟩
    rintro v i w' ⟨k, v', rfl, hk, rfl, hv, rfl⟩
    refine IfB.mk (fun hlt => ?_) (fun hge => ?_)
    · have hlt : k < n := by have := of_decide_eq_true hlt; omega
      have e : 2 ^ (15 - k) = 2 * 2 ^ (15 - (k + 1)) := by rw [show 15 - k = (15 - (k + 1)) + 1 by omega, Nat.pow_succ, Nat.mul_comm]
      have hb : 2 ^ (15 - (k + 1)) ≤ 2 ^ 15 := Nat.pow_le_pow_right (by decide) (by omega)
      have hb2 : (2 : Nat) ^ 15 = 32768 := by decide
      have e2 : Int.tdiv (v' : Int) 2 = ((2 ^ (15 - (k + 1)) : Nat) : Int) := by
        rw [Int.tdiv_eq_ediv_of_nonneg (by omega), hv, e]; omega
      rw [e2, i64_id (by omega), u8_id (by omega)]
      exact ⟨by decide, ⟨k + 1, _, rfl, by omega, rfl, rfl, rfl⟩, by dsimp only; omega⟩
    · have hge : k = n := by have := of_decide_eq_false hge; omega
      subst hge; rw [hv]; exact hK
set_option maxRecDepth 20000 in
theorem rSum8_c {l : List Nat} {K : Int → World → Prop} (h : Hp E w F) (hl : l.length = 258) (h8 : ∀ x ∈ l, x ≤ 255) (hK : ∀ w', Hp E w' F → K (ksum l : Int) w') : Cl Try.prog [kI] n_ref08_Sum ⟨[.agg (ai .u8 l)]⟩ w K := by
  refine ref08_Sum.ok _ _ _ ?_
  unfold ref08_Sum.E
  have hb := ksum_le l
  refine Nw.mk h fun b w1 h1 => ⟨fun sm i w' => ∃ k : Nat, i = (k : Int) ∧ k ≤ 258 ∧ sm = (ksum (l.take k) : Int) ∧ Hp E w' (Blk b (.cells (ai .u8 l) 23 (0, 0)) :: F), fun _ i _ => 258 - i.toNat, ⟨0, rfl, by omega, by simp [ksum], h1⟩, ?_⟩
  rintro sm i w' ⟨k, rfl, hk, rfl, hh⟩
  refine IfB.mk (fun hlt => ?_) (fun hge => ?_)
  · have hlt : k < 258 := by have := of_decide_eq_true hlt; omega
    have hkl : k < l.length := by omega
    refine IdxP.rd (s := .int .u8) hh (by omega) (by omega) (l[k] : Int) (by rw [Int.toNat_natCast]; exact ai_get hkl) (rShare_c (h8 _ (List.getElem_mem hkl)) ?_)
    have e := ksum_succ hkl
    have := ksum_take (l := l) (k := k + 1)
    rw [i64_id (x := (ksum (l.take k) : Int) + (wt l[k] : Int)) (by omega), i64_id (by omega)]
    exact ⟨⟨k + 1, rfl, by omega, by rw [e]; rfl, hh⟩, by dsimp only; omega⟩
  · have hge : k = 258 := by have := of_decide_eq_false hge; omega
    subst hge
    rw [← hl, List.take_length]
    exact hK _ hh.drop
theorem rTable_c {l : List Nat} {K : Bool → World → Prop} (h : Hp E w F) (hl : l.length = 258) (h8 : ∀ x ∈ l, x ≤ 255) (hK : ∀ w', Hp E w' F → K (okT l) w') : Cl Try.prog [kB] n_ref08_Table ⟨[.agg (ai .u8 l)]⟩ w K := by
  refine ref08_Table.ok _ _ _ ?_
  unfold ref08_Table.E
  refine Nw.mk h fun b w1 h1 => Ld.arr h1 (by rw [ai_size, hl]) (rSum8_c h1 hl h8 fun w2 h2 => ?_)
  have e : ((ksum l : Int) == 32768) = decide (ksum l = 32768) := by rw [Bool.eq_iff_iff]; simp; omega
  rw [e]
  refine IfB.mk (fun hv => ?_) (fun hv => ?_)
  · refine IdxP.rd (s := .int .u8) h2 (by decide) (by decide) (l.getD 257 0 : Int) (getN (i := 257) (by omega)) ?_
    have : ((l.getD 257 0 : Int) != 0) = okT l := by
      unfold okT; rw [hv, Bool.true_and, Bool.eq_iff_iff, bne_iff_ne, decide_eq_true_eq]; omega
    rw [this]
    exact hK _ h2.drop
  · have : false = okT l := by unfold okT; rw [hv, Bool.false_and]
    rw [this]
    exact hK _ h2.drop
/-! the numbers of each length -/
abbrev k16 : List Sc := [.int .i64, .int .i64, .int .i64, .int .i64, .int .i64, .int .i64, .int .i64, .int .i64, .int .i64, .int .i64, .int .i64, .int .i64, .int .i64, .int .i64, .int .i64, .int .i64]
def t16 (f : Nat → Int) : TT k16 := (f 0, f 1, f 2, f 3, f 4, f 5, f 6, f 7, f 8, f 9, f 10, f 11, f 12, f 13, f 14, f 15, ())
theorem row16 (f : Nat → Int) : rowI 16 f = ⟨encs k16 (t16 f)⟩ := rfl
theorem row16' (f : Nat → Int) : (⟨[.int .i64 (f 0), .int .i64 (f 1), .int .i64 (f 2), .int .i64 (f 3), .int .i64 (f 4), .int .i64 (f 5), .int .i64 (f 6), .int .i64 (f 7), .int .i64 (f 8), .int .i64 (f 9), .int .i64 (f 10), .int .i64 (f 11), .int .i64 (f 12), .int .i64 (f 13), .int .i64 (f 14), .int .i64 (f 15)]⟩ : Array Value) = rowI 16 f := rfl
theorem sc16 (f : Nat → Int) : ∀ v ∈ [(.int .i64 (f 0) : Value), .int .i64 (f 1), .int .i64 (f 2), .int .i64 (f 3), .int .i64 (f 4), .int .i64 (f 5), .int .i64 (f 6), .int .i64 (f 7), .int .i64 (f 8), .int .i64 (f 9), .int .i64 (f 10), .int .i64 (f 11), .int .i64 (f 12), .int .i64 (f 13), .int .i64 (f 14), .int .i64 (f 15)], scalarB v = true := by
  intro v hv
  simp only [List.mem_cons, List.not_mem_nil, or_false] at hv
  rcases hv with rfl | rfl | rfl | rfl | rfl | rfl | rfl | rfl | rfl | rfl | rfl | rfl | rfl | rfl | rfl | rfl <;> rfl
theorem row16_zero : (⟨List.replicate 16 (.int .i64 0)⟩ : Array Value) = rowI 16 fun _ => 0 := rfl
set_option maxRecDepth 20000 in
theorem counts_c {l : List Nat} {K : TT k16 → World → Prop} (h : Hp E w F) (hl : l.length = 258) (h15 : ∀ x ∈ l, x ≤ 15) (hK : ∀ w', Hp E w' F → K (t16 fun j => (l.count j : Int)) w') : Cl Try.prog [.st k16] n_kraft_Counts ⟨[.agg (ai .u8 l)]⟩ w K := by
  refine kraft_Counts.ok _ _ _ ?_
  unfold kraft_Counts.E
  rw [row16_zero]
  refine Nw.mk h fun b w1 h1 => Nw.mk h1 fun b2 w2 h2 => Ld.arr h2.p1 (by rw [ai_size, hl]) ?_
  refine ⟨fun i w' => ∃ k : Nat, i = (k : Int) ∧ k ≤ 258 ∧ Hp E w' (Blk b2 (.cells (rowI 16 fun j => ((l.take k).count j : Int)) 97 (0, 0)) :: F), fun i _ => 258 - i.toNat, ⟨0, rfl, by omega, ?_⟩, ?_⟩
  · have := h2.p1.drop
    rwa [rowI_ext (g := fun j => ((l.take 0).count j : Int)) (fun i _ => by simp)] at this
  rintro i w' ⟨k, rfl, hk, hh⟩
  refine IfB.mk (fun hlt => ?_) (fun hge => ?_)
  · have hlt : k < 258 := by have := of_decide_eq_true hlt; omega
    have hkl : k < l.length := by omega
    have hcl : ∀ x, (l.take k).count x ≤ 258 := fun x => Nat.le_trans List.count_le_length (by rw [List.length_take]; omega)
    refine IdxV.rd (s := .int .u8) (by omega) (by omega) (l[k] : Int) (by rw [Int.toNat_natCast]; exact ai_get hkl) ?_
    have h16 := h15 _ (List.getElem_mem hkl)
    rw [i64_id (x := (l[k] : Int)) (by omega)]
    refine IfB.t (decide_eq_true (by omega)) ?_
    refine IdxP.rd (s := .int .i64) hh (by omega) (by omega) ((l.take k).count l[k] : Int) (by rw [Int.toNat_natCast]; exact rowI_get (by omega)) ?_
    have := hcl l[k]
    refine IdxP.wr hh (by omega) (by omega) rowI_size rfl fun w3 h3 => ?_
    rw [i64_id (by omega), Int.toNat_natCast, rowI_set] at h3
    rw [i64_id (by omega)]
    refine ⟨⟨k + 1, rfl, by omega, ?_⟩, by dsimp only; omega⟩
    rw [rowI_ext (g := fun j => ((l.take (k + 1)).count j : Int))] at h3
    · exact h3
    · intro j hj
      rw [count_take_succ hkl]
      by_cases e : j = l[k]
      · subst e; rw [if_pos rfl, if_pos rfl]; omega
      · rw [if_neg e, if_neg (Ne.symm e)]; omega
  · have hge : k = 258 := by have := of_decide_eq_false hge; omega
    subst hge
    rw [← hl, List.take_length] at hh
    refine Ld.stBlk hh (t16 fun j => (l.count j : Int)) (row16 _) (StC.blk hh (by rw [rowI_size]; rfl) (sc16 fun j => (l.count j : Int)) fun w3 h3 => ?_)
    exact Ld.stBlk h3 (t16 fun j => (l.count j : Int)) rfl (hK _ h3.drop)
set_option maxRecDepth 20000 in
theorem first12_c {l : List Nat} {n : Nat} {K : Int → Int → World → Prop} (h : Hp E w F) (hl : l.length = 258) (h15 : ∀ x ∈ l, x ≤ 15) (hn : n ≤ 15) (hK : ∀ w', Hp E w' F → K (Srt.fst l n : Int) (many l n : Int) w') :
    Cl Try.prog [kI, kI] n_prefixdec_first ⟨[.agg (ai .u8 l), .int .i64 (n : Int)]⟩ w K := by
  refine prefixdec_first.ok _ _ _ _ ?_
  unfold prefixdec_first.E
  refine Nw.mk h fun b w1 h1 => Ld.arr h1 (by rw [ai_size, hl]) (counts_c h1.drop hl h15 fun w2 h2 => ?_)
  rw [row16_zero]
  refine Nw.mk h2 fun b2 w3 h3 => StC.blk h3 (by rw [rowI_size]; rfl) (sc16 fun j => (l.count j : Int)) fun w4 h4 => ?_
  have h4 : Hp E w4 (Blk b2 (.cells (rowI 16 fun j => (l.count j : Int)) 97 (0, 0)) :: F) := h4
  refine IdxP.wr h4 (by decide) (by decide) rowI_size rfl fun w5 h5 => ?_
  rw [show (0 : Int).toNat = 0 from rfl, rowI_set, rowI_ext (g := fun j => (many l j : Int)) (fun i _ => by unfold many; by_cases e : i = 0 <;> simp [e])] at h5
  refine ⟨fun c m w' => ∃ k : Nat, m = (k : Int) + 1 ∧ k ≤ n ∧ c = (Srt.fst l k : Int) ∧ Hp E w' (Blk b2 (.cells (rowI 16 fun j => (many l j : Int)) 97 (0, 0)) :: F), fun _ m _ => 18 - m.toNat, ⟨0, rfl, by omega, rfl, h5⟩, ?_⟩
  rintro c m w' ⟨k, rfl, hk, rfl, hh⟩
  refine IfB.mk (fun hlt => ?_) (fun hge => ?_)
  · have hlt : k < n := by have := of_decide_eq_true hlt; omega
    rw [i64_id (x := (k : Int) + 1 - 1) (by omega), show (k : Int) + 1 - 1 = (k : Int) by omega]
    refine IdxP.rd (s := .int .i64) hh (by omega) (by omega) (many l k : Int) (by rw [Int.toNat_natCast]; exact rowI_get (by omega)) ?_
    have h1 := fst_le (l := l) (by omega) k
    have h2 := many_le (l := l) (by omega) k
    have h3 : (2 : Nat) ^ k ≤ 2 ^ 15 := Nat.pow_le_pow_right (by decide) (by omega)
    have h4 : (2 : Nat) ^ 15 = 32768 := by decide
    rw [i64_id (x := (Srt.fst l k : Int) + (many l k : Int)) (by omega), i64_id (x := (k : Int) + 1 + 1) (by omega)]
    have e := ishl_nat (k := .i64) (a := Srt.fst l k + many l k) (b := 1) (by decide) (by have : IntKind.max .i64 = 9223372036854775807 := rfl; omega)
    have e2 : ishl .i64 ((Srt.fst l k : Int) + (many l k : Int)) 1 = (Srt.fst l (k + 1) : Int) := by
      rw [show (Srt.fst l k : Int) + (many l k : Int) = ((Srt.fst l k + many l k : Nat) : Int) by omega, show (1 : Int) = ((1 : Nat) : Int) from rfl, e, Srt.fst]
      omega
    rw [e2]
    exact ⟨by decide, ⟨k + 1, by omega, by omega, rfl, hh⟩, by dsimp only; omega⟩
  · have hge : k = n := by have := of_decide_eq_false hge; omega
    subst hge
    refine Drw.mk hh fun w6 h6 => IdxP.rd (s := .int .i64) h6 (by omega) (by omega) (many l k : Int) (by rw [Int.toNat_natCast]; exact rowI_get (by omega)) (hK _ h6.drop)
set_option maxRecDepth 20000 in
theorem of_c {l : List Nat} {n p : Nat} {K : Int → World → Prop} (h : Hp E w F) (hl : l.length = 258) (h15 : ∀ x ∈ l, x ≤ 15) (hp : p < l.count n) (hK : ∀ w', Hp E w' F → K (ofS l n p : Int) w') :
    Cl Try.prog [kI] n_prefixdec_of ⟨[.agg (ai .u8 l), .int .i64 (n : Int), .int .i64 (p : Int)]⟩ w K := by
  refine prefixdec_of.ok _ _ _ _ _ ?_
  unfold prefixdec_of.E
  have hs := ofS_spec hp
  refine Nw.mk h fun b w1 h1 => Ld.arr h1 (by rw [ai_size, hl]) ?_
  have hcl : l.count n ≤ 258 := Nat.le_trans List.count_le_length (by omega)
  refine ⟨fun q i w' => ∃ k : Nat, i = (k : Int) ∧ k ≤ 258 ∧ (l.take k).count n ≤ p ∧ q = (p : Int) - ((l.take k).count n : Int) ∧ Hp E w' F, fun _ i _ => 258 - i.toNat, ⟨0, rfl, by omega, by simp, by simp, h1.drop⟩, ?_⟩
  rintro q i w' ⟨k, rfl, hk, hc, rfl, hh⟩
  refine IfB.mk (fun hlt => ?_) (fun hge => ?_)
  · have hlt : k < 258 := by have := of_decide_eq_true hlt; omega
    have hkl : k < l.length := by omega
    have h16 := h15 _ (List.getElem_mem hkl)
    have hsu := count_take_succ hkl n
    refine IdxV.rd (s := .int .u8) (by omega) (by omega) (l[k] : Int) (by rw [Int.toNat_natCast]; exact ai_get hkl) ?_
    rw [i64_id (x := (l[k] : Int)) (by omega), i64_id (x := (k : Int) + 1) (by omega)]
    refine IfB.mk (fun hne => ?_) (fun he => IfB.mk (fun hz => ?_) (fun hz => ?_))
    · have hne : l[k] ≠ n := by rw [bne_iff_ne] at hne; omega
      rw [if_neg hne] at hsu
      exact ⟨⟨k + 1, rfl, by omega, by omega, by omega, hh⟩, by dsimp only; omega⟩
    · have he : l[k] = n := by have := bne_eq_false_iff_eq.1 he; omega
      have hz : (l.take k).count n = p := by rw [beq_iff_eq] at hz; omega
      have : k = ofS l n p := by
        refine rank_inj hkl hs.1 (by rw [hs.2.1, getD_get hkl, he]) ?_
        rw [hs.2.2]; unfold rank; rw [getD_get hkl, he, hz]
      rw [this]; exact hK _ hh
    · have he : l[k] = n := by have := bne_eq_false_iff_eq.1 he; omega
      have hz : (l.take k).count n ≠ p := by have := beq_eq_false_iff_ne.1 hz; omega
      rw [if_pos he] at hsu
      rw [i64_id (by omega)]
      exact ⟨⟨k + 1, rfl, by omega, by omega, by omega, hh⟩, by dsimp only; omega⟩
  · have hge : k = 258 := by have := of_decide_eq_false hge; omega
    subst hge
    rw [← hl, List.take_length] at hc
    omega
/-! states -/
def stA (l : List Nat) (c b : Nat) : Array Value := ⟨(l.map fun (n : Nat) => Value.int .u8 (n : Int)) ++ [.int .i64 (c : Int), .int .i64 (b : Int)]⟩
theorem stA_size {l : List Nat} {c b : Nat} (hl : l.length = 258) : (stA l c b).size = 260 := by simp [stA, hl]
theorem stA_scalar {l : List Nat} {c b : Nat} : ∀ v ∈ (stA l c b).toList, scalarB v = true := by
  intro v hv
  unfold stA at hv
  simp only [List.mem_append, List.mem_map, List.mem_cons, List.not_mem_nil, or_false] at hv
  rcases hv with ⟨n, _, rfl⟩ | rfl | rfl <;> rfl
theorem stA_parts (l : List Nat) (c b : Nat) : stA l c b = ⟨[] ++ (l.map fun (n : Nat) => Value.int .u8 (n : Int)) ++ [.int .i64 (c : Int), .int .i64 (b : Int)]⟩ := rfl
theorem stA_c {l : List Nat} {c b : Nat} (hl : l.length = 258) : (stA l c b)[258]? = some (Sc.enc (.int .i64) (c : Int)) := by
  unfold stA; rw [List.getElem?_toArray, List.getElem?_append_right (by simp [hl])]; simp [hl]
theorem stA_b {l : List Nat} {c b : Nat} (hl : l.length = 258) : (stA l c b)[259]? = some (Sc.enc (.int .i64) (b : Int)) := by
  unfold stA; rw [List.getElem?_toArray, List.getElem?_append_right (by simp [hl])]; simp [hl]
theorem zeroSt : (⟨List.replicate 258 (.int .u8 0) ++ [.int .i64 0, .int .i64 0]⟩ : Array Value) = stA (List.replicate 258 0) 0 0 := by unfold stA; rw [List.map_replicate]; rfl
theorem built_st (ps : List (Nat × Value)) : Try.prog.built 26 ps = Instr.fill (#[(0, 258), (258, 1), (259, 1)][·]?) ⟨List.replicate 258 (.int .u8 0) ++ [.int .i64 0, .int .i64 0]⟩ ps := by kernel_rfl
theorem ai_cells (l : List Nat) : (Value.agg (ai .u8 l)).cells.toList = l.map fun (n : Nat) => Value.int .u8 (n : Int) := rfl
theorem fill_arr {l : List Nat} (hl : l.length = 258) (rest : List (Nat × Value)) : Instr.fill (#[(0, 258), (258, 1), (259, 1)][·]?) ⟨List.replicate 258 (.int .u8 0) ++ [.int .i64 0, .int .i64 0]⟩ ((0, .agg (ai .u8 l)) :: rest)
    = Instr.fill (#[(0, 258), (258, 1), (259, 1)][·]?) (stA l 0 0) rest := by
  have := fill_step (place := (#[(0, 258), (258, 1), (259, 1)][·]?)) (i := 0) (v := .agg (ai .u8 l)) (rest := rest) (pre := []) (mid := List.replicate 258 (.int .u8 0)) (post := [.int .i64 0, .int .i64 0]) rfl rfl List.length_replicate (by show (ai .u8 l).size = _; rw [ai_size, hl])
  exact this
theorem fill_c {l : List Nat} {c c0 b : Nat} (hl : l.length = 258) (rest : List (Nat × Value)) : Instr.fill (#[(0, 258), (258, 1), (259, 1)][·]?) (stA l c0 b) ((1, .int .i64 (c : Int)) :: rest) = Instr.fill (#[(0, 258), (258, 1), (259, 1)][·]?) (stA l c b) rest := by
  have := fill_step (place := (#[(0, 258), (258, 1), (259, 1)][·]?)) (i := 1) (v := .int .i64 (c : Int)) (rest := rest) (pre := l.map fun (n : Nat) => Value.int .u8 (n : Int)) (mid := [.int .i64 (c0 : Int)]) (post := [.int .i64 (b : Int)]) rfl (by simp [hl]) rfl rfl
  unfold stA
  rw [show (l.map fun (n : Nat) => Value.int .u8 (n : Int)) ++ [.int .i64 (c0 : Int), .int .i64 (b : Int)] = (l.map fun (n : Nat) => Value.int .u8 (n : Int)) ++ [.int .i64 (c0 : Int)] ++ [.int .i64 (b : Int)] by simp, this]
  congr 2
  simp [Value.cells]
theorem fill_b {l : List Nat} {c b0 b : Nat} (hl : l.length = 258) (rest : List (Nat × Value)) : Instr.fill (#[(0, 258), (258, 1), (259, 1)][·]?) (stA l c b0) ((2, .int .i64 (b : Int)) :: rest) = Instr.fill (#[(0, 258), (258, 1), (259, 1)][·]?) (stA l c b) rest := by
  have := fill_step (place := (#[(0, 258), (258, 1), (259, 1)][·]?)) (i := 2) (v := .int .i64 (b : Int)) (rest := rest) (pre := (l.map fun (n : Nat) => Value.int .u8 (n : Int)) ++ [.int .i64 (c : Int)]) (mid := [.int .i64 (b0 : Int)]) (post := []) rfl (by simp [hl]) rfl rfl
  unfold stA
  rw [show (l.map fun (n : Nat) => Value.int .u8 (n : Int)) ++ [.int .i64 (c : Int), .int .i64 (b0 : Int)] = (l.map fun (n : Nat) => Value.int .u8 (n : Int)) ++ [.int .i64 (c : Int)] ++ [.int .i64 (b0 : Int)] ++ [] by simp, this]
  congr 2
  simp [Value.cells]
theorem Bld.st0 {l : List Nat} {K : Array Value → Prop} (hl : l.length = 258) (hK : K (stA l 0 0)) : Bld Try.prog 26 [(0, .agg (ai .u8 l))] K := ⟨stA l 0 0, by rw [built_st, fill_arr hl]; rfl, hK⟩
theorem Bld.st2 {l : List Nat} {b : Nat} {K : Array Value → Prop} (hl : l.length = 258) (hK : K (stA l 0 b)) : Bld Try.prog 26 [(0, .agg (ai .u8 l)), (2, .int .i64 (b : Int))] K := ⟨stA l 0 b, by rw [built_st, fill_arr hl, fill_b hl]; rfl, hK⟩
theorem Bld.st3 {l : List Nat} {c b : Nat} {K : Array Value → Prop} (hl : l.length = 258) (hK : K (stA l c b)) : Bld Try.prog 26 [(0, .agg (ai .u8 l)), (1, .int .i64 (c : Int)), (2, .int .i64 (b : Int))] K :=
  ⟨stA l c b, by rw [built_st, fill_arr hl, fill_c hl, fill_b hl]; rfl, hK⟩
theorem Bld.stZ {K : Array Value → Prop} (hK : K (stA (List.replicate 258 0) 0 0)) : Bld Try.prog 26 [] K := ⟨_, built_st [], by rw [zeroSt]; exact hK⟩
theorem new_c {l : List Nat} {K : Array Value → Int → World → Prop} (h : Hp E w F) (hl : l.length = 258) (hK1 : okT l = false → ∀ w', Hp E w' F → K (stA (List.replicate 258 0) 0 0) 2 w') (hK2 : okT l = true → ∀ w', Hp E w' F → K (stA l 0 0) 0 w') :
    Cl Try.prog [.arr 260, kI] n_prefixdec_New ⟨[.agg (ai .u8 l)]⟩ w K := by
  refine prefixdec_New.ok _ _ _ ?_
  unfold prefixdec_New.E
  rw [zeroSt]
  have hz : (stA (List.replicate 258 0) 0 0).size = 260 := stA_size List.length_replicate
  refine Nw.mk h fun b w1 h1 => Nw.mk h1 fun b2 w2 h2 => Ld.arr h2.p1 (by rw [ai_size, hl]) (table_c h2 hl fun w3 h3 => IfB.mk (fun hv => ?_) (fun hv => ?_))
  · exact Bld.stZ (StA.blk h3 hz hz stA_scalar fun w4 h4 => Ld.arr h4 hz (hK1 (by simpa using hv) _ h4.drop.drop))
  · exact Ld.arr h3.p1 (by rw [ai_size, hl]) (Bld.st0 hl (StA.blk h3 hz (stA_size hl) stA_scalar fun w4 h4 => Ld.arr h4 (stA_size hl) (hK2 (by simpa using hv) _ h4.drop.drop)))
theorem le15 {l : List Nat} (h : okT l = true) : ∀ x ∈ l, x ≤ 15 := fun x hx => by
  obtain ⟨i, hi, rfl⟩ := List.getElem_of_mem hx
  have := len15 (l := l) (by rw [(okT_iff.1 h).1]; decide) i
  rwa [getD_get hi] at this
theorem valid12_c {l : List Nat} {c b : Nat} {K : Bool → World → Prop} (h : Hp E w F) (hl : l.length = 258) (hb : b < 15) (hc : c < 2 ^ b) (hK : ∀ w', Hp E w' F → K (okT l && decide (Srt.fst l b + many l b ≤ c)) w') :
    Cl Try.prog [kB] n_prefixdec_Valid ⟨[.agg (stA l c b)]⟩ w K := by
  refine prefixdec_Valid.ok _ _ _ ?_
  unfold prefixdec_Valid.E
  simp only [Join_eq, add_mk, Nat.zero_add]
  refine Nw.mk h fun b3 w1 h1 => ?_
  rw [stA_parts] at h1
  have hml : (l.map fun (n : Nat) => Value.int .u8 (n : Int)).length = 258 := by simp [hl]
  refine Ld.sub h1 rfl hml (table_c h1 hl fun w2 h2 => IfB.mk (fun hv => ?_) (fun hv => ?_))
  · have hv : okT l = false := by simpa using hv
    rw [hv, Bool.false_and] at hK
    exact hK _ h2.drop
  have hv : okT l = true := by simpa using hv
  rw [hv, Bool.true_and] at hK
  rw [← stA_parts] at h2
  have hp : (2 : Nat) ^ b ≤ 2 ^ 15 := Nat.pow_le_pow_right (by decide) (by omega)
  have hp2 : (2 : Nat) ^ 15 = 32768 := by decide
  refine Ld.blk (s := .int .i64) h2 (b : Int) (stA_b hl) (IfB.f (decide_eq_false (by omega)) ?_)
  refine Ld.blk (s := .int .i64) h2 (b : Int) (stA_b hl) (IfB.f (decide_eq_false (by omega)) ?_)
  refine Ld.blk (s := .int .i64) h2 (c : Int) (stA_c hl) (IfB.f (decide_eq_false (by omega)) ?_)
  refine Ld.blk (s := .int .i64) h2 (c : Int) (stA_c hl) (Ld.blk (s := .int .i64) h2 (b : Int) (stA_b hl) ⟨by omega, ?_⟩)
  rw [ishr_nat (by have : IntKind.bits .i64 = 64 := rfl; omega), Nat.div_eq_of_lt hc]
  refine IfB.f (by decide) ?_
  rw [stA_parts] at h2
  refine Ld.sub h2 rfl hml ?_
  rw [← stA_parts] at h2
  refine Ld.blk (s := .int .i64) h2 (b : Int) (stA_b hl) (first12_c h2 hl (le15 hv) (by omega) fun w3 h3 => Ld.blk (s := .int .i64) h3 (c : Int) (stA_c hl) ?_)
  have h1 := fst_le (l := l) (by omega) b
  have h2 := many_le (l := l) (by omega) b
  rw [i64_id (by omega)]
  have e : decide ((c : Int) ≥ (Srt.fst l b : Int) + (many l b : Int)) = decide (Srt.fst l b + many l b ≤ c) := by rw [Bool.eq_iff_iff, decide_eq_true_eq, decide_eq_true_eq]; omega
  rw [e]
  exact hK _ h3.drop
theorem or_bit {c x : Nat} (hx : x ≤ 1) (hc : c < 16384) : ior .i64 (ishl .i64 (c : Int) 1) (x : Int) = ((2 * c + x : Nat) : Int) := by
  have hm : IntKind.max .i64 = 9223372036854775807 := rfl
  have e := ishl_nat (k := .i64) (a := c) (b := 1) (by decide) (by omega)
  have h2 : c * 2 ^ 1 ||| x = 2 * c + x := by
    have := Nat.two_pow_add_eq_or_of_lt (i := 1) (b := x) (by omega) c
    rw [Nat.mul_comm c, ← this, Nat.mul_comm]
  rw [show (1 : Int) = ((1 : Nat) : Int) from rfl, e, ior_nat (by omega) (by omega) (by rw [h2]; omega), h2]
theorem step_c {l : List Nat} {c b x : Nat} {K : Array Value → Int → Bool → World → Prop} (h : Hp E w F) (hl : l.length = 258) (hs : VSt l c b) (hx : x ≤ 1)
    (hK : ∀ w', Hp E w' F → K (stA l (stp l c b x).1.1 (stp l c b x).1.2) (((stp l c b x).2.getD 0 : Nat) : Int) (stp l c b x).2.isSome w') :
    Cl Try.prog [.arr 260, kI, kB] n_prefixdec_Step ⟨[.agg (stA l c b), .int .i64 (x : Int)]⟩ w K := by
  refine prefixdec_Step.ok _ _ _ _ ?_
  unfold prefixdec_Step.E
  simp only [Join_eq, add_mk, Nat.zero_add]
  rw [zeroSt]
  have hz : (stA (List.replicate 258 0) 0 0).size = 260 := stA_size List.length_replicate
  have hml : (l.map fun (n : Nat) => Value.int .u8 (n : Int)).length = 258 := by simp [hl]
  have hp : (2 : Nat) ^ b ≤ 2 ^ 14 := Nat.pow_le_pow_right (by decide) (by have := hs.2.1; omega)
  have hp2 : (2 : Nat) ^ 14 = 16384 := by decide
  have hc := hs.2.2.1
  have hb := hs.2.1
  have h15 := le15 hs.1
  refine Nw.mk h fun b4 w1 h1 => Nw.mk h1 fun b6 w2 h2 => ?_
  have e1 : ishr .i64 (x : Int) 1 = 0 := by
    rw [show (1 : Int) = ((1 : Nat) : Int) from rfl, ishr_nat (by decide)]
    omega
  rw [e1]
  refine ⟨by decide, IfB.f (by decide) ?_⟩
  refine Ld.arr h2.p1 (stA_size hl) (valid12_c h2 hl hb hc fun w3 h3 => ?_)
  refine IfB.f (by rw [hs.1, decide_eq_true hs.2.2.2]; rfl) ?_
  have h3' := h3.p1
  rw [stA_parts l c b] at h3'
  refine Ld.sub h3' rfl hml (Ld.blk (s := .int .i64) h3.p1 (c : Int) (stA_c hl) ⟨by decide, Ld.blk (s := .int .i64) h3.p1 (b : Int) (stA_b hl) ?_⟩)
  rw [or_bit hx (by omega), i64_id (x := (b : Int) + 1) (by omega)]
  refine Bld.st3 (b := b + 1) hl (StA.blk h3 hz (stA_size hl) stA_scalar fun w4 h4 => ?_)
  have h4' := h4
  rw [stA_parts l (2 * c + x) (b + 1)] at h4'
  refine Ld.sub h4' rfl hml (Ld.blk (s := .int .i64) h4 ((b + 1 : Nat) : Int) (stA_b hl) (first12_c h4 hl h15 (by omega) fun w5 h5 => Ld.blk (s := .int .i64) h5 ((2 * c + x : Nat) : Int) (stA_c hl) ?_))
  have hf := fst_le (l := l) (by omega) (b + 1)
  have hm := many_le (l := l) (by omega) (b + 1)
  have hp3 : (2 : Nat) ^ (b + 1) = 2 * 2 ^ b := by rw [Nat.pow_succ, Nat.mul_comm]
  rw [i64_id (by omega)]
  by_cases hcase : Srt.fst l (b + 1) + many l (b + 1) ≤ 2 * c + x
  · refine IfB.t (decide_eq_true (by omega)) (Ld.arr h5 (stA_size hl) (StA.blk h5 (stA_size hl) (stA_size hl) stA_scalar fun w6 h6 => Ld.arr h6 (stA_size hl) ?_))
    have e : stp l c b x = ((2 * c + x, b + 1), none) := by unfold stp; rw [if_pos hcase]
    rw [e] at hK
    exact hK _ h6.drop.drop
  · refine IfB.f (decide_eq_false (by omega)) ?_
    have e : stp l c b x = ((0, 0), some (ofS l (b + 1) (2 * c + x - Srt.fst l (b + 1)))) := by unfold stp; rw [if_neg hcase]
    rw [e] at hK
    have hge := hs.ge
    have hmn : many l (b + 1) = l.count (b + 1) := by unfold many; rw [if_neg (by omega)]
    refine Drw.mk h5 fun w6 h6 => ?_
    have h6' := h6
    rw [stA_parts l (2 * c + x) (b + 1)] at h6'
    refine Ld.sub h6' rfl hml (Ld.blk (s := .int .i64) h6 ((b + 1 : Nat) : Int) (stA_b hl) (Ld.blk (s := .int .i64) h6 ((2 * c + x : Nat) : Int) (stA_c hl) ?_))
    rw [i64_id (x := ((2 * c + x : Nat) : Int) - (Srt.fst l (b + 1) : Int)) (by omega), show ((2 * c + x : Nat) : Int) - (Srt.fst l (b + 1) : Int) = ((2 * c + x - Srt.fst l (b + 1) : Nat) : Int) by omega]
    constructor
    · have h7' := h6.p1
      rw [stA_parts l c b] at h7'
      refine Ld.sub h7' rfl hml (Bld.st0 hl (of_c h6 hl h15 (by omega) fun w7 h7 => ?_))
      exact StA.blk h7 (stA_size hl) (stA_size hl) stA_scalar fun w8 h8 => Ld.arr h8 (stA_size hl) (hK _ h8.drop.drop)
    · refine of_c h6 hl h15 (by omega) fun w7 h7 => ?_
      have h7' := h7.p1
      rw [stA_parts l c b] at h7'
      refine Ld.sub h7' rfl hml (Bld.st0 hl ?_)
      exact StA.blk h7 (stA_size hl) (stA_size hl) stA_scalar fun w8 h8 => Ld.arr h8 (stA_size hl) (hK _ h8.drop.drop)
end
end Go.Proofs.Ytajpnkioigcejaa
