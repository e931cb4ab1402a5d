/-
  What prefixdec.short yields and prefixdec.Quick computes. Conditions: as each theorem states.
-/
import Derived.Test.YtajpnkioigcejaaTbl
import Derived.Test.YtajpnkioigcejaaIter
namespace Go.Srt
/-- the symbols of short codes -/
def sh9 (l : List Nat) : List Nat := (List.range 258).filter fun s => decide (0 < l.getD s 0) && decide (l.getD s 0 ≤ 9)
def frm (l : List Nat) (s : Nat) : Nat := code l s * 2 ^ (9 - l.getD s 0)
def til (l : List Nat) (s : Nat) : Nat := frm l s + 2 ^ (9 - l.getD s 0)
def cnt9 (l : List Nat) (k : Nat) : Nat := ((List.range k).filter fun s => decide (0 < l.getD s 0) && decide (l.getD s 0 ≤ 9)).length
theorem filter_at {p : Nat → Bool} {k n : Nat} (hk : k < n) (hp : p k = true) : ((List.range n).filter p)[((List.range k).filter p).length]? = some k := by
  have e : List.range n = List.range k ++ (List.range (n - k)).map (k + ·) := by
    rw [← List.range_add]; congr 1; omega
  rw [e, List.filter_append, List.getElem?_append_right (Nat.le_refl _), Nat.sub_self]
  obtain ⟨m, hm⟩ : ∃ m, n - k = m + 1 := ⟨n - k - 1, by omega⟩
  rw [hm, List.range_succ_eq_map, List.map_cons, List.filter_cons_of_pos (by simpa using hp)]
  rfl
theorem cnt9_succ {l : List Nat} {k : Nat} : cnt9 l (k + 1) = cnt9 l k + if 0 < l.getD k 0 ∧ l.getD k 0 ≤ 9 then 1 else 0 := by
  unfold cnt9
  rw [List.range_succ, List.filter_append, List.length_append]
  congr 1
  by_cases h : 0 < l.getD k 0 ∧ l.getD k 0 ≤ 9
  · rw [if_pos h, List.filter_cons_of_pos (by rw [Bool.and_eq_true, decide_eq_true_eq, decide_eq_true_eq]; exact h)]; rfl
  · rw [if_neg h, List.filter_cons_of_neg (by rw [Bool.and_eq_true, decide_eq_true_eq, decide_eq_true_eq]; exact h)]; rfl
theorem sh9_at {l : List Nat} {k : Nat} (hk : k < 258) (h0 : 0 < l.getD k 0) (h9 : l.getD k 0 ≤ 9) : (sh9 l).getD (cnt9 l k) 0 = k ∧ cnt9 l k < (sh9 l).length := by
  have := filter_at (p := fun s => decide (0 < l.getD s 0) && decide (l.getD s 0 ≤ 9)) hk (by rw [Bool.and_eq_true, decide_eq_true_eq, decide_eq_true_eq]; exact ⟨h0, h9⟩)
  unfold sh9 cnt9
  refine ⟨by rw [List.getD_eq_getElem?_getD, this]; rfl, ?_⟩
  exact (List.getElem?_eq_some_iff.1 this).1
theorem sh9_mem {l : List Nat} {i : Nat} (hi : i < (sh9 l).length) : (sh9 l).getD i 0 < 258 ∧ 0 < l.getD ((sh9 l).getD i 0) 0 ∧ l.getD ((sh9 l).getD i 0) 0 ≤ 9 := by
  rw [getD_get hi]
  have := List.mem_filter.1 (List.getElem_mem hi)
  simp only [List.mem_range, Bool.and_eq_true, decide_eq_true_eq] at this
  exact this
/-- the table after i symbols -/
def qt (l : List Nat) : Nat → Nat → Nat × Nat
  | 0, _ => (0, 0)
  | i + 1, j => if frm l ((sh9 l).getD i 0) ≤ j ∧ j < til l ((sh9 l).getD i 0) then ((sh9 l).getD i 0, l.getD ((sh9 l).getD i 0) 0) else qt l i j
theorem frm_pos {l : List Nat} (hv : ksum l ≤ 32768) {s : Nat} (h9 : l.getD s 0 ≤ 9) : frm l s * 64 = pos l s ∧ til l s * 64 = pos l s + 2 ^ (15 - l.getD s 0) := by
  have e : 2 ^ (15 - l.getD s 0) = 2 ^ (9 - l.getD s 0) * 64 := by
    rw [show 15 - l.getD s 0 = (9 - l.getD s 0) + 6 by omega, Nat.pow_add]
  have h1 := code_pos hv s
  unfold til frm
  rw [e, ← Nat.mul_assoc] at h1
  rw [e]
  omega
theorem qt_in {l : List Nat} (hl : l.length = 258) (hv : ksum l ≤ 32768) {s x : Nat} (hs : s < 258) (h0 : 0 < l.getD s 0) (h9 : l.getD s 0 ≤ 9) (h1 : frm l s ≤ x) (h2 : x < til l s) : qt l (sh9 l).length x = (s, l.getD s 0) := by
  have key : ∀ i, i ≤ (sh9 l).length → cnt9 l s < i → qt l i x = (s, l.getD s 0) := by
    intro i
    induction i with
    | zero => intro _ h; omega
    | succ i ih =>
      intro hi hc
      rw [qt]
      have hm := sh9_mem (show i < (sh9 l).length by omega)
      by_cases hin : frm l ((sh9 l).getD i 0) ≤ x ∧ x < til l ((sh9 l).getD i 0)
      · rw [if_pos hin]
        have p1 := frm_pos hv h9
        have p2 := frm_pos hv hm.2.2
        have : (sh9 l).getD i 0 = s := pos_uniq (x := x * 64) (by omega) (by omega) hm.2.1 h0 (by omega) (by omega) (by omega) (by omega)
        rw [this]
      · rw [if_neg hin]
        refine ih (by omega) ?_
        rcases Nat.lt_or_ge (cnt9 l s) i with h | h
        · exact h
        · have e : cnt9 l s = i := by omega
          have := (sh9_at hs h0 h9).1
          rw [e] at this
          rw [this] at hin
          exact absurd ⟨h1, h2⟩ hin
  exact key _ (Nat.le_refl _) (sh9_at hs h0 h9).2
theorem qt_out {l : List Nat} {x : Nat} (h : ∀ s, s < 258 → 0 < l.getD s 0 → l.getD s 0 ≤ 9 → ¬ (frm l s ≤ x ∧ x < til l s)) : ∀ i, i ≤ (sh9 l).length → qt l i x = (0, 0)
  | 0, _ => rfl
  | i + 1, hi => by
    have hm := sh9_mem (show i < (sh9 l).length by omega)
    rw [qt, if_neg (h _ hm.1 hm.2.1 hm.2.2), qt_out h i (by omega)]
theorem til_le {l : List Nat} (hl : l.length = 258) (hv : ksum l ≤ 32768) {s : Nat} (hs : s < 258) (h0 : 0 < l.getD s 0) (h9 : l.getD s 0 ≤ 9) : til l s ≤ 512 := by
  have h1 := frm_pos hv h9
  have h2 := pos_next (l := l) (s := s) (by omega) h0
  have h3 := low_mono l (show l.getD s 0 + 1 ≤ 16 by omega)
  rw [low16 hv] at h3
  omega
end Go.Srt
namespace Go.Vc
open Go
/-- a row of pairs -/
def entA (n : Nat) (e : Nat → Int × Int) : Array Value := rowI (2 * n) fun m => if m % 2 = 0 then (e (m / 2)).1 else (e (m / 2)).2
theorem entA_size {n : Nat} {e : Nat → Int × Int} : (entA n e).size = 2 * n := rowI_size
theorem entA_ext {n : Nat} {e e' : Nat → Int × Int} (h : ∀ j, j < n → e j = e' j) : entA n e = entA n e' := rowI_ext fun m hm => by rw [h (m / 2) (by omega)]
theorem entA_set {n : Nat} {e : Nat → Int × Int} {j : Nat} {x y : Int} : ((entA n e).setIfInBounds (j * 2) (.int .i64 x)).setIfInBounds (j * 2 + 1) (.int .i64 y) = entA n fun i => if i = j then (x, y) else e i := by
  unfold entA
  rw [rowI_set, rowI_set]
  refine rowI_ext fun m hm => ?_
  dsimp only
  by_cases h1 : m = j * 2 + 1
  · subst h1; rw [if_pos rfl, if_neg (by omega), if_pos (by omega)]
  · rw [if_neg h1]
    by_cases h2 : m = j * 2
    · subst h2; rw [if_pos rfl, if_pos (by omega), if_pos (by omega)]
    · rw [if_neg h2]
      by_cases h3 : m / 2 = j
      · omega
      · rw [if_neg h3]
theorem rowI_scalar {n : Nat} {f : Nat → Int} : ∀ v ∈ (rowI n f).toList, scalarB v = true := by
  intro v hv
  unfold rowI at hv
  obtain ⟨j, _, rfl⟩ := List.mem_map.1 hv
  rfl
section
variable {E w : World} {F : List HP}
abbrev kII : Ki := .st [.int .i64, .int .i64]
theorem IdxP.rd2 {b n : Nat} {e : Nat → Int × Int} {t : TypeId} {fr : Nat × Nat} {i : Int} {j : Nat} {K : kII.T → Prop} (h : Hp E w (Blk b (.cells (entA n e) t fr) :: F)) (hi : i = (j : Int)) (hj : j < n) (hK : K ((e j).1, (e j).2, ())) :
    IdxP ⟨b, 0, none⟩ n i 2 fun q => Ld kII q w K := by
  subst hi
  refine ⟨by omega, by omega, ?_⟩
  rw [add_mk]
  refine Ld.st (ks := [.int .i64, .int .i64]) ((e j).1, (e j).2, ()) (fun m hm => ?_) hK
  have hm : m < 2 := hm
  rw [add_mk, h.cell]
  unfold entA
  have hmm : m = 0 ∨ m = 1 := by omega
  rcases hmm with rfl | rfl
  · rw [rowI_get (by rw [Int.toNat_natCast]; omega), Int.toNat_natCast, show (0 + j * 2 + 0) % 2 = 0 by omega, if_pos rfl, show (0 + j * 2 + 0) / 2 = j by omega]; rfl
  · rw [rowI_get (by rw [Int.toNat_natCast]; omega), Int.toNat_natCast, if_neg (by omega), show (0 + j * 2 + 1) / 2 = j by omega]; rfl
theorem IdxP.wr2 {b n : Nat} {e : Nat → Int × Int} {t : TypeId} {i : Int} {j : Nat} {x y : Int} {K : World → Prop} (h : Hp E w (Blk b (.cells (entA n e) t (0, 0)) :: F)) (hi : i = (j : Int)) (hj : j < n)
    (hK : ∀ w', Hp E w' (Blk b (.cells (entA n fun m => if m = j then (x, y) else e m) t (0, 0)) :: F) → K w') :
    IdxP ⟨b, 0, none⟩ n i 2 fun q => StC q [.int .i64 x, .int .i64 y] 0 w K := by
  subst hi
  refine ⟨by omega, by omega, ?_⟩
  rw [add_mk, Int.toNat_natCast, Nat.zero_add]
  have hs := entA_size (n := n) (e := e)
  have h1 := h.setCell (i := j * 2) (.int .i64 x)
  have h2 := h1.setCell (i := j * 2 + 1) (.int .i64 y)
  rw [entA_set] at h2
  refine ⟨?_, ?_, ?_, ?_, hK _ h2⟩
  · rw [add_mk, h.cell]; simp; omega
  · rw [add_mk]; simp [World.frozen?, h.blk]
  · rw [add_mk, add_mk, Nat.add_zero, Nat.zero_add, h1.cell]; simp; omega
  · rw [add_mk, add_mk, Nat.add_zero, Nat.zero_add]; simp [World.frozen?, h1.blk]
end
end Go.Vc
namespace Go.Proofs.Ytajpnkioigcejaa
open Go Go.Vc Go.Srt
section
variable {E w : World} {F A : List HP}
def exI (l : List Nat) (i : Nat) : kII.T := (((sh9 l).getD i 0 : Int), (l.getD ((sh9 l).getD i 0) 0 : Int), ())
def eyI (l : List Nat) (i : Nat) : kII.T := ((frm l ((sh9 l).getD i 0) : Int), (til l ((sh9 l).getD i 0) : Int), ())
set_option maxRecDepth 20000 in
theorem short_iter {l : List Nat} {b : Nat} (hl : l.length = 258) (hok : okT l = true) : Iter Try.prog E (.func (.func n_prefixdec_short_1) ⟨[]⟩ ⟨[.pointer (some ⟨b, 0, none⟩)]⟩) (sh9 l).length (fun i => [Ki.enc kII (exI l i), Ki.enc kII (eyI l i)])
    (Blk b (.cells (ai .u8 l) 23 (0, 0)) :: A) := by
  intro yv C G w K hy h hK hKG
  have hv : ksum l ≤ 32768 := by rw [(okT_iff.1 hok).1]; decide
  refine ClV.mk (by kernel_rfl) (prefixdec_short_1.ok yv ⟨b, 0, none⟩ K w ?_)
  unfold prefixdec_short_1.E
  have h0 := h.perm List.perm_middle
  rw [ai_zero]
  refine Ld.arr h0 (by rw [ai_size, hl]) (codes_c h0 hl (fun hn => absurd hv hn) fun _ ys w1 hys h1 => ?_)
  refine Nw.mk h1 fun b8 w2 h2 => StA.blk h2 (by rw [ai_size]; simp) (by rw [ai_size, codesTo_len]) ai_scalar fun w3 h3 => Ld.arr h3.p1 (by rw [ai_size, hl]) ?_
  refine ⟨fun t w' => ∃ k : Nat, t = (k : Int) ∧ k ≤ 258 ∧ Hp E w' (Blk b8 (.cells (ai .u32 (codesTo l ys ys.length)) 80 (0, 0)) :: Blk b (.cells (ai .u8 l) 23 (0, 0)) :: (C (cnt9 l k) ++ A)),
    fun t _ => 258 - t.toNat, ⟨0, rfl, by omega, h3⟩, ?_⟩
  rintro t w4 ⟨k, rfl, hk, h4⟩
  refine IfB.mk (fun hlt => ?_) (fun hge => ?_)
  · have hlt : k < 258 := by have := of_decide_eq_true hlt; omega
    have hkl : k < l.length := by omega
    have hg := getD_get hkl
    have h15 := len15 hv k
    rw [hg] at h15
    have hcs := cnt9_succ (l := l) (k := k)
    rw [hg] at hcs
    refine IdxV.rd (s := .int .u8) (by omega) (by omega) (l[k] : Int) (by rw [Int.toNat_natCast]; exact ai_get hkl) (IfB.mk (fun hz => ?_) (fun hz => IfB.mk (fun h9 => ?_) (fun h9 => ?_)))
    · have hz : l[k] = 0 := by rw [beq_iff_eq] at hz; omega
      rw [if_neg (by omega)] at hcs
      rw [i64_id (by omega)]
      exact ⟨rfl, ⟨k + 1, rfl, by omega, by rw [hcs]; exact h4⟩, by dsimp only; omega⟩
    · have h9 : 9 < l[k] := by have := of_decide_eq_true h9; omega
      rw [if_neg (by omega)] at hcs
      rw [i64_id (by omega)]
      exact ⟨rfl, ⟨k + 1, rfl, by omega, by rw [hcs]; exact h4⟩, by dsimp only; omega⟩
    · have hz : 0 < l[k] := by have := beq_eq_false_iff_ne.1 hz; omega
      have h9 : l[k] ≤ 9 := by have := of_decide_eq_false h9; omega
      rw [if_pos ⟨hz, h9⟩] at hcs
      obtain ⟨ha, hi⟩ := sh9_at hlt (by rw [hg]; exact hz) (by rw [hg]; exact h9)
      refine IdxP.rd (s := .int .u32) h4 (by omega) (by omega) ((codesTo l ys ys.length).getD k 0 : Int) (getN (by rw [codesTo_len]; exact hlt)) ?_
      rw [codes_code hl hv hys hlt (by rw [hg]; exact hz)]
      have hc := code_lt hl hv hlt (by rw [hg]; exact hz)
      rw [hg] at hc
      have hp : (2 : Nat) ^ l[k] ≤ 2 ^ 9 := Nat.pow_le_pow_right (by decide) h9
      have hp9 : (2 : Nat) ^ 9 = 512 := by decide
      have hpm : (2 : Nat) ^ l[k] * 2 ^ (9 - l[k]) = 512 := by rw [← Nat.pow_add, show l[k] + (9 - l[k]) = 9 by omega]
      have hfr : frm l k = code l k * 2 ^ (9 - l[k]) := by unfold frm; rw [hg]
      have htl : til l k = frm l k + 2 ^ (9 - l[k]) := by unfold til; rw [hg]
      have hf512 : frm l k + 2 ^ (9 - l[k]) ≤ 512 := by
        rw [hfr, ← hpm, ← Nat.succ_mul]; exact Nat.mul_le_mul_right _ hc
      have hpos := Nat.two_pow_pos (9 - l[k])
      have e1 : ishl .i64 (code l k : Int) ((9 - l[k] : Nat) : Int) = (frm l k : Int) := by
        rw [ishl_nat (by have : IntKind.bits .i64 = 64 := rfl; omega) (by have : IntKind.max .i64 = 9223372036854775807 := rfl; rw [← hfr]; omega), ← hfr]
      have e2 : ishr .i64 512 (l[k] : Int) = ((2 ^ (9 - l[k]) : Nat) : Int) := by
        rw [show (512 : Int) = ((512 : Nat) : Int) from rfl, ishr_nat (by have : IntKind.bits .i64 = 64 := rfl; omega)]
        rw [Nat.div_eq_of_eq_mul_right (Nat.two_pow_pos _) hpm.symm]
      rw [u8_id (x := 9 - (l[k] : Int)) (by omega), show (9 : Int) - (l[k] : Int) = ((9 - l[k] : Nat) : Int) by omega, i64_id (x := (code l k : Int)) (by omega), i64_id (x := (l[k] : Int)) (by omega), e1, e2, i64_id (x := (frm l k : Int) + ((2 ^ (9 - l[k]) : Nat) : Int)) (by omega)]
      refine ⟨by omega, by omega, ?_⟩
      have hcl := hy (cnt9 l k) hi (Blk b8 (.cells (ai .u32 (codesTo l ys ys.length)) 80 (0, 0)) :: Blk b (.cells (ai .u8 l) 23 (0, 0)) :: A) w4
        (fun r19 w_18 => IfB (!r19) (K w_18) (([] : List Nat) = [] ∧ (fun t w' => ∃ k : Nat, t = (k : Int) ∧ k ≤ 258 ∧ Hp E w' (Blk b8 (.cells (ai .u32 (codesTo l ys ys.length)) 80 (0, 0)) :: Blk b (.cells (ai .u8 l) 23 (0, 0)) :: (C (cnt9 l k) ++ A))) (i64 ((k : Int) + 1)) w_18 ∧
          (fun (t : Int) (_ : World) => 258 - t.toNat) (i64 ((k : Int) + 1)) w_18 < (fun (t : Int) (_ : World) => 258 - t.toNat) (k : Int) w4))
        (h4.perm ((List.Perm.cons _ List.perm_middle.symm).trans List.perm_middle.symm)) (fun w5 h5 => ?_) (fun w5 h5 => ?_)
      · have ev : [Ki.enc kII (exI l (cnt9 l k)), Ki.enc kII (eyI l (cnt9 l k))] = [.agg ⟨[.int .i64 (k : Int), .int .i64 (l[k] : Int)]⟩, .agg ⟨[.int .i64 (frm l k : Int), .int .i64 ((frm l k : Int) + ((2 ^ (9 - l[k]) : Nat) : Int))]⟩] := by
          unfold exI eyI
          rw [ha, hg, htl]
          rfl
        change ClY _ _ _ [Ki.enc kII (exI l (cnt9 l k)), Ki.enc kII (eyI l (cnt9 l k))] _ _ at hcl
        rw [ev] at hcl
        exact hcl
      · refine IfB.f rfl ⟨rfl, ⟨k + 1, by rw [i64_id (by omega)]; omega, by omega, ?_⟩, by dsimp only; rw [i64_id (by omega)]; omega⟩
        rw [hcs]
        exact h5.perm (List.perm_middle.trans (List.Perm.cons _ List.perm_middle))
      · exact IfB.t rfl (hKG _ _ hi ((h5.perm (List.perm_middle.trans (List.Perm.cons _ List.perm_middle))).drop.perm List.perm_middle.symm))
  · have hge : k = 258 := by have := of_decide_eq_false hge; omega
    subst hge
    exact hK _ (h4.drop.perm List.perm_middle.symm)
def qtI (l : List Nat) (i : Nat) (j : Nat) : Int × Int := (((qt l i j).1 : Int), ((qt l i j).2 : Int))
set_option maxRecDepth 20000 in
theorem zeroE : (⟨List.replicate 1024 (.int .i64 0)⟩ : Array Value) = entA 512 fun _ => (0, 0) := by
  unfold entA rowI
  congr 1
set_option maxRecDepth 20000 in
theorem quick_c {l : List Nat} {K : Array Value → Int → World → Prop} (h : Hp E w F) (hl : l.length = 258) (hK1 : okT l = false → ∀ w', Hp E w' F → K (entA 512 fun _ => (0, 0)) 2 w') (hK2 : okT l = true → ∀ w', Hp E w' F → K (entA 512 (qtI l (sh9 l).length)) 0 w') :
    Cl Try.prog [.arr 1024, kI] n_prefixdec_Quick ⟨[.agg (ai .u8 l)]⟩ w K := by
  refine prefixdec_Quick.ok _ _ _ ?_
  unfold prefixdec_Quick.E
  rw [zeroE]
  refine Nw.mk h fun b3 w1 h1 => Nw.mk h1 fun b5 w2 h2 => Ld.arr h2.p1 (by rw [ai_size, hl]) (table_c h2 hl fun w3 h3 => IfB.mk (fun hv => ?_) (fun hv => ?_))
  · exact Ld.arr h3 entA_size (StA.blk h3 entA_size entA_size rowI_scalar fun w4 h4 => Ld.arr h4 entA_size (hK1 (by simpa using hv) _ h4.drop.drop))
  have hv : okT l = true := by simpa using hv
  have hs : ksum l ≤ 32768 := by rw [(okT_iff.1 hv).1]; decide
  refine Ld.arr h3.p1 (by rw [ai_size, hl]) (prefixdec_short.ok _ _ _ ?_)
  unfold prefixdec_short.E
  refine Nw.mk h3 fun b7 w4 h4 => ?_
  have h4 : Hp E w4 ([Blk b5 (.cells (entA 512 (qtI l 0)) 39 (0, 0))] ++ (Blk b7 (.cells (ai .u8 l) 23 (0, 0)) :: Blk b3 (.cells (ai .u8 l) 23 (0, 0)) :: F)) := h4.p1
  refine Rng.mk2 (k := kII) (k' := kII) (x := exI l) (y := eyI l) (n := (sh9 l).length) (fun i => [Blk b5 (.cells (entA 512 (qtI l i)) 39 (0, 0))]) (fun _ => [Nope]) h4 (short_iter hl hv) ?_ ?_ ?_
  · intro lr rec i A w5 Kt Kf hi h5 hKt _
    obtain ⟨m1, m2, m3⟩ := sh9_mem hi
    have htl := til_le hl hs m1 m2 m3
    have h15 := len15 hs ((sh9 l).getD i 0)
    generalize hsd : (sh9 l).getD i 0 = s at m1 m2 m3 htl h15
    have hex : exI l i = ((s : Int), (l.getD s 0 : Int), ()) := by unfold exI; rw [hsd]
    have hey : eyI l i = ((frm l s : Int), (til l s : Int), ()) := by unfold eyI; rw [hsd]
    have hft : frm l s ≤ til l s := Nat.le_add_right _ _
    rw [hex, hey]
    refine Nw.mk h5 fun b23 w6 h6 => StC.blk h6 rfl (by intro v hv; simp only [List.mem_cons, List.not_mem_nil, or_false] at hv; rcases hv with rfl | rfl <;> rfl) fun w7 h7 => ?_
    refine Nw.mk h7 fun b26 w8 h8 => StC.blk h8 rfl (by intro v hv; simp only [List.mem_cons, List.not_mem_nil, or_false] at hv; rcases hv with rfl | rfl <;> rfl) fun w9 h9 => ?_
    refine Beg.mk h9.p2 fun w10 h10 => ?_
    refine IdxP.rd (s := .int .i64) h10.p1 (by decide) (by decide) (frm l s : Int) rfl ?_
    refine ⟨fun c w' => ∃ k : Nat, c = (k : Int) ∧ frm l s ≤ k ∧ k ≤ til l s ∧ Hp E w' (Blk b5 (.cells (entA 512 fun j => if frm l s ≤ j ∧ j < k then ((s : Int), (l.getD s 0 : Int)) else qtI l i j) 39 (0, 0)) ::
        Blk lr (rec 1) :: Blk b26 (.cells ⟨[.int .i64 (frm l s : Int), .int .i64 (til l s : Int)]⟩ 78 (0, 0)) :: Blk b23 (.cells ⟨[.int .i64 (s : Int), .int .i64 (l.getD s 0 : Int)]⟩ 38 (0, 0)) :: A), fun c _ => 600 - c.toNat, ⟨frm l s, rfl, by omega, hft, ?_⟩, ?_⟩
    · have := h10.p3
      rw [entA_ext (e' := fun j => if frm l s ≤ j ∧ j < frm l s then ((s : Int), (l.getD s 0 : Int)) else qtI l i j) (fun j _ => by rw [if_neg (by omega)])] at this
      exact this
    rintro c w' ⟨k, rfl, hk1, hk2, hh⟩
    refine IdxP.rd (s := .int .i64) hh.p2 (by decide) (by decide) (til l s : Int) rfl (IfB.mk (fun hlt => ?_) (fun hge => ?_))
    · have hlt : k < til l s := by have := of_decide_eq_true hlt; omega
      refine Ld.stBlk (ks := [.int .i64, .int .i64]) hh.p3 ((s : Int), (l.getD s 0 : Int), ()) rfl (IdxP.wr2 hh rfl (by omega) fun w11 h11 => ⟨rfl, ⟨k + 1, by rw [i64_id (by omega)]; omega, by omega, by omega, ?_⟩, by dsimp only; rw [i64_id (by omega)]; omega⟩)
      rw [entA_ext (e' := fun j => if frm l s ≤ j ∧ j < k + 1 then ((s : Int), (l.getD s 0 : Int)) else qtI l i j)] at h11
      · exact h11
      · intro j _
        by_cases e : j = k
        · rw [if_pos e, if_pos (by omega)]
        · rw [if_neg e]
          by_cases e2 : frm l s ≤ j ∧ j < k
          · rw [if_pos e2, if_pos (by omega)]
          · rw [if_neg e2, if_neg (by omega)]
    · have hge : k = til l s := by have := of_decide_eq_false hge; omega
      subst hge
      refine EndT.mk hh.p1 fun w11 h11 => hKt w11 ?_
      have h12 := h11.p2.drop.p2.drop
      rw [entA_ext (e' := qtI l (i + 1)) (fun j _ => ?_)] at h12
      · exact h12
      · unfold qtI
        rw [qt, hsd]
        by_cases e2 : frm l s ≤ j ∧ j < til l s
        · rw [if_pos e2, if_pos e2]
        · rw [if_neg e2, if_neg e2]
  · intro D w5 h5
    have h5 : Hp E w5 (Blk D (.deferred (some [])) :: Blk b5 (.cells (entA 512 (qtI l (sh9 l).length)) 39 (0, 0)) :: Blk b7 (.cells (ai .u8 l) 23 (0, 0)) :: Blk b3 (.cells (ai .u8 l) 23 (0, 0)) :: F) := h5
    exact Ld.arr h5.p1 entA_size (StA.blk h5.p1 entA_size entA_size rowI_scalar fun w6 h6 => Dfr.mk1 h6.p1 fun w7 h7 => Ld.arr h7 entA_size (hK2 hv _ h7.drop.drop.drop))
  · intro i D w5 hi h5
    exact (Hp.nope h5).elim
end
end Go.Proofs.Ytajpnkioigcejaa
