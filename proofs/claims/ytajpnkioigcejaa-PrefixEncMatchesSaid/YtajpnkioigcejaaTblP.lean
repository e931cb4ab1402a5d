/-
  The plain law of canonical codes, by lengths: the first code of each length, the codes of a length in the order of their symbols, the intervals they stand for. Conditions: as each theorem states.
-/
import Derived.Test.YtajpnkioigcejaaCode
namespace Go.Srt
/-- how many symbols have a length, none of length 0 counted -/
def many (l : List Nat) (n : Nat) : Nat := if n = 0 then 0 else l.count n
/-- the first code of a length -/
def fst (l : List Nat) : Nat → Nat
  | 0 => 0
  | n + 1 => 2 * (fst l n + many l n)
/-- the shares of all shorter codes -/
def low (l : List Nat) : Nat → Nat
  | 0 => 0
  | n + 1 => low l n + many l n * 2 ^ (15 - n)
theorem fst_low (l : List Nat) : ∀ n, n ≤ 15 → fst l n * 2 ^ (15 - n) = low l n
  | 0, _ => by simp [fst, low]
  | n + 1, h => by
    have ih := fst_low l n (by omega)
    have e : 2 ^ (15 - n) = 2 * 2 ^ (15 - (n + 1)) := by rw [show 15 - n = (15 - (n + 1)) + 1 by omega, Nat.pow_succ, Nat.mul_comm]
    rw [fst, low, ← ih, ← Nat.add_mul, e, Nat.mul_comm 2 (fst l n + many l n), Nat.mul_assoc]
theorem low_nil (n : Nat) : low [] n = 0 := by
  induction n with
  | zero => rfl
  | succ n ih => rw [low, ih]; simp [many]
theorem low_app (l : List Nat) (x : Nat) : ∀ n, low (l ++ [x]) n = low l n + if 0 < x ∧ x < n then 2 ^ (15 - x) else 0
  | 0 => by simp [low]
  | n + 1 => by
    rw [low, low, low_app l x n]
    unfold many
    rw [List.count_append, List.count_singleton]
    by_cases h0 : n = 0
    · subst h0; rw [if_pos rfl, if_pos rfl, if_neg (by omega), if_neg (by omega)]
    · rw [if_neg h0, if_neg h0]
      by_cases hx : x = n
      · subst hx
        rw [if_neg (by omega), if_pos (by simp), if_pos (by omega), Nat.add_mul]; omega
      · rw [if_neg (show ¬ (x == n) = true by simpa using hx)]
        by_cases h : 0 < x ∧ x < n
        · rw [if_pos h, if_pos (by omega), Nat.add_zero]; omega
        · rw [if_neg h, if_neg (by omega), Nat.add_zero, Nat.add_zero, Nat.add_zero]
theorem low_mono (l : List Nat) {n m : Nat} (h : n ≤ m) : low l n ≤ low l m := by
  induction m with
  | zero => have : n = 0 := by omega
            subst this; exact Nat.le_refl _
  | succ m ih =>
    by_cases e : n = m + 1
    · subst e; exact Nat.le_refl _
    · have := ih (by omega)
      rw [low]; omega
theorem low_all : ∀ (k : Nat) (l : List Nat), l.length = k → (∀ x ∈ l, x ≤ 15) → low l 16 = ksum l := by
  intro k
  induction k with
  | zero => intro l h _; have : l = [] := List.length_eq_zero_iff.1 h
            subst this; simp [low_nil, ksum]
  | succ k ih =>
    intro l hl h
    have hne : l ≠ [] := by intro e; subst e; simp at hl
    obtain ⟨l', x, rfl⟩ : ∃ l' x, l = l' ++ [x] := ⟨l.dropLast, l.getLast hne, (List.dropLast_concat_getLast hne).symm⟩
    rw [low_app, ih l' (by simpa using hl) (fun y hy => h y (by simp [hy]))]
    have hx := h x (by simp)
    unfold ksum
    rw [List.map_append, List.sum_append]
    congr 1
    simp only [List.map_cons, List.map_nil, List.sum_cons, List.sum_nil, Nat.add_zero]
    unfold wt
    by_cases h0 : x = 0
    · rw [if_neg (by omega), if_pos h0]
    · rw [if_pos (by omega), if_neg h0, if_neg (by omega)]
theorem low16 {l : List Nat} (hv : ksum l ≤ 32768) : low l 16 = ksum l := low_all _ l rfl fun x hx => by
  obtain ⟨i, hi, rfl⟩ := List.getElem_of_mem hx
  have := len15 hv i
  rwa [List.getD_eq_getElem?_getD, List.getElem?_eq_getElem hi] at this
/-- a symbol's place among those of its length -/
def rank (l : List Nat) (s : Nat) : Nat := (l.take s).count (l.getD s 0)
def code (l : List Nat) (s : Nat) : Nat := fst l (l.getD s 0) + rank l s
/-- where the symbol's interval begins -/
def pos (l : List Nat) (s : Nat) : Nat := low l (l.getD s 0) + rank l s * 2 ^ (15 - l.getD s 0)
theorem code_pos {l : List Nat} (hv : ksum l ≤ 32768) (s : Nat) : code l s * 2 ^ (15 - l.getD s 0) = pos l s := by
  unfold code pos
  rw [Nat.add_mul, fst_low l _ (len15 hv s)]
theorem getD_get {l : List Nat} {i : Nat} (h : i < l.length) : l.getD i 0 = l[i] := by rw [List.getD_eq_getElem?_getD, List.getElem?_eq_getElem h]; rfl
theorem count_take_le (l : List Nat) (k x : Nat) : (l.take k).count x ≤ l.count x := (List.take_sublist k l).count_le x
theorem count_take_succ {l : List Nat} {k : Nat} (h : k < l.length) (x : Nat) : (l.take (k + 1)).count x = (l.take k).count x + if l[k] = x then 1 else 0 := by
  rw [List.take_add_one, List.getElem?_eq_getElem h, List.count_append]
  simp only [Option.toList, List.count_singleton, beq_iff_eq]
theorem count_take_mono {l : List Nat} {i j : Nat} (h : i ≤ j) (x : Nat) : (l.take i).count x ≤ (l.take j).count x := by
  have : (l.take i) = (l.take j).take i := by rw [List.take_take, Nat.min_eq_left h]
  rw [this]; exact count_take_le _ _ _
theorem rank_lt {l : List Nat} {s : Nat} (hs : s < l.length) (h0 : 0 < l.getD s 0) : rank l s < many l (l.getD s 0) := by
  unfold rank many
  rw [if_neg (by omega)]
  have h1 := count_take_succ hs (l.getD s 0)
  rw [getD_get hs, if_pos rfl] at h1
  have h2 := count_take_le l (s + 1) (l[s])
  rw [getD_get hs]
  omega
theorem pos_next {l : List Nat} {s : Nat} (hs : s < l.length) (h0 : 0 < l.getD s 0) : pos l s + 2 ^ (15 - l.getD s 0) ≤ low l (l.getD s 0 + 1) := by
  have := rank_lt hs h0
  unfold pos
  rw [low, Nat.add_assoc, ← Nat.succ_mul]
  exact Nat.add_le_add_left (Nat.mul_le_mul_right _ this) _
/-- the intervals of two symbols are apart -/
theorem pos_apart {l : List Nat} {s t : Nat} (hs : s < l.length) (ht : t < l.length) (h0 : 0 < l.getD s 0) (hne : s ≠ t) (h : l.getD s 0 < l.getD t 0 ∨ (l.getD s 0 = l.getD t 0 ∧ s < t)) : pos l s + 2 ^ (15 - l.getD s 0) ≤ pos l t := by
  rcases h with h | ⟨h, hst⟩
  · have h1 := pos_next hs h0
    have h2 := low_mono l (show l.getD s 0 + 1 ≤ l.getD t 0 by omega)
    unfold pos at h1 ⊢
    omega
  · have h1 := count_take_succ hs (l.getD t 0)
    rw [if_pos (by rw [← h, getD_get hs])] at h1
    have h2 := count_take_mono (l := l) (show s + 1 ≤ t by omega) (l.getD t 0)
    unfold pos rank
    rw [h, Nat.add_assoc, ← Nat.succ_mul]
    exact Nat.add_le_add_left (Nat.mul_le_mul_right _ (by omega)) _
theorem pos_uniq {l : List Nat} {s t x : Nat} (hs : s < l.length) (ht : t < l.length) (h0 : 0 < l.getD s 0) (h1 : 0 < l.getD t 0) (hxs : pos l s ≤ x) (hxs' : x < pos l s + 2 ^ (15 - l.getD s 0)) (hxt : pos l t ≤ x) (hxt' : x < pos l t + 2 ^ (15 - l.getD t 0)) : s = t := by
  by_cases e : s = t
  · exact e
  · rcases Nat.lt_trichotomy (l.getD s 0) (l.getD t 0) with h | h | h
    · have := pos_apart hs ht h0 e (.inl h); omega
    · rcases Nat.lt_or_ge s t with h' | h'
      · have := pos_apart hs ht h0 e (.inr ⟨h, h'⟩); omega
      · have := pos_apart ht hs h1 (Ne.symm e) (.inr ⟨h.symm, by omega⟩); omega
    · have := pos_apart ht hs h1 (Ne.symm e) (.inl h); omega
/-- there is a symbol for each place -/
theorem of_rank (l : List Nat) (n : Nat) : ∀ p, p < l.count n → ∃ s, s < l.length ∧ l.getD s 0 = n ∧ rank l s = p := by
  intro p hp
  have key : ∀ k, k ≤ l.length → p < (l.take k).count n → ∃ s, s < k ∧ l.getD s 0 = n ∧ rank l s = p := by
    intro k
    induction k with
    | zero => intro _ h; simp at h
    | succ k ih =>
      intro hk h
      by_cases h2 : p < (l.take k).count n
      · obtain ⟨s, h1, h3⟩ := ih (by omega) h2; exact ⟨s, by omega, h3⟩
      · have h3 := count_take_succ (l := l) (k := k) (by omega) n
        by_cases h4 : l[k] = n
        · rw [if_pos h4] at h3
          refine ⟨k, by omega, by rw [getD_get (by omega), h4], ?_⟩
          unfold rank
          rw [getD_get (by omega), h4]; omega
        · rw [if_neg h4] at h3; omega
  obtain ⟨s, h1, h2⟩ := key l.length (Nat.le_refl _) (by rwa [List.take_length])
  exact ⟨s, by omega, h2⟩
theorem rank_inj {l : List Nat} {s t : Nat} (hs : s < l.length) (ht : t < l.length) (h : l.getD s 0 = l.getD t 0) (hr : rank l s = rank l t) : s = t := by
  have aux : ∀ {s t : Nat}, s < l.length → t < l.length → l.getD s 0 = l.getD t 0 → rank l s = rank l t → ¬ s < t := by
    intro s t hs ht h hr hlt
    have h1 := count_take_succ hs (l.getD t 0)
    rw [if_pos (by rw [← h, getD_get hs])] at h1
    have h2 := count_take_mono (l := l) (show s + 1 ≤ t by omega) (l.getD t 0)
    unfold rank at hr
    rw [h] at hr
    omega
  have h1 := aux hs ht h hr
  have h2 := aux ht hs h.symm hr.symm
  omega
/-! the order's codes are these -/
def bef (l : List Nat) (n s t : Nat) : Bool := decide (0 < l.getD t 0) && decide (l.getD t 0 < n ∨ (l.getD t 0 = n ∧ t < s))
theorem sum_before (l : List Nat) (n s : Nat) (hn : 0 < n) : ∀ k, k ≤ l.length → (((List.range k).filter (bef l n s)).map (sh l)).sum = low (l.take k) n + ((l.take k).take s).count n * 2 ^ (15 - n)
  | 0, _ => by simp [low_nil]
  | k + 1, hk => by
    have hk' : k < l.length := by omega
    rw [List.range_succ, List.filter_append, List.map_append, List.sum_append, sum_before l n s hn k (by omega)]
    have e1 : l.take (k + 1) = l.take k ++ [l[k]] := by rw [List.take_add_one, List.getElem?_eq_getElem hk']; rfl
    rw [e1, low_app]
    have hg := getD_get hk'
    have hlen : (l.take k).length = k := by simp; omega
    have hc : 0 < l[k] → (l[k] < n ∨ (l[k] = n ∧ k < s)) → bef l n s k = true := fun h0 h1 => by
      unfold bef; rw [hg, Bool.and_eq_true, decide_eq_true_eq, decide_eq_true_eq]; exact ⟨h0, h1⟩
    have hc' : ¬ (0 < l[k] ∧ (l[k] < n ∨ (l[k] = n ∧ k < s))) → ¬ bef l n s k = true := fun h => by
      unfold bef; rw [hg, Bool.and_eq_true, decide_eq_true_eq, decide_eq_true_eq]; exact h
    by_cases hks : k < s
    · have e2 : (l.take k ++ [l[k]]).take s = l.take k ++ [l[k]] := List.take_of_length_le (by rw [List.length_append, hlen]; simp; omega)
      have e3 : (l.take k).take s = l.take k := List.take_of_length_le (by omega)
      rw [e2, e3, List.count_append, List.count_singleton]
      by_cases h0 : 0 < l[k] ∧ l[k] < n
      · rw [List.filter_cons_of_pos (hc h0.1 (.inl h0.2)), if_pos h0, if_neg (by rw [beq_iff_eq]; omega)]
        simp only [List.filter_nil, List.map_cons, List.map_nil, List.sum_cons, List.sum_nil, sh, hg, Nat.add_zero]; omega
      · rw [if_neg h0]
        by_cases h1 : l[k] = n
        · rw [List.filter_cons_of_pos (hc (by omega) (.inr ⟨h1, hks⟩)), if_pos (by simpa using h1), Nat.add_mul]
          simp only [List.filter_nil, List.map_cons, List.map_nil, List.sum_cons, List.sum_nil, sh, hg, h1]; omega
        · rw [List.filter_cons_of_neg (hc' (by omega)), if_neg (by simpa using h1)]
          simp
    · have e2 : (l.take k ++ [l[k]]).take s = (l.take k).take s := by rw [List.take_append_of_le_length (by omega)]
      rw [e2]
      by_cases h0 : 0 < l[k] ∧ l[k] < n
      · rw [List.filter_cons_of_pos (hc h0.1 (.inl h0.2)), if_pos h0]
        simp only [List.filter_nil, List.map_cons, List.map_nil, List.sum_cons, List.sum_nil, sh, hg, Nat.add_zero]; omega
      · rw [if_neg h0, List.filter_cons_of_neg (hc' (by omega))]
        simp
theorem start_pos {l ys : List Nat} (h : IsOrd l ys) {i : Nat} (hi : i < ys.length) : start l ys i = pos l ys[i] := by
  have hm := used_mem.1 (h.1.mem_iff.1 (List.getElem_mem hi))
  let p : Nat → Bool := fun t => decide (l.getD t 0 < l.getD ys[i] 0 ∨ (l.getD t 0 = l.getD ys[i] 0 ∧ t < ys[i]))
  have hpw := List.pairwise_iff_getElem.1 h.2
  have e1 : ys.filter p = ys.take i := by
    conv => lhs; rw [← List.take_append_drop i ys]
    rw [List.filter_append, List.filter_eq_self.2, List.filter_eq_nil_iff.2, List.append_nil]
    · intro a ha
      obtain ⟨j, hj, rfl⟩ := List.getElem_of_mem ha
      rw [List.length_drop] at hj
      rw [List.getElem_drop]
      show ¬ p _ = true
      by_cases e : j = 0
      · subst e; simp only [p, Nat.add_zero, decide_eq_true_eq]; omega
      · have := hpw i (i + j) hi (by omega) (by omega)
        simp only [p, decide_eq_true_eq]; omega
    · intro a ha
      obtain ⟨j, hj, rfl⟩ := List.getElem_of_mem ha
      rw [List.length_take] at hj
      rw [List.getElem_take]
      have := hpw j i (by omega) hi (by omega)
      simp only [p, decide_eq_true_eq]; omega
  have e2 : ((ys.take i).map (sh l)).sum = (((used l).filter p).map (sh l)).sum := by
    rw [← e1]; exact ((h.1.filter p).map (sh l)).sum_nat
  unfold start
  rw [e2]
  have e3 : (used l).filter p = (List.range l.length).filter (bef l (l.getD ys[i] 0) ys[i]) := by
    unfold used; rw [List.filter_filter]; congr 1; funext t; rw [Bool.and_comm]; rfl
  rw [e3]
  have := sum_before l (l.getD ys[i] 0) ys[i] hm.2 l.length (Nat.le_refl _)
  rw [List.take_length] at this
  exact this
theorem codeAt_code {l ys : List Nat} (hv : ksum l ≤ 32768) (h : IsOrd l ys) {i : Nat} (hi : i < ys.length) : codeAt l ys i = code l ys[i] := by
  have h1 := codeAt_mul h hi
  rw [start_pos h hi, ← code_pos hv] at h1
  exact Nat.eq_of_mul_eq_mul_right (sh_pos l ys[i]) h1
/-- the table of codes -/
theorem codes_code {l ys : List Nat} (hl : l.length = 258) (hv : ksum l ≤ 32768) (h : IsOrd l ys) {s : Nat} (hs : s < 258) (h0 : 0 < l.getD s 0) : (codesTo l ys ys.length).getD s 0 = code l s := by
  have hin : ∀ s ∈ ys, s < 258 := fun s hs => by have := (used_mem.1 (h.1.mem_iff.1 hs)).1; omega
  have hm : s ∈ ys := h.1.mem_iff.2 (used_mem.2 ⟨by omega, h0⟩)
  obtain ⟨i, hi, rfl⟩ := List.getElem_of_mem hm
  rw [codesTo_at h hin _ (Nat.le_refl _) i hi hi, codeAt_code hv h hi]
theorem code_lt {l : List Nat} (hl : l.length = 258) (hv : ksum l ≤ 32768) {s : Nat} (hs : s < 258) (h0 : 0 < l.getD s 0) : code l s < 2 ^ l.getD s 0 := by
  have h1 := code_pos hv s
  have h2 := pos_next (by omega) h0
  have h3 := low_mono l (show l.getD s 0 + 1 ≤ 16 by have := len15 hv s; omega)
  rw [low16 hv] at h3
  have h4 := sh_mul hv s
  unfold sh at h4
  have h5 : (code l s + 1) * 2 ^ (15 - l.getD s 0) ≤ 2 ^ l.getD s 0 * 2 ^ (15 - l.getD s 0) := by rw [Nat.succ_mul]; omega
  exact Nat.le_of_mul_le_mul_right h5 (Nat.two_pow_pos _)
end Go.Srt
