/-
  Texts packed together by program: CodeP, CodeQ, TblP, Tbl, TabP, Tab, Tab2, Tab3, Fsymdec, Fbytes, Fmath, Copy, Rep, Fmtf, Fzerorun, SymP, Mtf, Sdec, Pack, Enc, ColP, CrcP. Conditions: as each theorem states.
-/
import Derived.Laws.CopyRow
import Derived.Laws.IdiomCopy
import Derived.Lib.MakeNoZero
import Derived.Test.YtjnjjibmlalpiaaPc
set_option linter.unusedSimpArgs false
set_option linter.unusedVariables false
/- CodeP -/
namespace Go.Srt
def sh (l : List Nat) (s : Nat) : Nat := 2 ^ (15 - l.getD s 0)
def start (l ys : List Nat) (i : Nat) : Nat := ((ys.take i).map (sh l)).sum
theorem start_succ {l ys : List Nat} {i : Nat} (h : i < ys.length) : start l ys (i + 1) = start l ys i + sh l ys[i] := by
  unfold start
  rw [List.take_add_one, List.map_append, List.sum_append, List.getElem?_eq_getElem h]
  simp only [Option.toList, List.map_cons, List.map_nil, List.sum_cons, List.sum_nil, Nat.add_zero]
theorem sh_pos (l : List Nat) (s : Nat) : 0 < sh l s := Nat.two_pow_pos _
theorem start_mono {l ys : List Nat} {i j : Nat} (h : i ≤ j) : start l ys i ≤ start l ys j := by
  unfold start
  have := List.take_append_drop i (ys.take j)
  rw [List.take_take, Nat.min_eq_left h] at this
  have h2 := congrArg (fun l' => (l'.map (sh l)).sum) this
  simp only [List.map_append, List.sum_append] at h2
  omega
theorem used_mem {l : List Nat} {s : Nat} : s ∈ used l ↔ s < l.length ∧ 0 < l.getD s 0 := by
  unfold used
  rw [List.mem_filter, List.mem_range]; simp
theorem ksum_used (l : List Nat) : ksum l = ((used l).map fun s => wt (l.getD s 0)).sum := by
  have key : ∀ k, k ≤ l.length → ksum (l.take k) = (((List.range k).filter fun s => decide (0 < l.getD s 0)).map fun s => wt (l.getD s 0)).sum := by
    intro k
    induction k with
    | zero => intro _; simp [ksum]
    | succ k ih =>
      intro hk
      rw [ksum_succ (by omega), ih (by omega), List.range_succ, List.filter_append, List.map_append, List.sum_append]
      have hg : l.getD k 0 = l[k] := by rw [List.getD_eq_getElem?_getD, List.getElem?_eq_getElem (by omega)]; rfl
      by_cases h : 0 < l.getD k 0
      · rw [List.filter_cons_of_pos (by simpa using h)]; simp only [List.filter_nil, List.map_cons, List.map_nil, List.sum_cons, List.sum_nil, hg]; rfl
      · rw [List.filter_cons_of_neg (by simpa using h)]
        have : l[k] = 0 := by omega
        rw [this]; rfl
  have := key l.length (Nat.le_refl _)
  rw [List.take_length] at this
  exact this
/-- valid lengths are at most 15 -/
theorem len15 {l : List Nat} (hv : ksum l ≤ 32768) (s : Nat) : l.getD s 0 ≤ 15 := by
  rw [List.getD_eq_getElem?_getD]
  cases h : l[s]? with
  | none => simp
  | some x =>
    have := wt_mem (List.mem_of_getElem? h)
    unfold wt at this
    simp only [Option.getD_some]
    rcases Nat.lt_or_ge 15 x with hx | hx
    · rw [if_neg (by omega), if_pos (by omega)] at this; omega
    · exact hx
theorem start_all {l ys : List Nat} (hv : ksum l ≤ 32768) (h : IsOrd l ys) : start l ys ys.length = ksum l := by
  unfold start
  rw [List.take_length, ksum_used, (h.1.map (sh l)).sum_nat]
  congr 1
  refine List.map_congr_left fun s hs => ?_
  have h1 := (used_mem.1 hs).2
  have h2 := len15 hv s
  unfold sh wt
  rw [if_neg (by omega), if_neg (by omega)]
theorem start_le {l ys : List Nat} (hv : ksum l ≤ 32768) (h : IsOrd l ys) {i : Nat} (hi : i ≤ ys.length) : start l ys i ≤ 32768 := by
  have := start_mono (l := l) (ys := ys) hi
  rw [start_all hv h] at this
  omega
theorem ord_len {l ys : List Nat} (h : IsOrd l ys) {i j : Nat} (hj : j < ys.length) (hij : i ≤ j) : l.getD (ys[i]'(by omega)) 0 ≤ l.getD ys[j] 0 := by
  by_cases e : i = j
  · subst e; exact Nat.le_refl _
  · have := (List.pairwise_iff_getElem.1 h.2) i j (by omega) hj (by omega)
    omega
theorem start_dvd {l ys : List Nat} (h : IsOrd l ys) {i : Nat} (hi : i < ys.length) : ∀ k, k ≤ i → sh l ys[i] ∣ start l ys k
  | 0, _ => by simp [start]
  | k + 1, hk => by
    rw [start_succ (by omega)]
    refine Nat.dvd_add (start_dvd h hi k (by omega)) ?_
    have := ord_len h hi (show k ≤ i by omega)
    unfold sh
    exact Nat.pow_dvd_pow 2 (by omega)
/-- the code of the symbol number i -/
def codeAt (l ys : List Nat) (i : Nat) : Nat := start l ys i / sh l (ys.getD i 0)
theorem getD_at {ys : List Nat} {i : Nat} (hi : i < ys.length) : ys.getD i 0 = ys[i] := by
  rw [List.getD_eq_getElem?_getD, List.getElem?_eq_getElem hi]; rfl
theorem codeAt_mul {l ys : List Nat} (h : IsOrd l ys) {i : Nat} (hi : i < ys.length) : codeAt l ys i * sh l ys[i] = start l ys i := by
  unfold codeAt
  rw [getD_at hi]
  exact Nat.div_mul_cancel (start_dvd h hi i (Nat.le_refl _))
theorem sh_mul {l : List Nat} (hv : ksum l ≤ 32768) (s : Nat) : 2 ^ l.getD s 0 * sh l s = 32768 := by
  unfold sh
  rw [← Nat.pow_add, show l.getD s 0 + (15 - l.getD s 0) = 15 by have := len15 hv s; omega]
theorem codeAt_lt {l ys : List Nat} (hv : ksum l ≤ 32768) (h : IsOrd l ys) {i : Nat} (hi : i < ys.length) : codeAt l ys i < 2 ^ l.getD ys[i] 0 := by
  have h1 := codeAt_mul h hi
  have h2 := start_le hv h (show i + 1 ≤ ys.length by omega)
  rw [start_succ hi] at h2
  have h3 := sh_mul hv ys[i]
  have h4 := sh_pos l ys[i]
  have h5 : (codeAt l ys i + 1) * sh l ys[i] ≤ 2 ^ l.getD ys[i] 0 * sh l ys[i] := by rw [Nat.succ_mul]; omega
  exact Nat.le_of_mul_le_mul_right h5 h4
end Go.Srt
/- CodeQ -/
namespace Go.Srt
def codesTo (l ys : List Nat) : Nat → List Nat
  | 0 => List.replicate 258 0
  | i + 1 => (codesTo l ys i).set (ys.getD i 0) (codeAt l ys i)
theorem codesTo_len (l ys : List Nat) : ∀ i, (codesTo l ys i).length = 258
  | 0 => List.length_replicate
  | i + 1 => by rw [codesTo, List.length_set, codesTo_len l ys i]
theorem ord_ne {l ys : List Nat} (h : IsOrd l ys) {i j : Nat} (hj : j < ys.length) (hij : i < j) : ys[i]'(by omega) ≠ ys[j] := by
  have := (List.pairwise_iff_getElem.1 h.2) i j (by omega) hj hij
  intro e
  rw [e] at this
  omega
theorem codesTo_at {l ys : List Nat} (h : IsOrd l ys) (hin : ∀ s ∈ ys, s < 258) : ∀ (i : Nat), i ≤ ys.length → ∀ j (hj : j < ys.length), j < i → (codesTo l ys i).getD ys[j] 0 = codeAt l ys j
  | 0, _, _, _, hji => by omega
  | i + 1, hi, j, hj, hji => by
    have hi' : i < ys.length := by omega
    rw [codesTo, getD_at hi']
    by_cases e : j = i
    · subst e
      have : ys[j] < (codesTo l ys j).length := by rw [codesTo_len]; exact hin _ (List.getElem_mem hj)
      rw [List.getD_eq_getElem?_getD, List.getElem?_set_self this]; rfl
    · have hne := ord_ne h hi' (show j < i by omega)
      rw [List.getD_eq_getElem?_getD, List.getElem?_set_ne (fun hh => hne hh.symm), ← List.getD_eq_getElem?_getD]
      exact codesTo_at h hin i (by omega) j hj (by omega)
end Go.Srt
/- TblP -/
namespace Go.Srt
/-- how many symbols have a length, none of length 0 counted -/
def many (l : List Nat) (n : Nat) : Nat := if n = 0 then 0 else l.count n
/-- the first code of a length -/
def fst (l : List Nat) : Nat → Nat
  | 0 => 0
  | n + 1 => 2 * (fst l n + many l n)
/-- the shares of all shorter codes -/
def low (l : List Nat) : Nat → Nat
  | 0 => 0
  | n + 1 => low l n + many l n * 2 ^ (15 - n)
theorem fst_low (l : List Nat) : ∀ n, n ≤ 15 → fst l n * 2 ^ (15 - n) = low l n
  | 0, _ => by simp [fst, low]
  | n + 1, h => by
    have ih := fst_low l n (by omega)
    have e : 2 ^ (15 - n) = 2 * 2 ^ (15 - (n + 1)) := by rw [show 15 - n = (15 - (n + 1)) + 1 by omega, Nat.pow_succ, Nat.mul_comm]
    rw [fst, low, ← ih, ← Nat.add_mul, e, Nat.mul_comm 2 (fst l n + many l n), Nat.mul_assoc]
theorem low_nil (n : Nat) : low [] n = 0 := by
  induction n with
  | zero => rfl
  | succ n ih => rw [low, ih]; simp [many]
theorem low_app (l : List Nat) (x : Nat) : ∀ n, low (l ++ [x]) n = low l n + if 0 < x ∧ x < n then 2 ^ (15 - x) else 0
  | 0 => by simp [low]
  | n + 1 => by
    rw [low, low, low_app l x n]
    unfold many
    rw [List.count_append, List.count_singleton]
    by_cases h0 : n = 0
    · subst h0; rw [if_pos rfl, if_pos rfl, if_neg (by omega), if_neg (by omega)]
    · rw [if_neg h0, if_neg h0]
      by_cases hx : x = n
      · subst hx
        rw [if_neg (by omega), if_pos (by simp), if_pos (by omega), Nat.add_mul]; omega
      · rw [if_neg (show ¬ (x == n) = true by simpa using hx)]
        by_cases h : 0 < x ∧ x < n
        · rw [if_pos h, if_pos (by omega), Nat.add_zero]; omega
        · rw [if_neg h, if_neg (by omega), Nat.add_zero, Nat.add_zero, Nat.add_zero]
theorem low_mono (l : List Nat) {n m : Nat} (h : n ≤ m) : low l n ≤ low l m := by
  induction m with
  | zero => have : n = 0 := by omega
            subst this; exact Nat.le_refl _
  | succ m ih =>
    by_cases e : n = m + 1
    · subst e; exact Nat.le_refl _
    · have := ih (by omega)
      rw [low]; omega
theorem low_all : ∀ (k : Nat) (l : List Nat), l.length = k → (∀ x ∈ l, x ≤ 15) → low l 16 = ksum l := by
  intro k
  induction k with
  | zero => intro l h _; have : l = [] := List.length_eq_zero_iff.1 h
            subst this; simp [low_nil, ksum]
  | succ k ih =>
    intro l hl h
    have hne : l ≠ [] := by intro e; subst e; simp at hl
    obtain ⟨l', x, rfl⟩ : ∃ l' x, l = l' ++ [x] := ⟨l.dropLast, l.getLast hne, (List.dropLast_concat_getLast hne).symm⟩
    rw [low_app, ih l' (by simpa using hl) (fun y hy => h y (by simp [hy]))]
    have hx := h x (by simp)
    unfold ksum
    rw [List.map_append, List.sum_append]
    congr 1
    simp only [List.map_cons, List.map_nil, List.sum_cons, List.sum_nil, Nat.add_zero]
    unfold wt
    by_cases h0 : x = 0
    · rw [if_neg (by omega), if_pos h0]
    · rw [if_pos (by omega), if_neg h0, if_neg (by omega)]
theorem low16 {l : List Nat} (hv : ksum l ≤ 32768) : low l 16 = ksum l := low_all _ l rfl fun x hx => by
  obtain ⟨i, hi, rfl⟩ := List.getElem_of_mem hx
  have := len15 hv i
  rwa [List.getD_eq_getElem?_getD, List.getElem?_eq_getElem hi] at this
/-- a symbol's place among those of its length -/
def rank (l : List Nat) (s : Nat) : Nat := (l.take s).count (l.getD s 0)
def code (l : List Nat) (s : Nat) : Nat := fst l (l.getD s 0) + rank l s
/-- where the symbol's interval begins -/
def pos (l : List Nat) (s : Nat) : Nat := low l (l.getD s 0) + rank l s * 2 ^ (15 - l.getD s 0)
theorem code_pos {l : List Nat} (hv : ksum l ≤ 32768) (s : Nat) : code l s * 2 ^ (15 - l.getD s 0) = pos l s := by
  unfold code pos
  rw [Nat.add_mul, fst_low l _ (len15 hv s)]
theorem getD_get {l : List Nat} {i : Nat} (h : i < l.length) : l.getD i 0 = l[i] := by rw [List.getD_eq_getElem?_getD, List.getElem?_eq_getElem h]; rfl
theorem count_take_le (l : List Nat) (k x : Nat) : (l.take k).count x ≤ l.count x := (List.take_sublist k l).count_le x
theorem count_take_succ {l : List Nat} {k : Nat} (h : k < l.length) (x : Nat) : (l.take (k + 1)).count x = (l.take k).count x + if l[k] = x then 1 else 0 := by
  rw [List.take_add_one, List.getElem?_eq_getElem h, List.count_append]
  simp only [Option.toList, List.count_singleton, beq_iff_eq]
theorem count_take_mono {l : List Nat} {i j : Nat} (h : i ≤ j) (x : Nat) : (l.take i).count x ≤ (l.take j).count x := by
  have : (l.take i) = (l.take j).take i := by rw [List.take_take, Nat.min_eq_left h]
  rw [this]; exact count_take_le _ _ _
theorem rank_lt {l : List Nat} {s : Nat} (hs : s < l.length) (h0 : 0 < l.getD s 0) : rank l s < many l (l.getD s 0) := by
  unfold rank many
  rw [if_neg (by omega)]
  have h1 := count_take_succ hs (l.getD s 0)
  rw [getD_get hs, if_pos rfl] at h1
  have h2 := count_take_le l (s + 1) (l[s])
  rw [getD_get hs]
  omega
theorem pos_next {l : List Nat} {s : Nat} (hs : s < l.length) (h0 : 0 < l.getD s 0) : pos l s + 2 ^ (15 - l.getD s 0) ≤ low l (l.getD s 0 + 1) := by
  have := rank_lt hs h0
  unfold pos
  rw [low, Nat.add_assoc, ← Nat.succ_mul]
  exact Nat.add_le_add_left (Nat.mul_le_mul_right _ this) _
/-- the intervals of two symbols are apart -/
theorem pos_apart {l : List Nat} {s t : Nat} (hs : s < l.length) (ht : t < l.length) (h0 : 0 < l.getD s 0) (hne : s ≠ t) (h : l.getD s 0 < l.getD t 0 ∨ (l.getD s 0 = l.getD t 0 ∧ s < t)) : pos l s + 2 ^ (15 - l.getD s 0) ≤ pos l t := by
  rcases h with h | ⟨h, hst⟩
  · have h1 := pos_next hs h0
    have h2 := low_mono l (show l.getD s 0 + 1 ≤ l.getD t 0 by omega)
    unfold pos at h1 ⊢
    omega
  · have h1 := count_take_succ hs (l.getD t 0)
    rw [if_pos (by rw [← h, getD_get hs])] at h1
    have h2 := count_take_mono (l := l) (show s + 1 ≤ t by omega) (l.getD t 0)
    unfold pos rank
    rw [h, Nat.add_assoc, ← Nat.succ_mul]
    exact Nat.add_le_add_left (Nat.mul_le_mul_right _ (by omega)) _
theorem pos_uniq {l : List Nat} {s t x : Nat} (hs : s < l.length) (ht : t < l.length) (h0 : 0 < l.getD s 0) (h1 : 0 < l.getD t 0) (hxs : pos l s ≤ x) (hxs' : x < pos l s + 2 ^ (15 - l.getD s 0)) (hxt : pos l t ≤ x) (hxt' : x < pos l t + 2 ^ (15 - l.getD t 0)) : s = t := by
  by_cases e : s = t
  · exact e
  · rcases Nat.lt_trichotomy (l.getD s 0) (l.getD t 0) with h | h | h
    · have := pos_apart hs ht h0 e (.inl h); omega
    · rcases Nat.lt_or_ge s t with h' | h'
      · have := pos_apart hs ht h0 e (.inr ⟨h, h'⟩); omega
      · have := pos_apart ht hs h1 (Ne.symm e) (.inr ⟨h.symm, by omega⟩); omega
    · have := pos_apart ht hs h1 (Ne.symm e) (.inl h); omega
/-- there is a symbol for each place -/
theorem of_rank (l : List Nat) (n : Nat) : ∀ p, p < l.count n → ∃ s, s < l.length ∧ l.getD s 0 = n ∧ rank l s = p := by
  intro p hp
  have key : ∀ k, k ≤ l.length → p < (l.take k).count n → ∃ s, s < k ∧ l.getD s 0 = n ∧ rank l s = p := by
    intro k
    induction k with
    | zero => intro _ h; simp at h
    | succ k ih =>
      intro hk h
      by_cases h2 : p < (l.take k).count n
      · obtain ⟨s, h1, h3⟩ := ih (by omega) h2; exact ⟨s, by omega, h3⟩
      · have h3 := count_take_succ (l := l) (k := k) (by omega) n
        by_cases h4 : l[k] = n
        · rw [if_pos h4] at h3
          refine ⟨k, by omega, by rw [getD_get (by omega), h4], ?_⟩
          unfold rank
          rw [getD_get (by omega), h4]; omega
        · rw [if_neg h4] at h3; omega
  obtain ⟨s, h1, h2⟩ := key l.length (Nat.le_refl _) (by rwa [List.take_length])
  exact ⟨s, by omega, h2⟩
theorem rank_inj {l : List Nat} {s t : Nat} (hs : s < l.length) (ht : t < l.length) (h : l.getD s 0 = l.getD t 0) (hr : rank l s = rank l t) : s = t := by
  have aux : ∀ {s t : Nat}, s < l.length → t < l.length → l.getD s 0 = l.getD t 0 → rank l s = rank l t → ¬ s < t := by
    intro s t hs ht h hr hlt
    have h1 := count_take_succ hs (l.getD t 0)
    rw [if_pos (by rw [← h, getD_get hs])] at h1
    have h2 := count_take_mono (l := l) (show s + 1 ≤ t by omega) (l.getD t 0)
    unfold rank at hr
    rw [h] at hr
    omega
  have h1 := aux hs ht h hr
  have h2 := aux ht hs h.symm hr.symm
  omega
/-! the order's codes are these -/
def bef (l : List Nat) (n s t : Nat) : Bool := decide (0 < l.getD t 0) && decide (l.getD t 0 < n ∨ (l.getD t 0 = n ∧ t < s))
theorem sum_before (l : List Nat) (n s : Nat) (hn : 0 < n) : ∀ k, k ≤ l.length → (((List.range k).filter (bef l n s)).map (sh l)).sum = low (l.take k) n + ((l.take k).take s).count n * 2 ^ (15 - n)
  | 0, _ => by simp [low_nil]
  | k + 1, hk => by
    have hk' : k < l.length := by omega
    rw [List.range_succ, List.filter_append, List.map_append, List.sum_append, sum_before l n s hn k (by omega)]
    have e1 : l.take (k + 1) = l.take k ++ [l[k]] := by rw [List.take_add_one, List.getElem?_eq_getElem hk']; rfl
    rw [e1, low_app]
    have hg := getD_get hk'
    have hlen : (l.take k).length = k := by simp; omega
    have hc : 0 < l[k] → (l[k] < n ∨ (l[k] = n ∧ k < s)) → bef l n s k = true := fun h0 h1 => by
      unfold bef; rw [hg, Bool.and_eq_true, decide_eq_true_eq, decide_eq_true_eq]; exact ⟨h0, h1⟩
    have hc' : ¬ (0 < l[k] ∧ (l[k] < n ∨ (l[k] = n ∧ k < s))) → ¬ bef l n s k = true := fun h => by
      unfold bef; rw [hg, Bool.and_eq_true, decide_eq_true_eq, decide_eq_true_eq]; exact h
    by_cases hks : k < s
    · have e2 : (l.take k ++ [l[k]]).take s = l.take k ++ [l[k]] := List.take_of_length_le (by rw [List.length_append, hlen]; simp; omega)
      have e3 : (l.take k).take s = l.take k := List.take_of_length_le (by omega)
      rw [e2, e3, List.count_append, List.count_singleton]
      by_cases h0 : 0 < l[k] ∧ l[k] < n
      · rw [List.filter_cons_of_pos (hc h0.1 (.inl h0.2)), if_pos h0, if_neg (by rw [beq_iff_eq]; omega)]
        simp only [List.filter_nil, List.map_cons, List.map_nil, List.sum_cons, List.sum_nil, sh, hg, Nat.add_zero]; omega
      · rw [if_neg h0]
        by_cases h1 : l[k] = n
        · rw [List.filter_cons_of_pos (hc (by omega) (.inr ⟨h1, hks⟩)), if_pos (by simpa using h1), Nat.add_mul]
          simp only [List.filter_nil, List.map_cons, List.map_nil, List.sum_cons, List.sum_nil, sh, hg, h1]; omega
        · rw [List.filter_cons_of_neg (hc' (by omega)), if_neg (by simpa using h1)]
          simp
    · have e2 : (l.take k ++ [l[k]]).take s = (l.take k).take s := by rw [List.take_append_of_le_length (by omega)]
      rw [e2]
      by_cases h0 : 0 < l[k] ∧ l[k] < n
      · rw [List.filter_cons_of_pos (hc h0.1 (.inl h0.2)), if_pos h0]
        simp only [List.filter_nil, List.map_cons, List.map_nil, List.sum_cons, List.sum_nil, sh, hg, Nat.add_zero]; omega
      · rw [if_neg h0, List.filter_cons_of_neg (hc' (by omega))]
        simp
theorem start_pos {l ys : List Nat} (h : IsOrd l ys) {i : Nat} (hi : i < ys.length) : start l ys i = pos l ys[i] := by
  have hm := used_mem.1 (h.1.mem_iff.1 (List.getElem_mem hi))
  let p : Nat → Bool := fun t => decide (l.getD t 0 < l.getD ys[i] 0 ∨ (l.getD t 0 = l.getD ys[i] 0 ∧ t < ys[i]))
  have hpw := List.pairwise_iff_getElem.1 h.2
  have e1 : ys.filter p = ys.take i := by
    conv => lhs; rw [← List.take_append_drop i ys]
    rw [List.filter_append, List.filter_eq_self.2, List.filter_eq_nil_iff.2, List.append_nil]
    · intro a ha
      obtain ⟨j, hj, rfl⟩ := List.getElem_of_mem ha
      rw [List.length_drop] at hj
      rw [List.getElem_drop]
      show ¬ p _ = true
      by_cases e : j = 0
      · subst e; simp only [p, Nat.add_zero, decide_eq_true_eq]; omega
      · have := hpw i (i + j) hi (by omega) (by omega)
        simp only [p, decide_eq_true_eq]; omega
    · intro a ha
      obtain ⟨j, hj, rfl⟩ := List.getElem_of_mem ha
      rw [List.length_take] at hj
      rw [List.getElem_take]
      have := hpw j i (by omega) hi (by omega)
      simp only [p, decide_eq_true_eq]; omega
  have e2 : ((ys.take i).map (sh l)).sum = (((used l).filter p).map (sh l)).sum := by
    rw [← e1]; exact ((h.1.filter p).map (sh l)).sum_nat
  unfold start
  rw [e2]
  have e3 : (used l).filter p = (List.range l.length).filter (bef l (l.getD ys[i] 0) ys[i]) := by
    unfold used; rw [List.filter_filter]; congr 1; funext t; rw [Bool.and_comm]; rfl
  rw [e3]
  have := sum_before l (l.getD ys[i] 0) ys[i] hm.2 l.length (Nat.le_refl _)
  rw [List.take_length] at this
  exact this
theorem codeAt_code {l ys : List Nat} (hv : ksum l ≤ 32768) (h : IsOrd l ys) {i : Nat} (hi : i < ys.length) : codeAt l ys i = code l ys[i] := by
  have h1 := codeAt_mul h hi
  rw [start_pos h hi, ← code_pos hv] at h1
  exact Nat.eq_of_mul_eq_mul_right (sh_pos l ys[i]) h1
/-- the table of codes -/
theorem codes_code {l ys : List Nat} (hl : l.length = 258) (hv : ksum l ≤ 32768) (h : IsOrd l ys) {s : Nat} (hs : s < 258) (h0 : 0 < l.getD s 0) : (codesTo l ys ys.length).getD s 0 = code l s := by
  have hin : ∀ s ∈ ys, s < 258 := fun s hs => by have := (used_mem.1 (h.1.mem_iff.1 hs)).1; omega
  have hm : s ∈ ys := h.1.mem_iff.2 (used_mem.2 ⟨by omega, h0⟩)
  obtain ⟨i, hi, rfl⟩ := List.getElem_of_mem hm
  rw [codesTo_at h hin _ (Nat.le_refl _) i hi hi, codeAt_code hv h hi]
theorem code_lt {l : List Nat} (hl : l.length = 258) (hv : ksum l ≤ 32768) {s : Nat} (hs : s < 258) (h0 : 0 < l.getD s 0) : code l s < 2 ^ l.getD s 0 := by
  have h1 := code_pos hv s
  have h2 := pos_next (by omega) h0
  have h3 := low_mono l (show l.getD s 0 + 1 ≤ 16 by have := len15 hv s; omega)
  rw [low16 hv] at h3
  have h4 := sh_mul hv s
  unfold sh at h4
  have h5 : (code l s + 1) * 2 ^ (15 - l.getD s 0) ≤ 2 ^ l.getD s 0 * 2 ^ (15 - l.getD s 0) := by rw [Nat.succ_mul]; omega
  exact Nat.le_of_mul_le_mul_right h5 (Nat.two_pow_pos _)
end Go.Srt
/- Tbl -/
namespace Go.Srt
/-- lengths that form a code table -/
def okT (l : List Nat) : Bool := decide (ksum l = 32768) && decide (0 < l.getD 257 0)
theorem okT_iff {l : List Nat} : okT l = true ↔ ksum l = 32768 ∧ 0 < l.getD 257 0 := by simp [okT]
def ofS (l : List Nat) (n p : Nat) : Nat := ((List.range l.length).find? fun s => (l.getD s 0 == n) && (rank l s == p)).getD 0
theorem ofS_spec {l : List Nat} {n p : Nat} (h : p < l.count n) : ofS l n p < l.length ∧ l.getD (ofS l n p) 0 = n ∧ rank l (ofS l n p) = p := by
  obtain ⟨s, hs, h1, h2⟩ := of_rank l n p h
  unfold ofS
  cases hf : (List.range l.length).find? fun s => (l.getD s 0 == n) && (rank l s == p) with
  | none =>
    have := List.find?_eq_none.1 hf s (by simpa using hs)
    simp only [Bool.and_eq_true, beq_iff_eq] at this
    exact absurd ⟨h1, h2⟩ this
  | some t =>
    have h3 := List.find?_some hf
    have h4 := List.mem_of_find?_eq_some hf
    simp only [Bool.and_eq_true, beq_iff_eq] at h3
    exact ⟨by simpa using h4, h3⟩
/-- a state on the way to a symbol -/
def VSt (l : List Nat) (c b : Nat) : Prop := okT l = true ∧ b < 15 ∧ c < 2 ^ b ∧ fst l b + many l b ≤ c
def stp (l : List Nat) (c b x : Nat) : (Nat × Nat) × Option Nat :=
  if fst l (b + 1) + many l (b + 1) ≤ 2 * c + x then ((2 * c + x, b + 1), none) else ((0, 0), some (ofS l (b + 1) (2 * c + x - fst l (b + 1))))
theorem VSt.zero {l : List Nat} (h : okT l = true) : VSt l 0 0 := ⟨h, by decide, by decide, by simp [fst, many]⟩
theorem VSt.ge {l : List Nat} {c b : Nat} (h : VSt l c b) : fst l (b + 1) ≤ 2 * c := by rw [fst]; have := h.2.2.2; omega
theorem fst16 {l : List Nat} (h : okT l = true) : fst l 15 + many l 15 = 32768 := by
  have h1 := fst_low l 15 (by decide)
  have h2 := low16 (l := l) (by rw [(okT_iff.1 h).1]; decide)
  rw [(okT_iff.1 h).1] at h2
  rw [low] at h2
  omega
theorem VSt.next {l : List Nat} {c b x : Nat} (h : VSt l c b) (hx : x ≤ 1) : VSt l (stp l c b x).1.1 (stp l c b x).1.2 := by
  unfold stp
  split
  · rename_i hc
    have hp : (2 : Nat) ^ (b + 1) = 2 * 2 ^ b := by rw [Nat.pow_succ, Nat.mul_comm]
    have h2 := h.2.2.1
    refine ⟨h.1, ?_, by show 2 * c + x < 2 ^ (b + 1); omega, hc⟩
    rcases Nat.lt_or_ge (b + 1) 15 with h1 | h1
    · exact h1
    · have : b = 14 := by have := h.2.1; omega
      subst this
      have := fst16 h.1
      have : (2 : Nat) ^ 14 = 16384 := by decide
      simp only [Nat.reduceAdd] at hc
      omega
  · exact VSt.zero h.1
/-- a symbol is found after as many bits as its code has, and its code is what was read -/
theorem stp_done {l : List Nat} {c b x s : Nat} (hl : l.length = 258) (h : VSt l c b) (hx : x ≤ 1) (hs : (stp l c b x).2 = some s) : s < 258 ∧ l.getD s 0 = b + 1 ∧ code l s = 2 * c + x ∧ b < 15 := by
  unfold stp at hs
  split at hs
  · cases hs
  · rename_i hc
    have h1 : s = ofS l (b + 1) (2 * c + x - fst l (b + 1)) := by injection hs with hs; exact hs.symm
    have hge := h.ge
    have hm : many l (b + 1) = l.count (b + 1) := by unfold many; rw [if_neg (by omega)]
    obtain ⟨h2, h3, h4⟩ := ofS_spec (l := l) (n := b + 1) (p := 2 * c + x - fst l (b + 1)) (by omega)
    rw [← h1] at h2 h3 h4
    refine ⟨by omega, h3, ?_, h.2.1⟩
    unfold code
    rw [h3, h4]; omega
theorem stp_none {l : List Nat} {c b x : Nat} (hs : (stp l c b x).2 = none) : (stp l c b x).1 = (2 * c + x, b + 1) := by
  unfold stp at hs ⊢
  split
  · rfl
  · rename_i h; rw [if_neg h] at hs; cases hs
theorem stp_some {l : List Nat} {c b x s : Nat} (hs : (stp l c b x).2 = some s) : (stp l c b x).1 = (0, 0) := by
  unfold stp at hs ⊢
  split
  · rename_i h; rw [if_pos h] at hs; cases hs
  · rfl
theorem fst_le {l : List Nat} (hl : l.length ≤ 258) : ∀ n, fst l n + 516 ≤ 516 * 2 ^ n
  | 0 => by simp [fst]
  | n + 1 => by
    have := fst_le hl n
    have h2 : many l n ≤ 258 := by
      unfold many
      split
      · omega
      · exact Nat.le_trans List.count_le_length hl
    rw [fst, Nat.pow_succ]; omega
theorem many_le {l : List Nat} (hl : l.length ≤ 258) (n : Nat) : many l n ≤ 258 := by
  unfold many
  split
  · omega
  · exact Nat.le_trans List.count_le_length hl
end Go.Srt
namespace Go.Proofs.Ytjnjjibmlalpiaa
open Go Go.Vc Go.Srt
section
variable {E w : World} {F : List HP}
theorem getN {l : List Nat} {i : Nat} {k : IntKind} (h : i < l.length) : (ai k l)[((i : Nat) : Int).toNat]? = some (Sc.enc (.int k) (l.getD i 0 : Int)) := by
  rw [Int.toNat_natCast, ai_get h, getD_get h]
theorem complete_c {l : List Nat} {K : Bool → World → Prop} (h : Hp E w F) (hl : l.length = 258) (hK : ∀ w', Hp E w' F → K (decide (ksum l = 32768)) w') : Cl Try.prog [kB] n_kraft_Complete ⟨[.agg (ai .u8 l)]⟩ w K := by
  refine kraft_Complete.ok _ _ _ ?_
  unfold kraft_Complete.E
  refine Nw.mk h fun b w1 h1 => Ld.arr h1 (by rw [ai_size, hl]) (kraftSum_c h1 hl fun w2 h2 => ?_)
  have : ((ksum l : Int) == 32768) = decide (ksum l = 32768) := by rw [Bool.eq_iff_iff]; simp; omega
  rw [this]
  exact hK _ h2.drop
theorem table_c {l : List Nat} {K : Bool → World → Prop} (h : Hp E w F) (hl : l.length = 258) (hK : ∀ w', Hp E w' F → K (okT l) w') : Cl Try.prog [kB] n_kraft_Table ⟨[.agg (ai .u8 l)]⟩ w K := by
  refine kraft_Table.ok _ _ _ ?_
  unfold kraft_Table.E
  refine Nw.mk h fun b w1 h1 => Ld.arr h1 (by rw [ai_size, hl]) (complete_c h1 hl fun w2 h2 => IfB.mk (fun hv => ?_) (fun hv => ?_))
  · refine IdxP.rd (s := .int .u8) h2 (by decide) (by decide) (l.getD 257 0 : Int) (getN (i := 257) (by omega)) ?_
    have : decide ((l.getD 257 0 : Int) > 0) = okT l := by
      unfold okT; rw [hv, Bool.true_and, Bool.eq_iff_iff, decide_eq_true_eq, decide_eq_true_eq]; omega
    rw [this]
    exact hK _ h2.drop
  · have : false = okT l := by unfold okT; rw [hv, Bool.false_and]
    rw [this]
    exact hK _ h2.drop
/-! the numbers of each length -/
abbrev k16 : List Sc := [.int .i64, .int .i64, .int .i64, .int .i64, .int .i64, .int .i64, .int .i64, .int .i64, .int .i64, .int .i64, .int .i64, .int .i64, .int .i64, .int .i64, .int .i64, .int .i64]
def t16 (f : Nat → Int) : TT k16 := (f 0, f 1, f 2, f 3, f 4, f 5, f 6, f 7, f 8, f 9, f 10, f 11, f 12, f 13, f 14, f 15, ())
theorem row16 (f : Nat → Int) : rowI 16 f = ⟨encs k16 (t16 f)⟩ := rfl
theorem row16' (f : Nat → Int) : (⟨[.int .i64 (f 0), .int .i64 (f 1), .int .i64 (f 2), .int .i64 (f 3), .int .i64 (f 4), .int .i64 (f 5), .int .i64 (f 6), .int .i64 (f 7), .int .i64 (f 8), .int .i64 (f 9), .int .i64 (f 10), .int .i64 (f 11), .int .i64 (f 12), .int .i64 (f 13), .int .i64 (f 14), .int .i64 (f 15)]⟩ : Array Value) = rowI 16 f := rfl
theorem sc16 (f : Nat → Int) : ∀ v ∈ [(.int .i64 (f 0) : Value), .int .i64 (f 1), .int .i64 (f 2), .int .i64 (f 3), .int .i64 (f 4), .int .i64 (f 5), .int .i64 (f 6), .int .i64 (f 7), .int .i64 (f 8), .int .i64 (f 9), .int .i64 (f 10), .int .i64 (f 11), .int .i64 (f 12), .int .i64 (f 13), .int .i64 (f 14), .int .i64 (f 15)], scalarB v = true := by
  intro v hv
  simp only [List.mem_cons, List.not_mem_nil, or_false] at hv
  rcases hv with rfl | rfl | rfl | rfl | rfl | rfl | rfl | rfl | rfl | rfl | rfl | rfl | rfl | rfl | rfl | rfl <;> rfl
theorem row16_zero : (⟨List.replicate 16 (.int .i64 0)⟩ : Array Value) = rowI 16 fun _ => 0 := rfl
set_option maxRecDepth 20000 in
theorem counts_c {l : List Nat} {K : TT k16 → World → Prop} (h : Hp E w F) (hl : l.length = 258) (h15 : ∀ x ∈ l, x ≤ 15) (hK : ∀ w', Hp E w' F → K (t16 fun j => (l.count j : Int)) w') : Cl Try.prog [.st k16] n_kraft_Counts ⟨[.agg (ai .u8 l)]⟩ w K := by
  refine kraft_Counts.ok _ _ _ ?_
  unfold kraft_Counts.E
  rw [row16_zero]
  refine Nw.mk h fun b w1 h1 => Nw.mk h1 fun b2 w2 h2 => Ld.arr h2.p1 (by rw [ai_size, hl]) ?_
  refine ⟨fun i w' => ∃ k : Nat, i = (k : Int) ∧ k ≤ 258 ∧ Hp E w' (Blk b2 (.cells (rowI 16 fun j => ((l.take k).count j : Int)) 119 (0, 0)) :: F), fun i _ => 258 - i.toNat, ⟨0, rfl, by omega, ?_⟩, ?_⟩
  · have := h2.p1.drop
    rwa [rowI_ext (g := fun j => ((l.take 0).count j : Int)) (fun i _ => by simp)] at this
  rintro i w' ⟨k, rfl, hk, hh⟩
  refine IfB.mk (fun hlt => ?_) (fun hge => ?_)
  · have hlt : k < 258 := by have := of_decide_eq_true hlt; omega
    have hkl : k < l.length := by omega
    have hcl : ∀ x, (l.take k).count x ≤ 258 := fun x => Nat.le_trans List.count_le_length (by rw [List.length_take]; omega)
    refine IdxV.rd (s := .int .u8) (by omega) (by omega) (l[k] : Int) (by rw [Int.toNat_natCast]; exact ai_get hkl) ?_
    have h16 := h15 _ (List.getElem_mem hkl)
    rw [i64_id (x := (l[k] : Int)) (by omega)]
    refine IfB.t (decide_eq_true (by omega)) ?_
    refine IdxP.rd (s := .int .i64) hh (by omega) (by omega) ((l.take k).count l[k] : Int) (by rw [Int.toNat_natCast]; exact rowI_get (by omega)) ?_
    have := hcl l[k]
    refine IdxP.wr hh (by omega) (by omega) rowI_size rfl fun w3 h3 => ?_
    rw [i64_id (by omega), Int.toNat_natCast, rowI_set] at h3
    rw [i64_id (by omega)]
    refine ⟨⟨k + 1, rfl, by omega, ?_⟩, by dsimp only; omega⟩
    rw [rowI_ext (g := fun j => ((l.take (k + 1)).count j : Int))] at h3
    · exact h3
    · intro j hj
      rw [count_take_succ hkl]
      by_cases e : j = l[k]
      · subst e; rw [if_pos rfl, if_pos rfl]; omega
      · rw [if_neg e, if_neg (Ne.symm e)]; omega
  · have hge : k = 258 := by have := of_decide_eq_false hge; omega
    subst hge
    rw [← hl, List.take_length] at hh
    refine Ld.stBlk hh (t16 fun j => (l.count j : Int)) (row16 _) (StC.blk hh (by rw [rowI_size]; rfl) (sc16 fun j => (l.count j : Int)) fun w3 h3 => ?_)
    exact Ld.stBlk h3 (t16 fun j => (l.count j : Int)) rfl (hK _ h3.drop)
set_option maxRecDepth 20000 in
theorem first12_c {l : List Nat} {n : Nat} {K : Int → Int → World → Prop} (h : Hp E w F) (hl : l.length = 258) (h15 : ∀ x ∈ l, x ≤ 15) (hn : n ≤ 15) (hK : ∀ w', Hp E w' F → K (Srt.fst l n : Int) (many l n : Int) w') :
    Cl Try.prog [kI, kI] n_prefixdec_first ⟨[.agg (ai .u8 l), .int .i64 (n : Int)]⟩ w K := by
  refine prefixdec_first.ok _ _ _ _ ?_
  unfold prefixdec_first.E
  refine Nw.mk h fun b w1 h1 => Ld.arr h1 (by rw [ai_size, hl]) (counts_c h1.drop hl h15 fun w2 h2 => ?_)
  rw [row16_zero]
  refine Nw.mk h2 fun b2 w3 h3 => StC.blk h3 (by rw [rowI_size]; rfl) (sc16 fun j => (l.count j : Int)) fun w4 h4 => ?_
  have h4 : Hp E w4 (Blk b2 (.cells (rowI 16 fun j => (l.count j : Int)) 119 (0, 0)) :: F) := h4
  refine IdxP.wr h4 (by decide) (by decide) rowI_size rfl fun w5 h5 => ?_
  rw [show (0 : Int).toNat = 0 from rfl, rowI_set, rowI_ext (g := fun j => (many l j : Int)) (fun i _ => by unfold many; by_cases e : i = 0 <;> simp [e])] at h5
  refine ⟨fun c m w' => ∃ k : Nat, m = (k : Int) + 1 ∧ k ≤ n ∧ c = (Srt.fst l k : Int) ∧ Hp E w' (Blk b2 (.cells (rowI 16 fun j => (many l j : Int)) 119 (0, 0)) :: F), fun _ m _ => 18 - m.toNat, ⟨0, rfl, by omega, rfl, h5⟩, ?_⟩
  rintro c m w' ⟨k, rfl, hk, rfl, hh⟩
  refine IfB.mk (fun hlt => ?_) (fun hge => ?_)
  · have hlt : k < n := by have := of_decide_eq_true hlt; omega
    rw [i64_id (x := (k : Int) + 1 - 1) (by omega), show (k : Int) + 1 - 1 = (k : Int) by omega]
    refine IdxP.rd (s := .int .i64) hh (by omega) (by omega) (many l k : Int) (by rw [Int.toNat_natCast]; exact rowI_get (by omega)) ?_
    have h1 := fst_le (l := l) (by omega) k
    have h2 := many_le (l := l) (by omega) k
    have h3 : (2 : Nat) ^ k ≤ 2 ^ 15 := Nat.pow_le_pow_right (by decide) (by omega)
    have h4 : (2 : Nat) ^ 15 = 32768 := by decide
    rw [i64_id (x := (Srt.fst l k : Int) + (many l k : Int)) (by omega), i64_id (x := (k : Int) + 1 + 1) (by omega)]
    have e := ishl_nat (k := .i64) (a := Srt.fst l k + many l k) (b := 1) (by decide) (by have : IntKind.max .i64 = 9223372036854775807 := rfl; omega)
    have e2 : ishl .i64 ((Srt.fst l k : Int) + (many l k : Int)) 1 = (Srt.fst l (k + 1) : Int) := by
      rw [show (Srt.fst l k : Int) + (many l k : Int) = ((Srt.fst l k + many l k : Nat) : Int) by omega, show (1 : Int) = ((1 : Nat) : Int) from rfl, e, Srt.fst]
      omega
    rw [e2]
    exact ⟨by decide, ⟨k + 1, by omega, by omega, rfl, hh⟩, by dsimp only; omega⟩
  · have hge : k = n := by have := of_decide_eq_false hge; omega
    subst hge
    refine Drw.mk hh fun w6 h6 => IdxP.rd (s := .int .i64) h6 (by omega) (by omega) (many l k : Int) (by rw [Int.toNat_natCast]; exact rowI_get (by omega)) (hK _ h6.drop)
set_option maxRecDepth 20000 in
theorem of_c {l : List Nat} {n p : Nat} {K : Int → World → Prop} (h : Hp E w F) (hl : l.length = 258) (h15 : ∀ x ∈ l, x ≤ 15) (hp : p < l.count n) (hK : ∀ w', Hp E w' F → K (ofS l n p : Int) w') :
    Cl Try.prog [kI] n_prefixdec_of ⟨[.agg (ai .u8 l), .int .i64 (n : Int), .int .i64 (p : Int)]⟩ w K := by
  refine prefixdec_of.ok _ _ _ _ _ ?_
  unfold prefixdec_of.E
  have hs := ofS_spec hp
  refine Nw.mk h fun b w1 h1 => Ld.arr h1 (by rw [ai_size, hl]) ?_
  have hcl : l.count n ≤ 258 := Nat.le_trans List.count_le_length (by omega)
  refine ⟨fun q i w' => ∃ k : Nat, i = (k : Int) ∧ k ≤ 258 ∧ (l.take k).count n ≤ p ∧ q = (p : Int) - ((l.take k).count n : Int) ∧ Hp E w' F, fun _ i _ => 258 - i.toNat, ⟨0, rfl, by omega, by simp, by simp, h1.drop⟩, ?_⟩
  rintro q i w' ⟨k, rfl, hk, hc, rfl, hh⟩
  refine IfB.mk (fun hlt => ?_) (fun hge => ?_)
  · have hlt : k < 258 := by have := of_decide_eq_true hlt; omega
    have hkl : k < l.length := by omega
    have h16 := h15 _ (List.getElem_mem hkl)
    have hsu := count_take_succ hkl n
    refine IdxV.rd (s := .int .u8) (by omega) (by omega) (l[k] : Int) (by rw [Int.toNat_natCast]; exact ai_get hkl) ?_
    rw [i64_id (x := (l[k] : Int)) (by omega), i64_id (x := (k : Int) + 1) (by omega)]
    refine IfB.mk (fun hne => ?_) (fun he => IfB.mk (fun hz => ?_) (fun hz => ?_))
    · have hne : l[k] ≠ n := by rw [bne_iff_ne] at hne; omega
      rw [if_neg hne] at hsu
      exact ⟨⟨k + 1, rfl, by omega, by omega, by omega, hh⟩, by dsimp only; omega⟩
    · have he : l[k] = n := by have := bne_eq_false_iff_eq.1 he; omega
      have hz : (l.take k).count n = p := by rw [beq_iff_eq] at hz; omega
      have : k = ofS l n p := by
        refine rank_inj hkl hs.1 (by rw [hs.2.1, getD_get hkl, he]) ?_
        rw [hs.2.2]; unfold rank; rw [getD_get hkl, he, hz]
      rw [this]; exact hK _ hh
    · have he : l[k] = n := by have := bne_eq_false_iff_eq.1 he; omega
      have hz : (l.take k).count n ≠ p := by have := beq_eq_false_iff_ne.1 hz; omega
      rw [if_pos he] at hsu
      rw [i64_id (by omega)]
      exact ⟨⟨k + 1, rfl, by omega, by omega, by omega, hh⟩, by dsimp only; omega⟩
  · have hge : k = 258 := by have := of_decide_eq_false hge; omega
    subst hge
    rw [← hl, List.take_length] at hc
    omega
/-! states -/
def stA (l : List Nat) (c b : Nat) : Array Value := ⟨(l.map fun (n : Nat) => Value.int .u8 (n : Int)) ++ [.int .i64 (c : Int), .int .i64 (b : Int)]⟩
theorem stA_size {l : List Nat} {c b : Nat} (hl : l.length = 258) : (stA l c b).size = 260 := by simp [stA, hl]
theorem stA_scalar {l : List Nat} {c b : Nat} : ∀ v ∈ (stA l c b).toList, scalarB v = true := by
  intro v hv
  unfold stA at hv
  simp only [List.mem_append, List.mem_map, List.mem_cons, List.not_mem_nil, or_false] at hv
  rcases hv with ⟨n, _, rfl⟩ | rfl | rfl <;> rfl
theorem stA_parts (l : List Nat) (c b : Nat) : stA l c b = ⟨[] ++ (l.map fun (n : Nat) => Value.int .u8 (n : Int)) ++ [.int .i64 (c : Int), .int .i64 (b : Int)]⟩ := rfl
theorem stA_c {l : List Nat} {c b : Nat} (hl : l.length = 258) : (stA l c b)[258]? = some (Sc.enc (.int .i64) (c : Int)) := by
  unfold stA; rw [List.getElem?_toArray, List.getElem?_append_right (by simp [hl])]; simp [hl]
theorem stA_b {l : List Nat} {c b : Nat} (hl : l.length = 258) : (stA l c b)[259]? = some (Sc.enc (.int .i64) (b : Int)) := by
  unfold stA; rw [List.getElem?_toArray, List.getElem?_append_right (by simp [hl])]; simp [hl]
theorem zeroSt : (⟨List.replicate 258 (.int .u8 0) ++ [.int .i64 0, .int .i64 0]⟩ : Array Value) = stA (List.replicate 258 0) 0 0 := by unfold stA; rw [List.map_replicate]; rfl
theorem built_st (ps : List (Nat × Value)) : Try.prog.built 62 ps = Instr.fill (#[(0, 258), (258, 1), (259, 1)][·]?) ⟨List.replicate 258 (.int .u8 0) ++ [.int .i64 0, .int .i64 0]⟩ ps := by kernel_rfl
theorem ai_cells (l : List Nat) : (Value.agg (ai .u8 l)).cells.toList = l.map fun (n : Nat) => Value.int .u8 (n : Int) := rfl
theorem fill_arr {l : List Nat} (hl : l.length = 258) (rest : List (Nat × Value)) : Instr.fill (#[(0, 258), (258, 1), (259, 1)][·]?) ⟨List.replicate 258 (.int .u8 0) ++ [.int .i64 0, .int .i64 0]⟩ ((0, .agg (ai .u8 l)) :: rest)
    = Instr.fill (#[(0, 258), (258, 1), (259, 1)][·]?) (stA l 0 0) rest := by
  have := fill_step (place := (#[(0, 258), (258, 1), (259, 1)][·]?)) (i := 0) (v := .agg (ai .u8 l)) (rest := rest) (pre := []) (mid := List.replicate 258 (.int .u8 0)) (post := [.int .i64 0, .int .i64 0]) rfl rfl List.length_replicate (by show (ai .u8 l).size = _; rw [ai_size, hl])
  exact this
theorem fill_c {l : List Nat} {c c0 b : Nat} (hl : l.length = 258) (rest : List (Nat × Value)) : Instr.fill (#[(0, 258), (258, 1), (259, 1)][·]?) (stA l c0 b) ((1, .int .i64 (c : Int)) :: rest) = Instr.fill (#[(0, 258), (258, 1), (259, 1)][·]?) (stA l c b) rest := by
  have := fill_step (place := (#[(0, 258), (258, 1), (259, 1)][·]?)) (i := 1) (v := .int .i64 (c : Int)) (rest := rest) (pre := l.map fun (n : Nat) => Value.int .u8 (n : Int)) (mid := [.int .i64 (c0 : Int)]) (post := [.int .i64 (b : Int)]) rfl (by simp [hl]) rfl rfl
  unfold stA
  rw [show (l.map fun (n : Nat) => Value.int .u8 (n : Int)) ++ [.int .i64 (c0 : Int), .int .i64 (b : Int)] = (l.map fun (n : Nat) => Value.int .u8 (n : Int)) ++ [.int .i64 (c0 : Int)] ++ [.int .i64 (b : Int)] by simp, this]
  congr 2
  simp [Value.cells]
theorem fill_b {l : List Nat} {c b0 b : Nat} (hl : l.length = 258) (rest : List (Nat × Value)) : Instr.fill (#[(0, 258), (258, 1), (259, 1)][·]?) (stA l c b0) ((2, .int .i64 (b : Int)) :: rest) = Instr.fill (#[(0, 258), (258, 1), (259, 1)][·]?) (stA l c b) rest := by
  have := fill_step (place := (#[(0, 258), (258, 1), (259, 1)][·]?)) (i := 2) (v := .int .i64 (b : Int)) (rest := rest) (pre := (l.map fun (n : Nat) => Value.int .u8 (n : Int)) ++ [.int .i64 (c : Int)]) (mid := [.int .i64 (b0 : Int)]) (post := []) rfl (by simp [hl]) rfl rfl
  unfold stA
  rw [show (l.map fun (n : Nat) => Value.int .u8 (n : Int)) ++ [.int .i64 (c : Int), .int .i64 (b0 : Int)] = (l.map fun (n : Nat) => Value.int .u8 (n : Int)) ++ [.int .i64 (c : Int)] ++ [.int .i64 (b0 : Int)] ++ [] by simp, this]
  congr 2
  simp [Value.cells]
theorem Bld.st0 {l : List Nat} {K : Array Value → Prop} (hl : l.length = 258) (hK : K (stA l 0 0)) : Bld Try.prog 62 [(0, .agg (ai .u8 l))] K := ⟨stA l 0 0, by rw [built_st, fill_arr hl]; rfl, hK⟩
theorem Bld.st2 {l : List Nat} {b : Nat} {K : Array Value → Prop} (hl : l.length = 258) (hK : K (stA l 0 b)) : Bld Try.prog 62 [(0, .agg (ai .u8 l)), (2, .int .i64 (b : Int))] K := ⟨stA l 0 b, by rw [built_st, fill_arr hl, fill_b hl]; rfl, hK⟩
theorem Bld.st3 {l : List Nat} {c b : Nat} {K : Array Value → Prop} (hl : l.length = 258) (hK : K (stA l c b)) : Bld Try.prog 62 [(0, .agg (ai .u8 l)), (1, .int .i64 (c : Int)), (2, .int .i64 (b : Int))] K :=
  ⟨stA l c b, by rw [built_st, fill_arr hl, fill_c hl, fill_b hl]; rfl, hK⟩
theorem Bld.stZ {K : Array Value → Prop} (hK : K (stA (List.replicate 258 0) 0 0)) : Bld Try.prog 62 [] K := ⟨_, built_st [], by rw [zeroSt]; exact hK⟩
theorem new_c {l : List Nat} {K : Array Value → Int → World → Prop} (h : Hp E w F) (hl : l.length = 258) (hK1 : okT l = false → ∀ w', Hp E w' F → K (stA (List.replicate 258 0) 0 0) 2 w') (hK2 : okT l = true → ∀ w', Hp E w' F → K (stA l 0 0) 0 w') :
    Cl Try.prog [.arr 260, kI] n_prefixdec_New ⟨[.agg (ai .u8 l)]⟩ w K := by
  refine prefixdec_New.ok _ _ _ ?_
  unfold prefixdec_New.E
  rw [zeroSt]
  have hz : (stA (List.replicate 258 0) 0 0).size = 260 := stA_size List.length_replicate
  refine Nw.mk h fun b w1 h1 => Nw.mk h1 fun b2 w2 h2 => Ld.arr h2.p1 (by rw [ai_size, hl]) (table_c h2 hl fun w3 h3 => IfB.mk (fun hv => ?_) (fun hv => ?_))
  · exact Bld.stZ (StA.blk h3 hz hz stA_scalar fun w4 h4 => Ld.arr h4 hz (hK1 (by simpa using hv) _ h4.drop.drop))
  · exact Ld.arr h3.p1 (by rw [ai_size, hl]) (Bld.st0 hl (StA.blk h3 hz (stA_size hl) stA_scalar fun w4 h4 => Ld.arr h4 (stA_size hl) (hK2 (by simpa using hv) _ h4.drop.drop)))
theorem le15 {l : List Nat} (h : okT l = true) : ∀ x ∈ l, x ≤ 15 := fun x hx => by
  obtain ⟨i, hi, rfl⟩ := List.getElem_of_mem hx
  have := len15 (l := l) (by rw [(okT_iff.1 h).1]; decide) i
  rwa [getD_get hi] at this
theorem valid12_c {l : List Nat} {c b : Nat} {K : Bool → World → Prop} (h : Hp E w F) (hl : l.length = 258) (hb : b < 15) (hc : c < 2 ^ b) (hK : ∀ w', Hp E w' F → K (okT l && decide (Srt.fst l b + many l b ≤ c)) w') :
    Cl Try.prog [kB] n_prefixdec_Valid ⟨[.agg (stA l c b)]⟩ w K := by
  refine prefixdec_Valid.ok _ _ _ ?_
  unfold prefixdec_Valid.E
  simp only [Join_eq, add_mk, Nat.zero_add]
  refine Nw.mk h fun b3 w1 h1 => ?_
  rw [stA_parts] at h1
  have hml : (l.map fun (n : Nat) => Value.int .u8 (n : Int)).length = 258 := by simp [hl]
  refine Ld.sub h1 rfl hml (table_c h1 hl fun w2 h2 => IfB.mk (fun hv => ?_) (fun hv => ?_))
  · have hv : okT l = false := by simpa using hv
    rw [hv, Bool.false_and] at hK
    exact hK _ h2.drop
  have hv : okT l = true := by simpa using hv
  rw [hv, Bool.true_and] at hK
  rw [← stA_parts] at h2
  have hp : (2 : Nat) ^ b ≤ 2 ^ 15 := Nat.pow_le_pow_right (by decide) (by omega)
  have hp2 : (2 : Nat) ^ 15 = 32768 := by decide
  refine Ld.blk (s := .int .i64) h2 (b : Int) (stA_b hl) (IfB.f (decide_eq_false (by omega)) ?_)
  refine Ld.blk (s := .int .i64) h2 (b : Int) (stA_b hl) (IfB.f (decide_eq_false (by omega)) ?_)
  refine Ld.blk (s := .int .i64) h2 (c : Int) (stA_c hl) (IfB.f (decide_eq_false (by omega)) ?_)
  refine Ld.blk (s := .int .i64) h2 (c : Int) (stA_c hl) (Ld.blk (s := .int .i64) h2 (b : Int) (stA_b hl) ⟨by omega, ?_⟩)
  rw [ishr_nat (by have : IntKind.bits .i64 = 64 := rfl; omega), Nat.div_eq_of_lt hc]
  refine IfB.f (by decide) ?_
  rw [stA_parts] at h2
  refine Ld.sub h2 rfl hml ?_
  rw [← stA_parts] at h2
  refine Ld.blk (s := .int .i64) h2 (b : Int) (stA_b hl) (first12_c h2 hl (le15 hv) (by omega) fun w3 h3 => Ld.blk (s := .int .i64) h3 (c : Int) (stA_c hl) ?_)
  have h1 := fst_le (l := l) (by omega) b
  have h2 := many_le (l := l) (by omega) b
  rw [i64_id (by omega)]
  have e : decide ((c : Int) ≥ (Srt.fst l b : Int) + (many l b : Int)) = decide (Srt.fst l b + many l b ≤ c) := by rw [Bool.eq_iff_iff, decide_eq_true_eq, decide_eq_true_eq]; omega
  rw [e]
  exact hK _ h3.drop
theorem or_bit {c x : Nat} (hx : x ≤ 1) (hc : c < 16384) : ior .i64 (ishl .i64 (c : Int) 1) (x : Int) = ((2 * c + x : Nat) : Int) := by
  have hm : IntKind.max .i64 = 9223372036854775807 := rfl
  have e := ishl_nat (k := .i64) (a := c) (b := 1) (by decide) (by omega)
  have h2 : c * 2 ^ 1 ||| x = 2 * c + x := by
    have := Nat.two_pow_add_eq_or_of_lt (i := 1) (b := x) (by omega) c
    rw [Nat.mul_comm c, ← this, Nat.mul_comm]
  rw [show (1 : Int) = ((1 : Nat) : Int) from rfl, e, ior_nat (by omega) (by omega) (by rw [h2]; omega), h2]
theorem step_c {l : List Nat} {c b x : Nat} {K : Array Value → Int → Bool → World → Prop} (h : Hp E w F) (hl : l.length = 258) (hs : VSt l c b) (hx : x ≤ 1)
    (hK : ∀ w', Hp E w' F → K (stA l (stp l c b x).1.1 (stp l c b x).1.2) (((stp l c b x).2.getD 0 : Nat) : Int) (stp l c b x).2.isSome w') :
    Cl Try.prog [.arr 260, kI, kB] n_prefixdec_Step ⟨[.agg (stA l c b), .int .i64 (x : Int)]⟩ w K := by
  refine prefixdec_Step.ok _ _ _ _ ?_
  unfold prefixdec_Step.E
  simp only [Join_eq, add_mk, Nat.zero_add]
  rw [zeroSt]
  have hz : (stA (List.replicate 258 0) 0 0).size = 260 := stA_size List.length_replicate
  have hml : (l.map fun (n : Nat) => Value.int .u8 (n : Int)).length = 258 := by simp [hl]
  have hp : (2 : Nat) ^ b ≤ 2 ^ 14 := Nat.pow_le_pow_right (by decide) (by have := hs.2.1; omega)
  have hp2 : (2 : Nat) ^ 14 = 16384 := by decide
  have hc := hs.2.2.1
  have hb := hs.2.1
  have h15 := le15 hs.1
  refine Nw.mk h fun b4 w1 h1 => Nw.mk h1 fun b6 w2 h2 => ?_
  have e1 : ishr .i64 (x : Int) 1 = 0 := by
    rw [show (1 : Int) = ((1 : Nat) : Int) from rfl, ishr_nat (by decide)]
    omega
  rw [e1]
  refine ⟨by decide, IfB.f (by decide) ?_⟩
  refine Ld.arr h2.p1 (stA_size hl) (valid12_c h2 hl hb hc fun w3 h3 => ?_)
  refine IfB.f (by rw [hs.1, decide_eq_true hs.2.2.2]; rfl) ?_
  have h3' := h3.p1
  rw [stA_parts l c b] at h3'
  refine Ld.sub h3' rfl hml (Ld.blk (s := .int .i64) h3.p1 (c : Int) (stA_c hl) ⟨by decide, Ld.blk (s := .int .i64) h3.p1 (b : Int) (stA_b hl) ?_⟩)
  rw [or_bit hx (by omega), i64_id (x := (b : Int) + 1) (by omega)]
  refine Bld.st3 (b := b + 1) hl (StA.blk h3 hz (stA_size hl) stA_scalar fun w4 h4 => ?_)
  have h4' := h4
  rw [stA_parts l (2 * c + x) (b + 1)] at h4'
  refine Ld.sub h4' rfl hml (Ld.blk (s := .int .i64) h4 ((b + 1 : Nat) : Int) (stA_b hl) (first12_c h4 hl h15 (by omega) fun w5 h5 => Ld.blk (s := .int .i64) h5 ((2 * c + x : Nat) : Int) (stA_c hl) ?_))
  have hf := fst_le (l := l) (by omega) (b + 1)
  have hm := many_le (l := l) (by omega) (b + 1)
  have hp3 : (2 : Nat) ^ (b + 1) = 2 * 2 ^ b := by rw [Nat.pow_succ, Nat.mul_comm]
  rw [i64_id (by omega)]
  by_cases hcase : Srt.fst l (b + 1) + many l (b + 1) ≤ 2 * c + x
  · refine IfB.t (decide_eq_true (by omega)) (Ld.arr h5 (stA_size hl) (StA.blk h5 (stA_size hl) (stA_size hl) stA_scalar fun w6 h6 => Ld.arr h6 (stA_size hl) ?_))
    have e : stp l c b x = ((2 * c + x, b + 1), none) := by unfold stp; rw [if_pos hcase]
    rw [e] at hK
    exact hK _ h6.drop.drop
  · refine IfB.f (decide_eq_false (by omega)) ?_
    have e : stp l c b x = ((0, 0), some (ofS l (b + 1) (2 * c + x - Srt.fst l (b + 1)))) := by unfold stp; rw [if_neg hcase]
    rw [e] at hK
    have hge := hs.ge
    have hmn : many l (b + 1) = l.count (b + 1) := by unfold many; rw [if_neg (by omega)]
    refine Drw.mk h5 fun w6 h6 => ?_
    have h6' := h6
    rw [stA_parts l (2 * c + x) (b + 1)] at h6'
    refine Ld.sub h6' rfl hml (Ld.blk (s := .int .i64) h6 ((b + 1 : Nat) : Int) (stA_b hl) (Ld.blk (s := .int .i64) h6 ((2 * c + x : Nat) : Int) (stA_c hl) ?_))
    rw [i64_id (x := ((2 * c + x : Nat) : Int) - (Srt.fst l (b + 1) : Int)) (by omega), show ((2 * c + x : Nat) : Int) - (Srt.fst l (b + 1) : Int) = ((2 * c + x - Srt.fst l (b + 1) : Nat) : Int) by omega]
    constructor
    · have h7' := h6.p1
      rw [stA_parts l c b] at h7'
      refine Ld.sub h7' rfl hml (Bld.st0 hl (of_c h6 hl h15 (by omega) fun w7 h7 => ?_))
      exact StA.blk h7 (stA_size hl) (stA_size hl) stA_scalar fun w8 h8 => Ld.arr h8 (stA_size hl) (hK _ h8.drop.drop)
    · refine of_c h6 hl h15 (by omega) fun w7 h7 => ?_
      have h7' := h7.p1
      rw [stA_parts l c b] at h7'
      refine Ld.sub h7' rfl hml (Bld.st0 hl ?_)
      exact StA.blk h7 (stA_size hl) (stA_size hl) stA_scalar fun w8 h8 => Ld.arr h8 (stA_size hl) (hK _ h8.drop.drop)
end
end Go.Proofs.Ytjnjjibmlalpiaa
/- TabP -/
namespace Go.Tab
open Go.Inc
/-- the state: the lengths known, the bits of the first one (4 between adjustments, 5 within one), the current length, and the way -/
structure TS where
  l : List Nat
  bits : Nat
  now : Nat
  way : Nat
def t0 : TS := ⟨[], 0, 0, 0⟩
def tstep (ok : List Nat → Bool) (s : TS) (b : Nat) : Stp TS (List Nat) Nat :=
  if s.bits < 4 then .more ⟨s.l, s.bits + 1, 2 * s.now + b, s.way⟩
  else if s.bits = 4 then
    if b = 0 then
      if s.l.length + 1 < 258 then .more ⟨s.l ++ [s.now], 4, s.now, 0⟩
      else if ok (s.l ++ [s.now]) then .fin (s.l ++ [s.now]) else .bad 100
    else .more ⟨s.l, 5, s.now, s.way⟩
  else if b = 0 then
    if s.way ≠ 2 ∧ s.now < 15 then .more ⟨s.l, 4, s.now + 1, 1⟩ else .bad 100
  else if s.way ≠ 1 ∧ 0 < s.now then .more ⟨s.l, 4, s.now - 1, 2⟩ else .bad 100
/-- the adjustments from one length to another -/
def ups : Nat → List Nat
  | 0 => []
  | k + 1 => 1 :: 0 :: ups k
def downs : Nat → List Nat
  | 0 => []
  | k + 1 => 1 :: 1 :: downs k
def chg (was now : Nat) : List Nat := (if now < was then downs (was - now) else ups (now - was)) ++ [0]
def tabs : Nat → List Nat → List Nat
  | _, [] => []
  | was, n :: l => chg was n ++ tabs n l
def four (n : Nat) : List Nat := [n / 8 % 2, n / 4 % 2, n / 2 % 2, n % 2]
def tput (l : List Nat) : List Nat := four (l.headD 0) ++ tabs (l.headD 0) l
section
variable {ok : List Nat → Bool}
theorem run_ups : ∀ (k : Nat) (l : List Nat) (now way : Nat) (r : List Nat), way ≠ 2 → now + k ≤ 15 → ∃ way', run (tstep ok) ⟨l, 4, now, way⟩ (ups k ++ r) = run (tstep ok) ⟨l, 4, now + k, way'⟩ r
  | 0, l, now, way, r, _, _ => ⟨way, rfl⟩
  | k + 1, l, now, way, r, hw, hk => by
    obtain ⟨way', h⟩ := run_ups k l (now + 1) 1 r (by decide) (by omega)
    refine ⟨way', ?_⟩
    have h1 : tstep ok ⟨l, 4, now, way⟩ 1 = .more ⟨l, 5, now, way⟩ := rfl
    have h2 : tstep ok ⟨l, 5, now, way⟩ 0 = .more ⟨l, 4, now + 1, 1⟩ := by
      simp only [tstep]
      rw [if_neg (by decide), if_neg (by decide), if_pos trivial, if_pos ⟨hw, by omega⟩]
    show run (tstep ok) ⟨l, 4, now, way⟩ (1 :: 0 :: (ups k ++ r)) = _
    rw [run_more h1, run_more h2, h, show now + 1 + k = now + (k + 1) by omega]
theorem run_downs : ∀ (k : Nat) (l : List Nat) (now way : Nat) (r : List Nat), way ≠ 1 → k ≤ now → ∃ way', run (tstep ok) ⟨l, 4, now, way⟩ (downs k ++ r) = run (tstep ok) ⟨l, 4, now - k, way'⟩ r
  | 0, l, now, way, r, _, _ => ⟨way, rfl⟩
  | k + 1, l, now, way, r, hw, hk => by
    obtain ⟨way', h⟩ := run_downs k l (now - 1) 2 r (by decide) (by omega)
    refine ⟨way', ?_⟩
    have h1 : tstep ok ⟨l, 4, now, way⟩ 1 = .more ⟨l, 5, now, way⟩ := rfl
    have h2 : tstep ok ⟨l, 5, now, way⟩ 1 = .more ⟨l, 4, now - 1, 2⟩ := by
      simp only [tstep]
      rw [if_neg (by decide), if_neg (by decide), if_neg (by decide), if_pos ⟨hw, by omega⟩]
    show run (tstep ok) ⟨l, 4, now, way⟩ (1 :: 1 :: (downs k ++ r)) = _
    rw [run_more h1, run_more h2, h, show now - 1 - k = now - (k + 1) by omega]
theorem run_chg (l : List Nat) (was n : Nat) (r : List Nat) (h1 : was ≤ 15) (h2 : n ≤ 15) : ∃ way, run (tstep ok) ⟨l, 4, was, 0⟩ (chg was n ++ r) = run (tstep ok) ⟨l, 4, n, way⟩ (0 :: r) := by
  unfold chg
  rw [List.append_assoc]
  split
  · obtain ⟨way, h⟩ := run_downs (ok := ok) (was - n) l was 0 ([0] ++ r) (by decide) (by omega)
    exact ⟨way, by rw [h, show was - (was - n) = n by omega]; rfl⟩
  · obtain ⟨way, h⟩ := run_ups (ok := ok) (n - was) l was 0 ([0] ++ r) (by decide) (by omega)
    exact ⟨way, by rw [h, show was + (n - was) = n by omega]; rfl⟩
theorem run_tabs : ∀ (m : List Nat) (l : List Nat) (was : Nat) (r : List Nat), m ≠ [] → was ≤ 15 → (∀ x ∈ m, x ≤ 15) → l.length + m.length = 258 → ok (l ++ m) = true → run (tstep ok) ⟨l, 4, was, 0⟩ (tabs was m ++ r) = .fin (l ++ m) r
  | [], _, _, _, h, _, _, _, _ => absurd rfl h
  | n :: m, l, was, r, _, hw, hm, hl, hok => by
    rw [tabs, List.append_assoc]
    obtain ⟨way, h⟩ := run_chg (ok := ok) l was n (tabs n m ++ r) hw (hm n List.mem_cons_self)
    rw [h]
    cases m with
    | nil =>
      refine run_fin ?_
      simp only [List.length_cons, List.length_nil] at hl
      simp only [tstep]
      rw [if_neg (by decide), if_pos trivial, if_pos trivial, if_neg (by omega), if_pos hok]
    | cons x m =>
      simp only [List.length_cons] at hl
      have h1 : tstep ok ⟨l, 4, n, way⟩ 0 = .more ⟨l ++ [n], 4, n, 0⟩ := by
        simp only [tstep]
        rw [if_neg (by decide), if_pos trivial, if_pos trivial, if_pos (by omega)]
      rw [run_more h1, run_tabs (x :: m) (l ++ [n]) n r (by simp) (hm n List.mem_cons_self) (fun y hy => hm y (List.mem_cons_of_mem _ hy)) (by simp; omega) (by rw [List.append_assoc]; exact hok), List.append_assoc]
      rfl
/-- a table is read back -/
theorem tput_back {l : List Nat} (r : List Nat) (hl : l.length = 258) (hm : ∀ x ∈ l, x ≤ 15) (hok : ok l = true) : run (tstep ok) t0 (tput l ++ r) = .fin l r := by
  unfold tput
  rw [List.append_assoc]
  have hh : l.headD 0 ≤ 15 := by
    cases l with
    | nil => simp at hl
    | cons x l => exact hm x List.mem_cons_self
  have h4 : run (tstep ok) t0 (four (l.headD 0) ++ (tabs (l.headD 0) l ++ r)) = run (tstep ok) ⟨[], 4, l.headD 0, 0⟩ (tabs (l.headD 0) l ++ r) := by
    generalize l.headD 0 = n at hh ⊢
    have e : 2 * (2 * (2 * (2 * 0 + n / 8 % 2) + n / 4 % 2) + n / 2 % 2) + n % 2 = n := by omega
    show run (tstep ok) ⟨[], 4, 2 * (2 * (2 * (2 * 0 + n / 8 % 2) + n / 4 % 2) + n / 2 % 2) + n % 2, 0⟩ _ = _
    rw [e]; rfl
  rw [h4]
  exact run_tabs l [] (l.headD 0) r (by intro e; rw [e] at hl; simp at hl) hh hm (by simpa using hl) hok
end
end Go.Tab
/- Tab -/
namespace Go.Tab
open Go.Inc
/-- the direction of a state fits -/
def turnOk (l : List Nat) (now way : Nat) : Prop :=
  if l = [] then way = 0 ∨ (way = 1 ∧ 0 < now) ∨ (way = 2 ∧ now < 15)
  else (way = 0 ∧ l.getLastD 0 = now) ∨ (way = 1 ∧ l.getLastD 0 < now) ∨ (way = 2 ∧ now < l.getLastD 0)
def TsOk (t : TS) : Prop :=
  (t.bits < 4 ∧ t.l = [] ∧ t.now < 2 ^ t.bits ∧ t.way = 0) ∨
  ((t.bits = 4 ∨ t.bits = 5) ∧ t.l.length < 258 ∧ t.now ≤ 15 ∧ (∀ x ∈ t.l, x ≤ 15) ∧ turnOk t.l t.now t.way)
theorem TsOk.zero : TsOk t0 := .inl ⟨by decide, rfl, by decide, rfl⟩
theorem tstep_ok {ok : List Nat → Bool} {t t' : TS} {b : Nat} (h : TsOk t) (hb : b ≤ 1) (he : tstep ok t b = .more t') : TsOk t' := by
  obtain ⟨l, bits, now, way⟩ := t
  unfold TsOk at h
  unfold tstep at he
  dsimp only at h he
  rcases h with ⟨h1, h2, h3, h4⟩ | ⟨h1, h2, h3, h4, h5⟩
  · rw [if_pos h1] at he
    cases he
    subst h2 h4
    by_cases h : bits = 3
    · subst h
      right
      refine ⟨.inl rfl, by simp, by simp at h3; dsimp only; omega, by simp, ?_⟩
      simp [turnOk]
    · left
      refine ⟨by dsimp only; omega, rfl, ?_, rfl⟩
      dsimp only
      rw [Nat.pow_succ]; omega
  · rw [if_neg (by omega)] at he
    split at he
    · split at he
      · split at he
        · cases he
          right
          refine ⟨.inl rfl, by simp; omega, h3, ?_, ?_⟩
          · intro x hx
            rcases List.mem_append.1 hx with hx | hx
            · exact h4 x hx
            · rw [List.mem_singleton] at hx; omega
          · unfold turnOk
            dsimp only
            rw [if_neg (by simp)]
            left
            simp
        · split at he <;> cases he
      · cases he
        right
        exact ⟨.inr rfl, h2, h3, h4, h5⟩
    · split at he
      · split at he
        · rename_i hw
          cases he
          right
          refine ⟨.inl rfl, h2, by dsimp only; omega, h4, ?_⟩
          unfold turnOk at h5 ⊢
          dsimp only
          split at h5
          · rename_i hl
            rw [if_pos hl]; omega
          · rename_i hl
            rw [if_neg hl]; omega
        · cases he
      · split at he
        · rename_i hw
          cases he
          right
          refine ⟨.inl rfl, h2, by dsimp only; omega, h4, ?_⟩
          unfold turnOk at h5 ⊢
          dsimp only
          split at h5
          · rename_i hl
            rw [if_pos hl]; omega
          · rename_i hl
            rw [if_neg hl]; omega
        · cases he
theorem tstep_fin {ok : List Nat → Bool} {t : TS} {b : Nat} {l : List Nat} (h : TsOk t) (he : tstep ok t b = .fin l) : l.length = 258 ∧ ok l = true := by
  obtain ⟨l', bits, now, way⟩ := t
  unfold TsOk at h
  unfold tstep at he
  dsimp only at h he
  split at he
  · cases he
  · split at he
    · split at he
      · split at he
        · cases he
        · split at he
          · rename_i hok
            cases he
            refine ⟨?_, hok⟩
            simp
            omega
          · cases he
      · cases he
    · split at he
      · split at he <;> cases he
      · split at he <;> cases he
def pad (l : List Nat) : List Nat := l ++ List.replicate (258 - l.length) 0
theorem pad_len {l : List Nat} (h : l.length ≤ 258) : (pad l).length = 258 := by simp [pad]; omega
theorem pad_full {l : List Nat} (h : l.length = 258) : pad l = l := by simp [pad, h]
theorem pad_nil : pad [] = List.replicate 258 0 := rfl
theorem pad_set {l : List Nat} {x : Nat} (h : l.length < 258) : (pad l).set l.length x = pad (l ++ [x]) := by
  unfold pad
  rw [List.set_append_right _ _ (Nat.le_refl _), Nat.sub_self]
  obtain ⟨m, hm⟩ : ∃ m, 258 - l.length = m + 1 := ⟨257 - l.length, by omega⟩
  rw [hm, List.replicate_succ, List.set_cons_zero, List.length_append, List.length_singleton, show 258 - (l.length + 1) = m by omega]
  simp
theorem pad_last {l : List Nat} (h : l ≠ []) (h2 : l.length ≤ 258) : (pad l)[l.length - 1]? = some (l.getLastD 0) := by
  unfold pad
  have : 0 < l.length := List.length_pos_iff.2 h
  rw [List.getElem?_append_left (by omega), List.getElem?_eq_getElem (by omega)]
  cases l with
  | nil => exact absurd rfl h
  | cons a l => simp [List.getLastD, List.getLast_eq_getElem]
theorem pad_ge {l : List Nat} {i : Nat} (h1 : l.length ≤ i) : (pad l).getD i 0 = 0 := by
  unfold pad
  rw [List.getD_eq_getElem?_getD, List.getElem?_append_right h1, List.getElem?_replicate]
  split <;> rfl
theorem pad_le {l : List Nat} (h : ∀ x ∈ l, x ≤ 15) : ∀ x ∈ pad l, x ≤ 15 := by
  intro x hx
  rcases List.mem_append.1 hx with hx | hx
  · exact h x hx
  · have := (List.mem_replicate.1 hx).2; omega
end Go.Tab
namespace Go.Proofs.Ytjnjjibmlalpiaa
open Go Go.Vc Go.Srt Go.Inc Go.Tab
/-- the cells of a table's state -/
abbrev tbV (l : List Nat) : List Value := l.map fun (n : Nat) => Value.int .u8 (n : Int)
abbrev tbA (l : List Nat) (s b n wy : Int) : Array Value := ⟨tbV l ++ [.int .i64 s, .int .i64 b, .int .i64 n, .int .i64 wy]⟩
theorem tbV_len {l : List Nat} (h : l.length = 258) : (tbV l).length = 258 := by simp [h]
section
variable {E w : World} {F : List HP}
theorem twithin_c {a b c : Int} {K : Bool → World → Prop} (hK : K (decide (b ≤ a ∧ a ≤ c)) w) : Cl Try.prog [kB] n_lengthtable_within ⟨[.int .i64 a, .int .i64 b, .int .i64 c]⟩ w K := by
  refine lengthtable_within.ok _ _ _ _ _ ?_
  unfold lengthtable_within.E
  (first | refine IfB.dm (fun hb => ?_) (fun hb => ?_) | refine IfB.em (fun hb => ?_) (fun hb => ?_) | refine IfB.nm (fun hb => ?_) (fun hb => ?_) | refine IfB.mk (fun hb => ?_) (fun hb => ?_))
  · refine as1 (decide_eq_decide.2 ?_) hK
    omega
  · refine as1 (decide_eq_false ?_).symm hK
    omega
theorem turned_c {a b c : Nat} {K : Bool → World → Prop} (hc : (c = 0 ∧ a = b) ∨ (c = 1 ∧ a < b) ∨ (c = 2 ∧ b < a)) (hK : K true w) : Cl Try.prog [kB] n_lengthtable_turned ⟨[.int .i64 (a : Int), .int .i64 (b : Int), .int .i64 (c : Int)]⟩ w K := by
  refine lengthtable_turned.ok _ _ _ _ _ ?_
  unfold lengthtable_turned.E
  rcases hc with ⟨rfl, h⟩ | ⟨rfl, h⟩ | ⟨rfl, h⟩
  · (repeat (first | with_reducible refine Nw.mk h (fun b w h => ?_) | with_reducible refine Drw.mk h (fun w h => ?_) | with_reducible refine Ld.xb h rfl ?_ | with_reducible refine Ld.xt h rfl ?_ | with_reducible refine LdS.xb (fun _ h => h) rfl ?_ | with_reducible refine LdS.xt (fun _ h => h) rfl ?_ | with_reducible refine And.intro h.hb ?_ | with_reducible refine StC.xw h rfl rfl (fun w h => ?_) | (with_reducible refine StC.xs h rfl rfl (fun w h => ?_); dsimp only [spl, over] at h) | (with_reducible refine St.xs h rfl rfl (fun w h => ?_); dsimp only [spl, over] at h) | with_reducible refine IfB.ntt ?_ | with_reducible refine IfB.nff ?_ | with_reducible refine IfB.t rfl ?_ | with_reducible refine IfB.f rfl ?_ | with_reducible refine IfB.dt (by omega) ?_ | with_reducible refine IfB.df (by omega) ?_ | with_reducible refine IfB.ndt (by omega) ?_ | with_reducible refine IfB.ndf (by omega) ?_ | with_reducible refine IfB.et (by omega) ?_ | with_reducible refine IfB.ef (by omega) ?_ | with_reducible refine IfB.nt (by omega) ?_ | with_reducible refine IfB.nf (by omega) ?_ | with_reducible refine And.intro (by first | omega | decide) ?_))
    exact as1 (beq_iff_eq.2 (by omega)) hK
  · (repeat (first | with_reducible refine Nw.mk h (fun b w h => ?_) | with_reducible refine Drw.mk h (fun w h => ?_) | with_reducible refine Ld.xb h rfl ?_ | with_reducible refine Ld.xt h rfl ?_ | with_reducible refine LdS.xb (fun _ h => h) rfl ?_ | with_reducible refine LdS.xt (fun _ h => h) rfl ?_ | with_reducible refine And.intro h.hb ?_ | with_reducible refine StC.xw h rfl rfl (fun w h => ?_) | (with_reducible refine StC.xs h rfl rfl (fun w h => ?_); dsimp only [spl, over] at h) | (with_reducible refine St.xs h rfl rfl (fun w h => ?_); dsimp only [spl, over] at h) | with_reducible refine IfB.ntt ?_ | with_reducible refine IfB.nff ?_ | with_reducible refine IfB.t rfl ?_ | with_reducible refine IfB.f rfl ?_ | with_reducible refine IfB.dt (by omega) ?_ | with_reducible refine IfB.df (by omega) ?_ | with_reducible refine IfB.ndt (by omega) ?_ | with_reducible refine IfB.ndf (by omega) ?_ | with_reducible refine IfB.et (by omega) ?_ | with_reducible refine IfB.ef (by omega) ?_ | with_reducible refine IfB.nt (by omega) ?_ | with_reducible refine IfB.nf (by omega) ?_ | with_reducible refine And.intro (by first | omega | decide) ?_))
    exact as1 (decide_eq_true (by omega)) hK
  · (repeat (first | with_reducible refine Nw.mk h (fun b w h => ?_) | with_reducible refine Drw.mk h (fun w h => ?_) | with_reducible refine Ld.xb h rfl ?_ | with_reducible refine Ld.xt h rfl ?_ | with_reducible refine LdS.xb (fun _ h => h) rfl ?_ | with_reducible refine LdS.xt (fun _ h => h) rfl ?_ | with_reducible refine And.intro h.hb ?_ | with_reducible refine StC.xw h rfl rfl (fun w h => ?_) | (with_reducible refine StC.xs h rfl rfl (fun w h => ?_); dsimp only [spl, over] at h) | (with_reducible refine St.xs h rfl rfl (fun w h => ?_); dsimp only [spl, over] at h) | with_reducible refine IfB.ntt ?_ | with_reducible refine IfB.nff ?_ | with_reducible refine IfB.t rfl ?_ | with_reducible refine IfB.f rfl ?_ | with_reducible refine IfB.dt (by omega) ?_ | with_reducible refine IfB.df (by omega) ?_ | with_reducible refine IfB.ndt (by omega) ?_ | with_reducible refine IfB.ndf (by omega) ?_ | with_reducible refine IfB.et (by omega) ?_ | with_reducible refine IfB.ef (by omega) ?_ | with_reducible refine IfB.nt (by omega) ?_ | with_reducible refine IfB.nf (by omega) ?_ | with_reducible refine And.intro (by first | omega | decide) ?_))
    exact as1 (decide_eq_true (by omega)) hK
set_option maxRecDepth 20000 in
theorem known_c {l : List Nat} {b n wy : Int} {K : Bool → World → Prop} (h : Hp E w F) (hl : l.length ≤ 258) (h15 : ∀ x ∈ l, x ≤ 15) (hK : ∀ w', Hp E w' F → K true w') :
    Cl Try.prog [kB] n_lengthtable_known ⟨[.agg (tbA (pad l) (l.length : Int) b n wy)]⟩ w K := by
  have hp := pad_len hl
  have hL := tbV_len hp
  refine lengthtable_known.ok _ _ _ ?_
  unfold lengthtable_known.E
  (try simp only [Join_eq, NilCk_some, add_mk, Nat.zero_add, Nat.add_zero, Nat.reduceAdd, Bool.not_true, Bool.not_false, IfB_t, IfB_f, Option.isNone])
  refine Nw.mk h fun b3 w h => Ld.p h hL ?_
  refine ⟨fun i w' => ∃ k : Nat, i = (k : Int) ∧ k ≤ 258 ∧ Hp E w' (Blk b3 (.cells (tbA (pad l) (l.length : Int) b n wy) 60 (0, 0)) :: F), fun i _ => 258 - i.toNat, ⟨0, rfl, by omega, h⟩, ?_⟩
  rintro i w ⟨k, rfl, hk, h⟩
  (first | refine IfB.dm (fun hb => ?_) (fun hb => ?_) | refine IfB.em (fun hb => ?_) (fun hb => ?_) | refine IfB.nm (fun hb => ?_) (fun hb => ?_) | refine IfB.mk (fun hb => ?_) (fun hb => ?_))
  · refine IdxV.rd (s := .int .u8) (by omega) (by omega) ((pad l).getD k 0 : Int) ?_ ?_
    · rw [Int.toNat_natCast]
      simp [List.getD_eq_getElem?_getD, show k < (pad l).length by omega]
    have h15' : (pad l).getD k 0 ≤ 15 := by
      have hk2 : k < (pad l).length := by omega
      rw [List.getD_eq_getElem?_getD, List.getElem?_eq_getElem hk2]
      exact pad_le h15 _ (List.getElem_mem hk2)
    (repeat (first | with_reducible refine Nw.mk h (fun b w h => ?_) | with_reducible refine Drw.mk h (fun w h => ?_) | with_reducible refine Ld.q h hL rfl rfl ?_ | with_reducible refine LdS.q (fun _ h => h) hL rfl rfl ?_ | with_reducible refine Ld.p h hL ?_ | with_reducible refine LdS.p (fun _ h => h) hL ?_ | with_reducible refine Ld.qw h hL rfl ?_ | with_reducible refine LdS.qw (fun _ h => h) hL rfl ?_ | with_reducible refine And.intro h.hb ?_ | (with_reducible refine St.q h hL rfl rfl rfl (fun w h => ?_); dsimp only [spl, over] at h) | with_reducible refine IfB.ntt ?_ | with_reducible refine IfB.nff ?_ | with_reducible refine IfB.t rfl ?_ | with_reducible refine IfB.f rfl ?_ | with_reducible refine IfB.dt (by omega) ?_ | with_reducible refine IfB.df (by omega) ?_ | with_reducible refine IfB.ndt (by omega) ?_ | with_reducible refine IfB.ndf (by omega) ?_ | with_reducible refine IfB.et (by omega) ?_ | with_reducible refine IfB.ef (by omega) ?_ | with_reducible refine IfB.nt (by omega) ?_ | with_reducible refine IfB.nf (by omega) ?_ | with_reducible refine And.intro (by first | omega | decide) ?_))
    have next : (∃ k' : Nat, i64 ((k : Int) + 1) = (k' : Int) ∧ k' ≤ 258 ∧ Hp E w (Blk b3 (.cells (tbA (pad l) (l.length : Int) b n wy) 60 (0, 0)) :: F)) ∧ 258 - (i64 ((k : Int) + 1)).toNat < 258 - ((k : Int)).toNat := by
      rw [i64_id (by omega)]
      exact ⟨⟨k + 1, rfl, by omega, h⟩, by omega⟩
    (first | refine IfB.dm (fun hb => ?_) (fun hb => ?_) | refine IfB.em (fun hb => ?_) (fun hb => ?_) | refine IfB.nm (fun hb => ?_) (fun hb => ?_) | refine IfB.mk (fun hb => ?_) (fun hb => ?_))
    · have := pad_ge (l := l) (i := k) (by omega)
      rw [this]
      (repeat (first | with_reducible refine Nw.mk h (fun b w h => ?_) | with_reducible refine Drw.mk h (fun w h => ?_) | with_reducible refine Ld.q h hL rfl rfl ?_ | with_reducible refine LdS.q (fun _ h => h) hL rfl rfl ?_ | with_reducible refine Ld.p h hL ?_ | with_reducible refine LdS.p (fun _ h => h) hL ?_ | with_reducible refine Ld.qw h hL rfl ?_ | with_reducible refine LdS.qw (fun _ h => h) hL rfl ?_ | with_reducible refine And.intro h.hb ?_ | (with_reducible refine St.q h hL rfl rfl rfl (fun w h => ?_); dsimp only [spl, over] at h) | with_reducible refine IfB.ntt ?_ | with_reducible refine IfB.nff ?_ | with_reducible refine IfB.t rfl ?_ | with_reducible refine IfB.f rfl ?_ | with_reducible refine IfB.dt (by omega) ?_ | with_reducible refine IfB.df (by omega) ?_ | with_reducible refine IfB.ndt (by omega) ?_ | with_reducible refine IfB.ndf (by omega) ?_ | with_reducible refine IfB.et (by omega) ?_ | with_reducible refine IfB.ef (by omega) ?_ | with_reducible refine IfB.nt (by omega) ?_ | with_reducible refine IfB.nf (by omega) ?_ | with_reducible refine And.intro (by first | omega | decide) ?_))
      exact next
    · exact next
  · exact hK _ h.tl
theorem fieldsTb : (Try.prog.fieldsOf 60).toList.map (fun f => (f.name == "_", f.type, f.offset)) = [(false, 58, 0), (false, 3, 258), (false, 3, 259), (false, 3, 260), (false, 3, 261)] := by kernel_rfl
theorem undTb : Try.prog.underlying 60 = some (.struct (Try.prog.fieldsOf 60)) := by kernel_rfl
theorem heldTb : Try.prog.stoodInHeld 60 = false := by kernel_rfl
set_option maxRecDepth 20000 in
theorem EqW.tb {l : List Nat} {s b n wy : Int} {K : Bool → Prop} (hl : l.length = 258) (hK : K true) : EqW Try.prog 60 (tbA l s b n wy) (tbA l s b n wy) K := by
  obtain ⟨it, hit⟩ := infoInt
  obtain ⟨jt, hjt, hjs⟩ := infoLen
  obtain ⟨kt, hkt, hks⟩ := infoU8
  obtain ⟨f1, f2, f3, f4, f5, hfs, hf1, hf2, hf3, hf4, hf5⟩ : ∃ f1 f2 f3 f4 f5, (Try.prog.fieldsOf 60).toList = [f1, f2, f3, f4, f5] ∧ (f1.name == "_", f1.type, f1.offset) = (false, 58, 0) ∧ (f2.name == "_", f2.type, f2.offset) = (false, 3, 258) ∧ (f3.name == "_", f3.type, f3.offset) = (false, 3, 259) ∧ (f4.name == "_", f4.type, f4.offset) = (false, 3, 260) ∧ (f5.name == "_", f5.type, f5.offset) = (false, 3, 261) := by
    have h := fieldsTb
    generalize (Try.prog.fieldsOf 60).toList = fs at h
    match fs, h with
    | [], h => simp at h
    | [_], h => simp at h
    | [_, _], h => simp at h
    | [_, _, _], h => simp at h
    | [_, _, _, _], h => simp at h
    | _ :: _ :: _ :: _ :: _ :: _ :: _, h => simp at h
    | [f1, f2, f3, f4, f5], h =>
      simp only [List.map_cons, List.map_nil, List.cons.injEq, and_true] at h
      exact ⟨f1, f2, f3, f4, f5, rfl, h.1, h.2.1, h.2.2.1, h.2.2.2.1, h.2.2.2.2⟩
  simp only [Prod.mk.injEq] at hf1 hf2 hf3 hf4 hf5
  have hL := tbV_len hl
  have hc : (((tbA l s b n wy).toList.drop 0).take 258) = (l.map fun (x : Nat) => (x : Int)).map (.int .u8) := by
    rw [List.drop_zero, List.take_append_of_le_length (by omega), List.take_of_length_le (by omega), List.map_map]; rfl
  have hint : ∀ (x : Int) (D : Nat) (_ : 9 ≤ D) (w : World), (Op.equalIn D 3 (.int .i64 x) (.int .i64 x)).run Try.prog w = .ok true w := fun x D hD w => by
    obtain ⟨D, rfl⟩ : ∃ k, D = k + 1 := ⟨D - 1, by omega⟩
    rw [run_equalIn_int w D _ _ _ _ _ undInt]
    simp
  obtain ⟨r, hr, hK'⟩ := eqVF_sound (P := Try.prog) (d := 9) (rec := fun t x y K => ∃ b, (∀ D, 9 ≤ D → ∀ w, (Op.equalIn D t x y).run Try.prog w = .ok b w) ∧ K b) (fun t x y K h => h) (xs := tbA l s b n wy) (ys := tbA l s b n wy) (fs := [f1, f2, f3, f4, f5]) (K := K) (by
    unfold eqVF
    rw [hf1.1]
    refine partVC_agg (it := jt) (by rw [hf1.2.1]; kernel_rfl) (by rw [hf1.2.1]; exact hjt) (partVC_agg (it := jt) (by rw [hf1.2.1]; kernel_rfl) (by rw [hf1.2.1]; exact hjt) ?_)
    rw [hf1.2.2, hjs, hf1.2.1, hc]
    refine ⟨_, fun D hD w => eqArr_run undLen undU8 hkt hks (by simpa using hl) (by simpa using hl) D (by omega) w, ?_⟩
    unfold eqVF
    rw [hf2.1]
    refine partVC_sc (it := it) (v := .int .i64 s) (by rw [hf2.2.1]; kernel_rfl) (by rw [hf2.2.1]; exact hit) (by rw [hf2.2.2]; exact app_at (k := 0) hL) (partVC_sc (it := it) (v := .int .i64 s) (by rw [hf2.2.1]; kernel_rfl) (by rw [hf2.2.1]; exact hit) (by rw [hf2.2.2]; exact app_at (k := 0) hL) ?_)
    rw [hf2.2.1]
    refine ⟨true, hint s, ?_⟩
    unfold eqVF
    rw [hf3.1]
    refine partVC_sc (it := it) (v := .int .i64 b) (by rw [hf3.2.1]; kernel_rfl) (by rw [hf3.2.1]; exact hit) (by rw [hf3.2.2]; exact app_at (k := 1) hL) (partVC_sc (it := it) (v := .int .i64 b) (by rw [hf3.2.1]; kernel_rfl) (by rw [hf3.2.1]; exact hit) (by rw [hf3.2.2]; exact app_at (k := 1) hL) ?_)
    rw [hf3.2.1]
    refine ⟨true, hint b, ?_⟩
    unfold eqVF
    rw [hf4.1]
    refine partVC_sc (it := it) (v := .int .i64 n) (by rw [hf4.2.1]; kernel_rfl) (by rw [hf4.2.1]; exact hit) (by rw [hf4.2.2]; exact app_at (k := 2) hL) (partVC_sc (it := it) (v := .int .i64 n) (by rw [hf4.2.1]; kernel_rfl) (by rw [hf4.2.1]; exact hit) (by rw [hf4.2.2]; exact app_at (k := 2) hL) ?_)
    rw [hf4.2.1]
    refine ⟨true, hint n, ?_⟩
    unfold eqVF
    rw [hf5.1]
    refine partVC_sc (it := it) (v := .int .i64 wy) (by rw [hf5.2.1]; kernel_rfl) (by rw [hf5.2.1]; exact hit) (by rw [hf5.2.2]; exact app_at (k := 3) hL) (partVC_sc (it := it) (v := .int .i64 wy) (by rw [hf5.2.1]; kernel_rfl) (by rw [hf5.2.1]; exact hit) (by rw [hf5.2.2]; exact app_at (k := 3) hL) ?_)
    rw [hf5.2.1]
    refine ⟨true, hint wy, ?_⟩
    simpa using hK)
  refine ⟨r, fun w => ?_, hK'⟩
  rw [run_equalIn_struct w 9999 _ _ _ undTb heldTb, hfs]
  exact hr 9999 (by decide) w
end
end Go.Proofs.Ytjnjjibmlalpiaa
/- Tab2 -/
namespace Go.Proofs.Ytjnjjibmlalpiaa
open Go Go.Vc Go.Srt Go.Inc Go.Tab
section
variable {E w : World} {F : List HP}
theorem zeroTb (b n : Int) : (⟨List.replicate 258 (.int .u8 0) ++ [.int .i64 0, .int .i64 b, .int .i64 n, .int .i64 0]⟩ : Array Value) = tbA (List.replicate 258 0) 0 b n 0 := by
  unfold tbA tbV
  rw [List.map_replicate]; rfl
theorem Bld.tb {b n : Int} {K : Array Value → Prop} (hK : K (tbA (List.replicate 258 0) 0 b n 0)) : Bld Try.prog 60 [(2, .int .i64 b), (3, .int .i64 n)] K := by
  refine ⟨_, (by kernel_rfl : Try.prog.built 60 [(2, .int .i64 b), (3, .int .i64 n)] = some ⟨List.replicate 258 (.int .u8 0) ++ [.int .i64 0, .int .i64 b, .int .i64 n, .int .i64 0]⟩), ?_⟩
  rw [zeroTb]; exact hK
set_option maxRecDepth 20000
theorem begins_c {l : List Nat} {s n : Int} {b : Nat} {wy : Int} {K : Bool → World → Prop} (h : Hp E w F) (hl : l.length = 258) (hb : 4 ≤ b) (hK : ∀ w', Hp E w' F → K false w') :
    Cl Try.prog [kB] n_lengthtable_beginning ⟨[.agg (tbA l s (b : Int) n wy)]⟩ w K := by
  have hL := tbV_len hl
  refine lengthtable_beginning.ok _ _ _ ?_
  unfold lengthtable_beginning.E
  (try simp only [Join_eq, NilCk_some, add_mk, Nat.zero_add, Nat.add_zero, Nat.reduceAdd, Bool.not_true, Bool.not_false, IfB_t, IfB_f, Option.isNone])
  refine Nw.mk h fun b3 w h => ?_
  have h := h.drew (n := w.drawn + 1)
  refine ⟨HoldB b3 _ _ _, h.hb, ?_⟩
  dsimp only
  (repeat (first | with_reducible refine Nw.mk h (fun b w h => ?_) | with_reducible refine Drw.mk h (fun w h => ?_) | with_reducible refine Ld.q h hL rfl rfl ?_ | with_reducible refine LdS.q (fun _ h => h) hL rfl rfl ?_ | with_reducible refine Ld.p h hL ?_ | with_reducible refine LdS.p (fun _ h => h) hL ?_ | with_reducible refine Ld.qw h hL rfl ?_ | with_reducible refine LdS.qw (fun _ h => h) hL rfl ?_ | with_reducible refine And.intro h.hb ?_ | (with_reducible refine St.q h hL rfl rfl rfl (fun w h => ?_); dsimp only [spl, over] at h) | with_reducible refine IfB.ntt ?_ | with_reducible refine IfB.nff ?_ | with_reducible refine IfB.t rfl ?_ | with_reducible refine IfB.f rfl ?_ | with_reducible refine IfB.dt (by omega) ?_ | with_reducible refine IfB.df (by omega) ?_ | with_reducible refine IfB.ndt (by omega) ?_ | with_reducible refine IfB.ndf (by omega) ?_ | with_reducible refine IfB.et (by omega) ?_ | with_reducible refine IfB.ef (by omega) ?_ | with_reducible refine IfB.nt (by omega) ?_ | with_reducible refine IfB.nf (by omega) ?_ | with_reducible refine And.intro (by first | omega | decide) ?_))
  refine twithin_c ?_
  (repeat (first | with_reducible refine Nw.mk h (fun b w h => ?_) | with_reducible refine Drw.mk h (fun w h => ?_) | with_reducible refine Ld.q h hL rfl rfl ?_ | with_reducible refine LdS.q (fun _ h => h) hL rfl rfl ?_ | with_reducible refine Ld.p h hL ?_ | with_reducible refine LdS.p (fun _ h => h) hL ?_ | with_reducible refine Ld.qw h hL rfl ?_ | with_reducible refine LdS.qw (fun _ h => h) hL rfl ?_ | with_reducible refine And.intro h.hb ?_ | (with_reducible refine St.q h hL rfl rfl rfl (fun w h => ?_); dsimp only [spl, over] at h) | with_reducible refine IfB.ntt ?_ | with_reducible refine IfB.nff ?_ | with_reducible refine IfB.t rfl ?_ | with_reducible refine IfB.f rfl ?_ | with_reducible refine IfB.dt (by omega) ?_ | with_reducible refine IfB.df (by omega) ?_ | with_reducible refine IfB.ndt (by omega) ?_ | with_reducible refine IfB.ndf (by omega) ?_ | with_reducible refine IfB.et (by omega) ?_ | with_reducible refine IfB.ef (by omega) ?_ | with_reducible refine IfB.nt (by omega) ?_ | with_reducible refine IfB.nf (by omega) ?_ | with_reducible refine And.intro (by first | omega | decide) ?_))
  exact hK _ h.tl
theorem begint_c {n b : Nat} {K : Bool → World → Prop} (h : Hp E w F) (hb : b < 4) (hn : n < 2 ^ b) (hK : ∀ w', Hp E w' F → K true w') :
    Cl Try.prog [kB] n_lengthtable_beginning ⟨[.agg (tbA (List.replicate 258 0) 0 (b : Int) (n : Int) 0)]⟩ w K := by
  have hl : (List.replicate 258 0 : List Nat).length = 258 := List.length_replicate
  have hL := tbV_len hl
  refine lengthtable_beginning.ok _ _ _ ?_
  unfold lengthtable_beginning.E
  (try simp only [Join_eq, NilCk_some, add_mk, Nat.zero_add, Nat.add_zero, Nat.reduceAdd, Bool.not_true, Bool.not_false, IfB_t, IfB_f, Option.isNone])
  refine Nw.mk h fun b3 w h => ?_
  have h := h.drew (n := w.drawn + 1)
  refine ⟨HoldB b3 _ _ _, h.hb, ?_⟩
  dsimp only
  have e : i64 (ishl .i64 1 (b : Int) - 1) = ((2 ^ b - 1 : Nat) : Int) := by
    have : b = 0 ∨ b = 1 ∨ b = 2 ∨ b = 3 := by omega
    rcases this with rfl | rfl | rfl | rfl <;> rfl
  have hp := Nat.two_pow_pos b
  (repeat (first | with_reducible refine Nw.mk h (fun b w h => ?_) | with_reducible refine Drw.mk h (fun w h => ?_) | with_reducible refine Ld.q h hL rfl rfl ?_ | with_reducible refine LdS.q (fun _ h => h) hL rfl rfl ?_ | with_reducible refine Ld.p h hL ?_ | with_reducible refine LdS.p (fun _ h => h) hL ?_ | with_reducible refine Ld.qw h hL rfl ?_ | with_reducible refine LdS.qw (fun _ h => h) hL rfl ?_ | with_reducible refine And.intro h.hb ?_ | (with_reducible refine St.q h hL rfl rfl rfl (fun w h => ?_); dsimp only [spl, over] at h) | with_reducible refine IfB.ntt ?_ | with_reducible refine IfB.nff ?_ | with_reducible refine IfB.t rfl ?_ | with_reducible refine IfB.f rfl ?_ | with_reducible refine IfB.dt (by omega) ?_ | with_reducible refine IfB.df (by omega) ?_ | with_reducible refine IfB.ndt (by omega) ?_ | with_reducible refine IfB.ndf (by omega) ?_ | with_reducible refine IfB.et (by omega) ?_ | with_reducible refine IfB.ef (by omega) ?_ | with_reducible refine IfB.nt (by omega) ?_ | with_reducible refine IfB.nf (by omega) ?_ | with_reducible refine And.intro (by first | omega | decide) ?_))
  refine twithin_c ?_
  (repeat (first | with_reducible refine Nw.mk h (fun b w h => ?_) | with_reducible refine Drw.mk h (fun w h => ?_) | with_reducible refine Ld.q h hL rfl rfl ?_ | with_reducible refine LdS.q (fun _ h => h) hL rfl rfl ?_ | with_reducible refine Ld.p h hL ?_ | with_reducible refine LdS.p (fun _ h => h) hL ?_ | with_reducible refine Ld.qw h hL rfl ?_ | with_reducible refine LdS.qw (fun _ h => h) hL rfl ?_ | with_reducible refine And.intro h.hb ?_ | (with_reducible refine St.q h hL rfl rfl rfl (fun w h => ?_); dsimp only [spl, over] at h) | with_reducible refine IfB.ntt ?_ | with_reducible refine IfB.nff ?_ | with_reducible refine IfB.t rfl ?_ | with_reducible refine IfB.f rfl ?_ | with_reducible refine IfB.dt (by omega) ?_ | with_reducible refine IfB.df (by omega) ?_ | with_reducible refine IfB.ndt (by omega) ?_ | with_reducible refine IfB.ndf (by omega) ?_ | with_reducible refine IfB.et (by omega) ?_ | with_reducible refine IfB.ef (by omega) ?_ | with_reducible refine IfB.nt (by omega) ?_ | with_reducible refine IfB.nf (by omega) ?_ | with_reducible refine And.intro (by first | omega | decide) ?_))
  refine twithin_c ?_
  rw [e]
  (repeat (first | with_reducible refine Nw.mk h (fun b w h => ?_) | with_reducible refine Drw.mk h (fun w h => ?_) | with_reducible refine Ld.q h hL rfl rfl ?_ | with_reducible refine LdS.q (fun _ h => h) hL rfl rfl ?_ | with_reducible refine Ld.p h hL ?_ | with_reducible refine LdS.p (fun _ h => h) hL ?_ | with_reducible refine Ld.qw h hL rfl ?_ | with_reducible refine LdS.qw (fun _ h => h) hL rfl ?_ | with_reducible refine And.intro h.hb ?_ | (with_reducible refine St.q h hL rfl rfl rfl (fun w h => ?_); dsimp only [spl, over] at h) | with_reducible refine IfB.ntt ?_ | with_reducible refine IfB.nff ?_ | with_reducible refine IfB.t rfl ?_ | with_reducible refine IfB.f rfl ?_ | with_reducible refine IfB.dt (by omega) ?_ | with_reducible refine IfB.df (by omega) ?_ | with_reducible refine IfB.ndt (by omega) ?_ | with_reducible refine IfB.ndf (by omega) ?_ | with_reducible refine IfB.et (by omega) ?_ | with_reducible refine IfB.ef (by omega) ?_ | with_reducible refine IfB.nt (by omega) ?_ | with_reducible refine IfB.nf (by omega) ?_ | with_reducible refine And.intro (by first | omega | decide) ?_))
  exact Bld.tb (EqW.tb hl (hK _ h.tl))
theorem tvalid_c {t : TS} {K : Bool → World → Prop} (h : Hp E w F) (ht : TsOk t) (hK : ∀ w', Hp E w' F → K true w') :
    Cl Try.prog [kB] n_lengthtable_Valid ⟨[.agg (tbA (pad t.l) (t.l.length : Int) (t.bits : Int) (t.now : Int) (t.way : Int))]⟩ w K := by
  obtain ⟨l, bits, now, way⟩ := t
  unfold TsOk at ht
  dsimp only at ht ⊢
  have hl : l.length ≤ 258 := by
    rcases ht with ⟨_, h, _⟩ | ⟨_, h, _⟩
    · rw [h]; simp
    · omega
  have hL := tbV_len (pad_len hl)
  refine lengthtable_Valid.ok _ _ _ ?_
  unfold lengthtable_Valid.E
  (try simp only [Join_eq, NilCk_some, add_mk, Nat.zero_add, Nat.add_zero, Nat.reduceAdd, Bool.not_true, Bool.not_false, IfB_t, IfB_f, Option.isNone])
  (repeat (first | with_reducible refine Nw.mk h (fun b w h => ?_) | with_reducible refine Drw.mk h (fun w h => ?_) | with_reducible refine Ld.q h hL rfl rfl ?_ | with_reducible refine LdS.q (fun _ h => h) hL rfl rfl ?_ | with_reducible refine Ld.p h hL ?_ | with_reducible refine LdS.p (fun _ h => h) hL ?_ | with_reducible refine Ld.qw h hL rfl ?_ | with_reducible refine LdS.qw (fun _ h => h) hL rfl ?_ | with_reducible refine And.intro h.hb ?_ | (with_reducible refine St.q h hL rfl rfl rfl (fun w h => ?_); dsimp only [spl, over] at h) | with_reducible refine IfB.ntt ?_ | with_reducible refine IfB.nff ?_ | with_reducible refine IfB.t rfl ?_ | with_reducible refine IfB.f rfl ?_ | with_reducible refine IfB.dt (by omega) ?_ | with_reducible refine IfB.df (by omega) ?_ | with_reducible refine IfB.ndt (by omega) ?_ | with_reducible refine IfB.ndf (by omega) ?_ | with_reducible refine IfB.et (by omega) ?_ | with_reducible refine IfB.ef (by omega) ?_ | with_reducible refine IfB.nt (by omega) ?_ | with_reducible refine IfB.nf (by omega) ?_ | with_reducible refine And.intro (by first | omega | decide) ?_))
  rcases ht with ⟨h1, h2, h3, h4⟩ | ⟨h1, h2, h3, h4, h5⟩
  · subst h2 h4
    refine begint_c h h1 h3 fun w h => ?_
    (repeat (first | with_reducible refine Nw.mk h (fun b w h => ?_) | with_reducible refine Drw.mk h (fun w h => ?_) | with_reducible refine Ld.q h hL rfl rfl ?_ | with_reducible refine LdS.q (fun _ h => h) hL rfl rfl ?_ | with_reducible refine Ld.p h hL ?_ | with_reducible refine LdS.p (fun _ h => h) hL ?_ | with_reducible refine Ld.qw h hL rfl ?_ | with_reducible refine LdS.qw (fun _ h => h) hL rfl ?_ | with_reducible refine And.intro h.hb ?_ | (with_reducible refine St.q h hL rfl rfl rfl (fun w h => ?_); dsimp only [spl, over] at h) | with_reducible refine IfB.ntt ?_ | with_reducible refine IfB.nff ?_ | with_reducible refine IfB.t rfl ?_ | with_reducible refine IfB.f rfl ?_ | with_reducible refine IfB.dt (by omega) ?_ | with_reducible refine IfB.df (by omega) ?_ | with_reducible refine IfB.ndt (by omega) ?_ | with_reducible refine IfB.ndf (by omega) ?_ | with_reducible refine IfB.et (by omega) ?_ | with_reducible refine IfB.ef (by omega) ?_ | with_reducible refine IfB.nt (by omega) ?_ | with_reducible refine IfB.nf (by omega) ?_ | with_reducible refine And.intro (by first | omega | decide) ?_))
    exact hK _ h.tl
  · refine begins_c h (pad_len hl) (by omega) fun w h => ?_
    (repeat (first | with_reducible refine Nw.mk h (fun b w h => ?_) | with_reducible refine Drw.mk h (fun w h => ?_) | with_reducible refine Ld.q h hL rfl rfl ?_ | with_reducible refine LdS.q (fun _ h => h) hL rfl rfl ?_ | with_reducible refine Ld.p h hL ?_ | with_reducible refine LdS.p (fun _ h => h) hL ?_ | with_reducible refine Ld.qw h hL rfl ?_ | with_reducible refine LdS.qw (fun _ h => h) hL rfl ?_ | with_reducible refine And.intro h.hb ?_ | (with_reducible refine St.q h hL rfl rfl rfl (fun w h => ?_); dsimp only [spl, over] at h) | with_reducible refine IfB.ntt ?_ | with_reducible refine IfB.nff ?_ | with_reducible refine IfB.t rfl ?_ | with_reducible refine IfB.f rfl ?_ | with_reducible refine IfB.dt (by omega) ?_ | with_reducible refine IfB.df (by omega) ?_ | with_reducible refine IfB.ndt (by omega) ?_ | with_reducible refine IfB.ndf (by omega) ?_ | with_reducible refine IfB.et (by omega) ?_ | with_reducible refine IfB.ef (by omega) ?_ | with_reducible refine IfB.nt (by omega) ?_ | with_reducible refine IfB.nf (by omega) ?_ | with_reducible refine And.intro (by first | omega | decide) ?_))
    refine twithin_c ?_
    (repeat (first | with_reducible refine Nw.mk h (fun b w h => ?_) | with_reducible refine Drw.mk h (fun w h => ?_) | with_reducible refine Ld.q h hL rfl rfl ?_ | with_reducible refine LdS.q (fun _ h => h) hL rfl rfl ?_ | with_reducible refine Ld.p h hL ?_ | with_reducible refine LdS.p (fun _ h => h) hL ?_ | with_reducible refine Ld.qw h hL rfl ?_ | with_reducible refine LdS.qw (fun _ h => h) hL rfl ?_ | with_reducible refine And.intro h.hb ?_ | (with_reducible refine St.q h hL rfl rfl rfl (fun w h => ?_); dsimp only [spl, over] at h) | with_reducible refine IfB.ntt ?_ | with_reducible refine IfB.nff ?_ | with_reducible refine IfB.t rfl ?_ | with_reducible refine IfB.f rfl ?_ | with_reducible refine IfB.dt (by omega) ?_ | with_reducible refine IfB.df (by omega) ?_ | with_reducible refine IfB.ndt (by omega) ?_ | with_reducible refine IfB.ndf (by omega) ?_ | with_reducible refine IfB.et (by omega) ?_ | with_reducible refine IfB.ef (by omega) ?_ | with_reducible refine IfB.nt (by omega) ?_ | with_reducible refine IfB.nf (by omega) ?_ | with_reducible refine And.intro (by first | omega | decide) ?_))
    refine twithin_c ?_
    (repeat (first | with_reducible refine Nw.mk h (fun b w h => ?_) | with_reducible refine Drw.mk h (fun w h => ?_) | with_reducible refine Ld.q h hL rfl rfl ?_ | with_reducible refine LdS.q (fun _ h => h) hL rfl rfl ?_ | with_reducible refine Ld.p h hL ?_ | with_reducible refine LdS.p (fun _ h => h) hL ?_ | with_reducible refine Ld.qw h hL rfl ?_ | with_reducible refine LdS.qw (fun _ h => h) hL rfl ?_ | with_reducible refine And.intro h.hb ?_ | (with_reducible refine St.q h hL rfl rfl rfl (fun w h => ?_); dsimp only [spl, over] at h) | with_reducible refine IfB.ntt ?_ | with_reducible refine IfB.nff ?_ | with_reducible refine IfB.t rfl ?_ | with_reducible refine IfB.f rfl ?_ | with_reducible refine IfB.dt (by omega) ?_ | with_reducible refine IfB.df (by omega) ?_ | with_reducible refine IfB.ndt (by omega) ?_ | with_reducible refine IfB.ndf (by omega) ?_ | with_reducible refine IfB.et (by omega) ?_ | with_reducible refine IfB.ef (by omega) ?_ | with_reducible refine IfB.nt (by omega) ?_ | with_reducible refine IfB.nf (by omega) ?_ | with_reducible refine And.intro (by first | omega | decide) ?_))
    refine twithin_c ?_
    (repeat (first | with_reducible refine Nw.mk h (fun b w h => ?_) | with_reducible refine Drw.mk h (fun w h => ?_) | with_reducible refine Ld.q h hL rfl rfl ?_ | with_reducible refine LdS.q (fun _ h => h) hL rfl rfl ?_ | with_reducible refine Ld.p h hL ?_ | with_reducible refine LdS.p (fun _ h => h) hL ?_ | with_reducible refine Ld.qw h hL rfl ?_ | with_reducible refine LdS.qw (fun _ h => h) hL rfl ?_ | with_reducible refine And.intro h.hb ?_ | (with_reducible refine St.q h hL rfl rfl rfl (fun w h => ?_); dsimp only [spl, over] at h) | with_reducible refine IfB.ntt ?_ | with_reducible refine IfB.nff ?_ | with_reducible refine IfB.t rfl ?_ | with_reducible refine IfB.f rfl ?_ | with_reducible refine IfB.dt (by omega) ?_ | with_reducible refine IfB.df (by omega) ?_ | with_reducible refine IfB.ndt (by omega) ?_ | with_reducible refine IfB.ndf (by omega) ?_ | with_reducible refine IfB.et (by omega) ?_ | with_reducible refine IfB.ef (by omega) ?_ | with_reducible refine IfB.nt (by omega) ?_ | with_reducible refine IfB.nf (by omega) ?_ | with_reducible refine And.intro (by first | omega | decide) ?_))
    refine twithin_c ?_
    have hw : way ≤ 2 := by unfold turnOk at h5; split at h5 <;> omega
    (repeat (first | with_reducible refine Nw.mk h (fun b w h => ?_) | with_reducible refine Drw.mk h (fun w h => ?_) | with_reducible refine Ld.q h hL rfl rfl ?_ | with_reducible refine LdS.q (fun _ h => h) hL rfl rfl ?_ | with_reducible refine Ld.p h hL ?_ | with_reducible refine LdS.p (fun _ h => h) hL ?_ | with_reducible refine Ld.qw h hL rfl ?_ | with_reducible refine LdS.qw (fun _ h => h) hL rfl ?_ | with_reducible refine And.intro h.hb ?_ | (with_reducible refine St.q h hL rfl rfl rfl (fun w h => ?_); dsimp only [spl, over] at h) | with_reducible refine IfB.ntt ?_ | with_reducible refine IfB.nff ?_ | with_reducible refine IfB.t rfl ?_ | with_reducible refine IfB.f rfl ?_ | with_reducible refine IfB.dt (by omega) ?_ | with_reducible refine IfB.df (by omega) ?_ | with_reducible refine IfB.ndt (by omega) ?_ | with_reducible refine IfB.ndf (by omega) ?_ | with_reducible refine IfB.et (by omega) ?_ | with_reducible refine IfB.ef (by omega) ?_ | with_reducible refine IfB.nt (by omega) ?_ | with_reducible refine IfB.nf (by omega) ?_ | with_reducible refine And.intro (by first | omega | decide) ?_))
    refine known_c h hl h4 fun w h => ?_
    (repeat (first | with_reducible refine Nw.mk h (fun b w h => ?_) | with_reducible refine Drw.mk h (fun w h => ?_) | with_reducible refine Ld.q h hL rfl rfl ?_ | with_reducible refine LdS.q (fun _ h => h) hL rfl rfl ?_ | with_reducible refine Ld.p h hL ?_ | with_reducible refine LdS.p (fun _ h => h) hL ?_ | with_reducible refine Ld.qw h hL rfl ?_ | with_reducible refine LdS.qw (fun _ h => h) hL rfl ?_ | with_reducible refine And.intro h.hb ?_ | (with_reducible refine St.q h hL rfl rfl rfl (fun w h => ?_); dsimp only [spl, over] at h) | with_reducible refine IfB.ntt ?_ | with_reducible refine IfB.nff ?_ | with_reducible refine IfB.t rfl ?_ | with_reducible refine IfB.f rfl ?_ | with_reducible refine IfB.dt (by omega) ?_ | with_reducible refine IfB.df (by omega) ?_ | with_reducible refine IfB.ndt (by omega) ?_ | with_reducible refine IfB.ndf (by omega) ?_ | with_reducible refine IfB.et (by omega) ?_ | with_reducible refine IfB.ef (by omega) ?_ | with_reducible refine IfB.nt (by omega) ?_ | with_reducible refine IfB.nf (by omega) ?_ | with_reducible refine And.intro (by first | omega | decide) ?_))
    unfold turnOk at h5
    by_cases hn : l = []
    · subst hn
      rw [if_pos rfl] at h5
      (repeat (first | with_reducible refine Nw.mk h (fun b w h => ?_) | with_reducible refine Drw.mk h (fun w h => ?_) | with_reducible refine Ld.q h hL rfl rfl ?_ | with_reducible refine LdS.q (fun _ h => h) hL rfl rfl ?_ | with_reducible refine Ld.p h hL ?_ | with_reducible refine LdS.p (fun _ h => h) hL ?_ | with_reducible refine Ld.qw h hL rfl ?_ | with_reducible refine LdS.qw (fun _ h => h) hL rfl ?_ | with_reducible refine And.intro h.hb ?_ | (with_reducible refine St.q h hL rfl rfl rfl (fun w h => ?_); dsimp only [spl, over] at h) | with_reducible refine IfB.ntt ?_ | with_reducible refine IfB.nff ?_ | with_reducible refine IfB.t rfl ?_ | with_reducible refine IfB.f rfl ?_ | with_reducible refine IfB.dt (by omega) ?_ | with_reducible refine IfB.df (by omega) ?_ | with_reducible refine IfB.ndt (by omega) ?_ | with_reducible refine IfB.ndf (by omega) ?_ | with_reducible refine IfB.et (by omega) ?_ | with_reducible refine IfB.ef (by omega) ?_ | with_reducible refine IfB.nt (by omega) ?_ | with_reducible refine IfB.nf (by omega) ?_ | with_reducible refine And.intro (by first | omega | decide) ?_))
      rcases h5 with h5 | ⟨h5, h6⟩ | ⟨h5, h6⟩
      · subst h5
        (repeat (first | with_reducible refine Nw.mk h (fun b w h => ?_) | with_reducible refine Drw.mk h (fun w h => ?_) | with_reducible refine Ld.q h hL rfl rfl ?_ | with_reducible refine LdS.q (fun _ h => h) hL rfl rfl ?_ | with_reducible refine Ld.p h hL ?_ | with_reducible refine LdS.p (fun _ h => h) hL ?_ | with_reducible refine Ld.qw h hL rfl ?_ | with_reducible refine LdS.qw (fun _ h => h) hL rfl ?_ | with_reducible refine And.intro h.hb ?_ | (with_reducible refine St.q h hL rfl rfl rfl (fun w h => ?_); dsimp only [spl, over] at h) | with_reducible refine IfB.ntt ?_ | with_reducible refine IfB.nff ?_ | with_reducible refine IfB.t rfl ?_ | with_reducible refine IfB.f rfl ?_ | with_reducible refine IfB.dt (by omega) ?_ | with_reducible refine IfB.df (by omega) ?_ | with_reducible refine IfB.ndt (by omega) ?_ | with_reducible refine IfB.ndf (by omega) ?_ | with_reducible refine IfB.et (by omega) ?_ | with_reducible refine IfB.ef (by omega) ?_ | with_reducible refine IfB.nt (by omega) ?_ | with_reducible refine IfB.nf (by omega) ?_ | with_reducible refine And.intro (by first | omega | decide) ?_))
        exact hK _ h.tl
      · subst h5
        (repeat (first | with_reducible refine Nw.mk h (fun b w h => ?_) | with_reducible refine Drw.mk h (fun w h => ?_) | with_reducible refine Ld.q h hL rfl rfl ?_ | with_reducible refine LdS.q (fun _ h => h) hL rfl rfl ?_ | with_reducible refine Ld.p h hL ?_ | with_reducible refine LdS.p (fun _ h => h) hL ?_ | with_reducible refine Ld.qw h hL rfl ?_ | with_reducible refine LdS.qw (fun _ h => h) hL rfl ?_ | with_reducible refine And.intro h.hb ?_ | (with_reducible refine St.q h hL rfl rfl rfl (fun w h => ?_); dsimp only [spl, over] at h) | with_reducible refine IfB.ntt ?_ | with_reducible refine IfB.nff ?_ | with_reducible refine IfB.t rfl ?_ | with_reducible refine IfB.f rfl ?_ | with_reducible refine IfB.dt (by omega) ?_ | with_reducible refine IfB.df (by omega) ?_ | with_reducible refine IfB.ndt (by omega) ?_ | with_reducible refine IfB.ndf (by omega) ?_ | with_reducible refine IfB.et (by omega) ?_ | with_reducible refine IfB.ef (by omega) ?_ | with_reducible refine IfB.nt (by omega) ?_ | with_reducible refine IfB.nf (by omega) ?_ | with_reducible refine And.intro (by first | omega | decide) ?_))
        exact hK _ h.tl
      · subst h5
        (repeat (first | with_reducible refine Nw.mk h (fun b w h => ?_) | with_reducible refine Drw.mk h (fun w h => ?_) | with_reducible refine Ld.q h hL rfl rfl ?_ | with_reducible refine LdS.q (fun _ h => h) hL rfl rfl ?_ | with_reducible refine Ld.p h hL ?_ | with_reducible refine LdS.p (fun _ h => h) hL ?_ | with_reducible refine Ld.qw h hL rfl ?_ | with_reducible refine LdS.qw (fun _ h => h) hL rfl ?_ | with_reducible refine And.intro h.hb ?_ | (with_reducible refine St.q h hL rfl rfl rfl (fun w h => ?_); dsimp only [spl, over] at h) | with_reducible refine IfB.ntt ?_ | with_reducible refine IfB.nff ?_ | with_reducible refine IfB.t rfl ?_ | with_reducible refine IfB.f rfl ?_ | with_reducible refine IfB.dt (by omega) ?_ | with_reducible refine IfB.df (by omega) ?_ | with_reducible refine IfB.ndt (by omega) ?_ | with_reducible refine IfB.ndf (by omega) ?_ | with_reducible refine IfB.et (by omega) ?_ | with_reducible refine IfB.ef (by omega) ?_ | with_reducible refine IfB.nt (by omega) ?_ | with_reducible refine IfB.nf (by omega) ?_ | with_reducible refine And.intro (by first | omega | decide) ?_))
        exact as1 (decide_eq_true (by omega)) (hK _ h.tl)
    · rw [if_neg hn] at h5
      have hpos := List.length_pos_iff.2 hn
      (repeat (first | with_reducible refine Nw.mk h (fun b w h => ?_) | with_reducible refine Drw.mk h (fun w h => ?_) | with_reducible refine Ld.q h hL rfl rfl ?_ | with_reducible refine LdS.q (fun _ h => h) hL rfl rfl ?_ | with_reducible refine Ld.p h hL ?_ | with_reducible refine LdS.p (fun _ h => h) hL ?_ | with_reducible refine Ld.qw h hL rfl ?_ | with_reducible refine LdS.qw (fun _ h => h) hL rfl ?_ | with_reducible refine And.intro h.hb ?_ | (with_reducible refine St.q h hL rfl rfl rfl (fun w h => ?_); dsimp only [spl, over] at h) | with_reducible refine IfB.ntt ?_ | with_reducible refine IfB.nff ?_ | with_reducible refine IfB.t rfl ?_ | with_reducible refine IfB.f rfl ?_ | with_reducible refine IfB.dt (by omega) ?_ | with_reducible refine IfB.df (by omega) ?_ | with_reducible refine IfB.ndt (by omega) ?_ | with_reducible refine IfB.ndf (by omega) ?_ | with_reducible refine IfB.et (by omega) ?_ | with_reducible refine IfB.ef (by omega) ?_ | with_reducible refine IfB.nt (by omega) ?_ | with_reducible refine IfB.nf (by omega) ?_ | with_reducible refine And.intro (by first | omega | decide) ?_))
      rw [i64_id (by omega)]
      refine ⟨by omega, by omega, ?_⟩
      rw [show (((l.length : Int) - 1).toNat * 1) = l.length - 1 by omega]
      (try simp only [Join_eq, NilCk_some, add_mk, Nat.zero_add, Nat.add_zero, Nat.reduceAdd, Bool.not_true, Bool.not_false, IfB_t, IfB_f, Option.isNone])
      refine Ld.g (x := (l.getLastD 0 : Int)) h ?_ ?_
      · rw [List.getElem?_map, pad_last hn hl]; rfl
      have hlast : l.getLastD 0 ≤ 15 := by
        cases l with
        | nil => exact absurd rfl hn
        | cons a l => rw [List.getLastD_cons, ← List.getLast_eq_getLastD (h := List.cons_ne_nil _ _)]; exact h4 _ (List.getLast_mem _)
      (repeat (first | with_reducible refine Nw.mk h (fun b w h => ?_) | with_reducible refine Drw.mk h (fun w h => ?_) | with_reducible refine Ld.q h hL rfl rfl ?_ | with_reducible refine LdS.q (fun _ h => h) hL rfl rfl ?_ | with_reducible refine Ld.p h hL ?_ | with_reducible refine LdS.p (fun _ h => h) hL ?_ | with_reducible refine Ld.qw h hL rfl ?_ | with_reducible refine LdS.qw (fun _ h => h) hL rfl ?_ | with_reducible refine And.intro h.hb ?_ | (with_reducible refine St.q h hL rfl rfl rfl (fun w h => ?_); dsimp only [spl, over] at h) | with_reducible refine IfB.ntt ?_ | with_reducible refine IfB.nff ?_ | with_reducible refine IfB.t rfl ?_ | with_reducible refine IfB.f rfl ?_ | with_reducible refine IfB.dt (by omega) ?_ | with_reducible refine IfB.df (by omega) ?_ | with_reducible refine IfB.ndt (by omega) ?_ | with_reducible refine IfB.ndf (by omega) ?_ | with_reducible refine IfB.et (by omega) ?_ | with_reducible refine IfB.ef (by omega) ?_ | with_reducible refine IfB.nt (by omega) ?_ | with_reducible refine IfB.nf (by omega) ?_ | with_reducible refine And.intro (by first | omega | decide) ?_))
      rw [i64_id (by omega)]
      refine turned_c (by omega) ?_
      exact hK _ h.tl
theorem orbit {c x : Nat} (hx : x ≤ 1) (hc : c < 16384) : ior .i64 (ishl .i64 (c : Int) 1) (x : Int) = ((2 * c + x : Nat) : Int) := or_bit hx hc
theorem tbA_scalar {l : List Nat} {s b n wy : Int} : (tbA l s b n wy).toList.all scalarB = true := by
  unfold tbA tbV
  rw [List.all_append, List.all_map]
  rw [Bool.and_eq_true]
  exact ⟨List.all_eq_true.2 fun _ _ => rfl, rfl⟩
theorem tbA_size {l : List Nat} {s b n wy : Int} (hl : l.length = 258) : (tbA l s b n wy).size = 262 := by simp [hl]
theorem tbV_set {l : List Nat} {i x : Nat} : (tbV l).set i (.int .u8 (x : Int)) = tbV (l.set i x) := by
  unfold tbV
  rw [List.map_set]
/-- what next returns -/
def TnR (t : TS) (x : Nat) (E : World) (F : List HP) (K : Array Value → Bool → World → Prop) : Prop :=
  (∀ t' w', tstep okT t x = .more t' → Hp E w' F → K (tbA (pad t'.l) (t'.l.length : Int) (t'.bits : Int) (t'.now : Int) (t'.way : Int)) true w') ∧
  (∀ l n w', tstep okT t x = .fin l → Hp E w' F → K (tbA l 258 4 n 0) true w') ∧
  (∀ o w', tstep okT t x = .bad 100 → o.size = 262 → o.toList.all scalarB = true → Hp E w' F → K o false w')
theorem tnext_c {t : TS} {x : Nat} {K : Array Value → Bool → World → Prop} (h : Hp E w F) (ht : TsOk t) (hx : x ≤ 1) (hK : TnR t x E F K) :
    Cl Try.prog [.arr 262, kB] n_lengthtable_next ⟨[.agg (tbA (pad t.l) (t.l.length : Int) (t.bits : Int) (t.now : Int) (t.way : Int)), .int .i64 (x : Int)]⟩ w K := by
  obtain ⟨k1, k2, k3⟩ := hK
  obtain ⟨l, bits, now, way⟩ := t
  unfold TsOk at ht
  unfold tstep at k1 k2 k3
  dsimp only at ht k1 k2 k3 ⊢
  have hl : l.length ≤ 258 := by
    rcases ht with ⟨_, h, _⟩ | ⟨_, h, _⟩
    · rw [h]; simp
    · omega
  have hL := tbV_len (pad_len hl)
  have hz : ((⟨List.replicate 258 (.int .u8 0) ++ [.int .i64 0, .int .i64 0, .int .i64 0, .int .i64 0]⟩ : Array Value)).size = 262 := by simp
  refine lengthtable_next.ok _ _ _ _ ?_
  unfold lengthtable_next.E
  (try simp only [Join_eq, NilCk_some, add_mk, Nat.zero_add, Nat.add_zero, Nat.reduceAdd, Bool.not_true, Bool.not_false, IfB_t, IfB_f, Option.isNone])
  refine Nw.mk h fun b4 w h => Nw.mk h fun b6 w h => ?_
  -- a state as it is returned
  have out : ∀ {w : World} {l' : List Nat} {s b n wy : Int} {K' : World → Array Value → Prop}, l'.length = 258 →
      Hp E w (Blk b6 (.cells ⟨List.replicate 258 (.int .u8 0) ++ [.int .i64 0, .int .i64 0, .int .i64 0, .int .i64 0]⟩ 60 (0, 0)) :: Blk b4 (.cells (tbA l' s b n wy) 60 (0, 0)) :: F) →
      (∀ w', Hp E w' F → K' w' (tbA l' s b n wy)) →
      StA 262 ⟨b6, 0, none⟩ (tbA l' s b n wy) w fun w1 => Ld (.arr 262) ⟨b6, 0, none⟩ w1 fun r => K' w1 r := by
    intro w l' s b n wy K' hl' h hk
    refine StA.q h hz (tbA_size hl') tbA_scalar fun w h => ?_
    exact Ld.xw h (tbA_size hl') (hk _ h.tl)
  rcases ht with ⟨h1, h2, h3, h4⟩ | ⟨h1, h2, h3, h4, h5⟩
  · subst h2 h4
    simp only [if_pos h1] at k1 k2 k3
    have hnow : now < 16384 := by
      have : 2 ^ bits ≤ 2 ^ 3 := Nat.pow_le_pow_right (by decide) (by omega)
      omega
    (repeat (first | with_reducible refine Nw.mk h (fun b w h => ?_) | with_reducible refine Drw.mk h (fun w h => ?_) | with_reducible refine Ld.q h hL rfl rfl ?_ | with_reducible refine LdS.q (fun _ h => h) hL rfl rfl ?_ | with_reducible refine Ld.p h hL ?_ | with_reducible refine LdS.p (fun _ h => h) hL ?_ | with_reducible refine Ld.qw h hL rfl ?_ | with_reducible refine LdS.qw (fun _ h => h) hL rfl ?_ | with_reducible refine And.intro h.hb ?_ | (with_reducible refine St.q h hL rfl rfl rfl (fun w h => ?_); dsimp only [spl, over] at h) | with_reducible refine IfB.ntt ?_ | with_reducible refine IfB.nff ?_ | with_reducible refine IfB.t rfl ?_ | with_reducible refine IfB.f rfl ?_ | with_reducible refine IfB.dt (by omega) ?_ | with_reducible refine IfB.df (by omega) ?_ | with_reducible refine IfB.ndt (by omega) ?_ | with_reducible refine IfB.ndf (by omega) ?_ | with_reducible refine IfB.et (by omega) ?_ | with_reducible refine IfB.ef (by omega) ?_ | with_reducible refine IfB.nt (by omega) ?_ | with_reducible refine IfB.nf (by omega) ?_ | with_reducible refine And.intro (by first | omega | decide) ?_))
    rw [orbit hx hnow, i64_id (by omega)] at h ⊢
    exact out (K' := fun w x => K x true w) (pad_len hl) h fun w h => k1 _ _ rfl h
  · simp only [if_neg (show ¬ bits < 4 by omega)] at k1 k2 k3
    (repeat (first | with_reducible refine Nw.mk h (fun b w h => ?_) | with_reducible refine Drw.mk h (fun w h => ?_) | with_reducible refine Ld.q h hL rfl rfl ?_ | with_reducible refine LdS.q (fun _ h => h) hL rfl rfl ?_ | with_reducible refine Ld.p h hL ?_ | with_reducible refine LdS.p (fun _ h => h) hL ?_ | with_reducible refine Ld.qw h hL rfl ?_ | with_reducible refine LdS.qw (fun _ h => h) hL rfl ?_ | with_reducible refine And.intro h.hb ?_ | (with_reducible refine St.q h hL rfl rfl rfl (fun w h => ?_); dsimp only [spl, over] at h) | with_reducible refine IfB.ntt ?_ | with_reducible refine IfB.nff ?_ | with_reducible refine IfB.t rfl ?_ | with_reducible refine IfB.f rfl ?_ | with_reducible refine IfB.dt (by omega) ?_ | with_reducible refine IfB.df (by omega) ?_ | with_reducible refine IfB.ndt (by omega) ?_ | with_reducible refine IfB.ndf (by omega) ?_ | with_reducible refine IfB.et (by omega) ?_ | with_reducible refine IfB.ef (by omega) ?_ | with_reducible refine IfB.nt (by omega) ?_ | with_reducible refine IfB.nf (by omega) ?_ | with_reducible refine And.intro (by first | omega | decide) ?_))
    by_cases hb : bits = 4
    · subst hb
      simp only [if_true] at k1 k2 k3
      by_cases hx0 : x = 0
      · subst hx0
        simp only [if_true] at k1 k2 k3
        (repeat (first | with_reducible refine Nw.mk h (fun b w h => ?_) | with_reducible refine Drw.mk h (fun w h => ?_) | with_reducible refine Ld.q h hL rfl rfl ?_ | with_reducible refine LdS.q (fun _ h => h) hL rfl rfl ?_ | with_reducible refine Ld.p h hL ?_ | with_reducible refine LdS.p (fun _ h => h) hL ?_ | with_reducible refine Ld.qw h hL rfl ?_ | with_reducible refine LdS.qw (fun _ h => h) hL rfl ?_ | with_reducible refine And.intro h.hb ?_ | (with_reducible refine St.q h hL rfl rfl rfl (fun w h => ?_); dsimp only [spl, over] at h) | with_reducible refine IfB.ntt ?_ | with_reducible refine IfB.nff ?_ | with_reducible refine IfB.t rfl ?_ | with_reducible refine IfB.f rfl ?_ | with_reducible refine IfB.dt (by omega) ?_ | with_reducible refine IfB.df (by omega) ?_ | with_reducible refine IfB.ndt (by omega) ?_ | with_reducible refine IfB.ndf (by omega) ?_ | with_reducible refine IfB.et (by omega) ?_ | with_reducible refine IfB.ef (by omega) ?_ | with_reducible refine IfB.nt (by omega) ?_ | with_reducible refine IfB.nf (by omega) ?_ | with_reducible refine And.intro (by first | omega | decide) ?_))
        refine ⟨by omega, by omega, ?_⟩
        rw [show (((l.length : Int)).toNat * 1) = l.length by omega, u8_id (by omega)]
        (try simp only [Join_eq, NilCk_some, add_mk, Nat.zero_add, Nat.add_zero, Nat.reduceAdd, Bool.not_true, Bool.not_false, IfB_t, IfB_f, Option.isNone])
        refine St.g h (by omega) rfl fun w h => ?_
        rw [tbV_set, pad_set h2] at h
        have hl2 : (l ++ [now]).length ≤ 258 := by simp; omega
        have hL := tbV_len (pad_len hl2)
        (repeat (first | with_reducible refine Nw.mk h (fun b w h => ?_) | with_reducible refine Drw.mk h (fun w h => ?_) | with_reducible refine Ld.q h hL rfl rfl ?_ | with_reducible refine LdS.q (fun _ h => h) hL rfl rfl ?_ | with_reducible refine Ld.p h hL ?_ | with_reducible refine LdS.p (fun _ h => h) hL ?_ | with_reducible refine Ld.qw h hL rfl ?_ | with_reducible refine LdS.qw (fun _ h => h) hL rfl ?_ | with_reducible refine And.intro h.hb ?_ | (with_reducible refine St.q h hL rfl rfl rfl (fun w h => ?_); dsimp only [spl, over] at h) | with_reducible refine IfB.ntt ?_ | with_reducible refine IfB.nff ?_ | with_reducible refine IfB.t rfl ?_ | with_reducible refine IfB.f rfl ?_ | with_reducible refine IfB.dt (by omega) ?_ | with_reducible refine IfB.df (by omega) ?_ | with_reducible refine IfB.ndt (by omega) ?_ | with_reducible refine IfB.ndf (by omega) ?_ | with_reducible refine IfB.et (by omega) ?_ | with_reducible refine IfB.ef (by omega) ?_ | with_reducible refine IfB.nt (by omega) ?_ | with_reducible refine IfB.nf (by omega) ?_ | with_reducible refine And.intro (by first | omega | decide) ?_))
        rw [i64_id (by omega), show (l.length : Int) + 1 = ((l ++ [now]).length : Int) by simp] at h
        have h := h.drew (n := w.drawn + 1)
        refine ⟨HoldB b4 _ _ _, h.hb, ?_⟩
        dsimp only
        (repeat (first | with_reducible refine Nw.mk h (fun b w h => ?_) | with_reducible refine Drw.mk h (fun w h => ?_) | with_reducible refine Ld.q h hL rfl rfl ?_ | with_reducible refine LdS.q (fun _ h => h) hL rfl rfl ?_ | with_reducible refine Ld.p h hL ?_ | with_reducible refine LdS.p (fun _ h => h) hL ?_ | with_reducible refine Ld.qw h hL rfl ?_ | with_reducible refine LdS.qw (fun _ h => h) hL rfl ?_ | with_reducible refine And.intro h.hb ?_ | (with_reducible refine St.q h hL rfl rfl rfl (fun w h => ?_); dsimp only [spl, over] at h) | with_reducible refine IfB.ntt ?_ | with_reducible refine IfB.nff ?_ | with_reducible refine IfB.t rfl ?_ | with_reducible refine IfB.f rfl ?_ | with_reducible refine IfB.dt (by omega) ?_ | with_reducible refine IfB.df (by omega) ?_ | with_reducible refine IfB.ndt (by omega) ?_ | with_reducible refine IfB.ndf (by omega) ?_ | with_reducible refine IfB.et (by omega) ?_ | with_reducible refine IfB.ef (by omega) ?_ | with_reducible refine IfB.nt (by omega) ?_ | with_reducible refine IfB.nf (by omega) ?_ | with_reducible refine And.intro (by first | omega | decide) ?_))
        by_cases hf : l.length + 1 < 258
        · rw [if_pos hf] at k1 k2 k3
          refine IfB.dt (by simp; omega) ?_
          refine StA.q h hz (tbA_size (pad_len hl2)) tbA_scalar fun w h => ?_
          (repeat (first | with_reducible refine Nw.mk h (fun b w h => ?_) | with_reducible refine Drw.mk h (fun w h => ?_) | with_reducible refine Ld.q h hL rfl rfl ?_ | with_reducible refine LdS.q (fun _ h => h) hL rfl rfl ?_ | with_reducible refine Ld.p h hL ?_ | with_reducible refine LdS.p (fun _ h => h) hL ?_ | with_reducible refine Ld.qw h hL rfl ?_ | with_reducible refine LdS.qw (fun _ h => h) hL rfl ?_ | with_reducible refine And.intro h.hb ?_ | (with_reducible refine St.q h hL rfl rfl rfl (fun w h => ?_); dsimp only [spl, over] at h) | with_reducible refine IfB.ntt ?_ | with_reducible refine IfB.nff ?_ | with_reducible refine IfB.t rfl ?_ | with_reducible refine IfB.f rfl ?_ | with_reducible refine IfB.dt (by omega) ?_ | with_reducible refine IfB.df (by omega) ?_ | with_reducible refine IfB.ndt (by omega) ?_ | with_reducible refine IfB.ndf (by omega) ?_ | with_reducible refine IfB.et (by omega) ?_ | with_reducible refine IfB.ef (by omega) ?_ | with_reducible refine IfB.nt (by omega) ?_ | with_reducible refine IfB.nf (by omega) ?_ | with_reducible refine And.intro (by first | omega | decide) ?_))
          exact k1 _ _ rfl h.tl
        · rw [if_neg hf] at k1 k2 k3
          have hfull : (l ++ [now]).length = 258 := by simp; omega
          refine IfB.df (by simp; omega) ?_
          (repeat (first | with_reducible refine Nw.mk h (fun b w h => ?_) | with_reducible refine Drw.mk h (fun w h => ?_) | with_reducible refine Ld.q h hL rfl rfl ?_ | with_reducible refine LdS.q (fun _ h => h) hL rfl rfl ?_ | with_reducible refine Ld.p h hL ?_ | with_reducible refine LdS.p (fun _ h => h) hL ?_ | with_reducible refine Ld.qw h hL rfl ?_ | with_reducible refine LdS.qw (fun _ h => h) hL rfl ?_ | with_reducible refine And.intro h.hb ?_ | (with_reducible refine St.q h hL rfl rfl rfl (fun w h => ?_); dsimp only [spl, over] at h) | with_reducible refine IfB.ntt ?_ | with_reducible refine IfB.nff ?_ | with_reducible refine IfB.t rfl ?_ | with_reducible refine IfB.f rfl ?_ | with_reducible refine IfB.dt (by omega) ?_ | with_reducible refine IfB.df (by omega) ?_ | with_reducible refine IfB.ndt (by omega) ?_ | with_reducible refine IfB.ndf (by omega) ?_ | with_reducible refine IfB.et (by omega) ?_ | with_reducible refine IfB.ef (by omega) ?_ | with_reducible refine IfB.nt (by omega) ?_ | with_reducible refine IfB.nf (by omega) ?_ | with_reducible refine And.intro (by first | omega | decide) ?_))
          rw [pad_full hfull] at h ⊢
          refine table_c h hfull fun w h => ?_
          refine ⟨h.hb, ?_⟩
          refine StA.q h hz (tbA_size hfull) tbA_scalar fun w h => ⟨h.hb, ?_⟩
          refine Ld.xw h (tbA_size hfull) ?_
          by_cases hok : okT (l ++ [now]) = true
          · rw [if_pos hok] at k1 k2 k3
            rw [hok]
            have := k2 _ (now : Int) _ rfl h.tl
            rw [hfull]
            exact this
          · rw [if_neg hok] at k1 k2 k3
            rw [show okT (l ++ [now]) = false by simpa using hok]
            exact k3 _ _ rfl (tbA_size hfull) tbA_scalar h.tl
      · simp only [if_neg hx0] at k1 k2 k3
        (repeat (first | with_reducible refine Nw.mk h (fun b w h => ?_) | with_reducible refine Drw.mk h (fun w h => ?_) | with_reducible refine Ld.q h hL rfl rfl ?_ | with_reducible refine LdS.q (fun _ h => h) hL rfl rfl ?_ | with_reducible refine Ld.p h hL ?_ | with_reducible refine LdS.p (fun _ h => h) hL ?_ | with_reducible refine Ld.qw h hL rfl ?_ | with_reducible refine LdS.qw (fun _ h => h) hL rfl ?_ | with_reducible refine And.intro h.hb ?_ | (with_reducible refine St.q h hL rfl rfl rfl (fun w h => ?_); dsimp only [spl, over] at h) | with_reducible refine IfB.ntt ?_ | with_reducible refine IfB.nff ?_ | with_reducible refine IfB.t rfl ?_ | with_reducible refine IfB.f rfl ?_ | with_reducible refine IfB.dt (by omega) ?_ | with_reducible refine IfB.df (by omega) ?_ | with_reducible refine IfB.ndt (by omega) ?_ | with_reducible refine IfB.ndf (by omega) ?_ | with_reducible refine IfB.et (by omega) ?_ | with_reducible refine IfB.ef (by omega) ?_ | with_reducible refine IfB.nt (by omega) ?_ | with_reducible refine IfB.nf (by omega) ?_ | with_reducible refine And.intro (by first | omega | decide) ?_))
        exact out (K' := fun w x => K x true w) (pad_len hl) h fun w h => k1 _ _ rfl h
    · simp only [if_neg hb] at k1 k2 k3
      have hb5 : bits = 5 := by omega
      subst hb5
      by_cases hx0 : x = 0
      · subst hx0
        simp only [if_true] at k1 k2 k3
        (repeat (first | with_reducible refine Nw.mk h (fun b w h => ?_) | with_reducible refine Drw.mk h (fun w h => ?_) | with_reducible refine Ld.q h hL rfl rfl ?_ | with_reducible refine LdS.q (fun _ h => h) hL rfl rfl ?_ | with_reducible refine Ld.p h hL ?_ | with_reducible refine LdS.p (fun _ h => h) hL ?_ | with_reducible refine Ld.qw h hL rfl ?_ | with_reducible refine LdS.qw (fun _ h => h) hL rfl ?_ | with_reducible refine And.intro h.hb ?_ | (with_reducible refine St.q h hL rfl rfl rfl (fun w h => ?_); dsimp only [spl, over] at h) | with_reducible refine IfB.ntt ?_ | with_reducible refine IfB.nff ?_ | with_reducible refine IfB.t rfl ?_ | with_reducible refine IfB.f rfl ?_ | with_reducible refine IfB.dt (by omega) ?_ | with_reducible refine IfB.df (by omega) ?_ | with_reducible refine IfB.ndt (by omega) ?_ | with_reducible refine IfB.ndf (by omega) ?_ | with_reducible refine IfB.et (by omega) ?_ | with_reducible refine IfB.ef (by omega) ?_ | with_reducible refine IfB.nt (by omega) ?_ | with_reducible refine IfB.nf (by omega) ?_ | with_reducible refine And.intro (by first | omega | decide) ?_))
        by_cases hw : way = 2
        · subst hw
          (repeat (first | with_reducible refine Nw.mk h (fun b w h => ?_) | with_reducible refine Drw.mk h (fun w h => ?_) | with_reducible refine Ld.q h hL rfl rfl ?_ | with_reducible refine LdS.q (fun _ h => h) hL rfl rfl ?_ | with_reducible refine Ld.p h hL ?_ | with_reducible refine LdS.p (fun _ h => h) hL ?_ | with_reducible refine Ld.qw h hL rfl ?_ | with_reducible refine LdS.qw (fun _ h => h) hL rfl ?_ | with_reducible refine And.intro h.hb ?_ | (with_reducible refine St.q h hL rfl rfl rfl (fun w h => ?_); dsimp only [spl, over] at h) | with_reducible refine IfB.ntt ?_ | with_reducible refine IfB.nff ?_ | with_reducible refine IfB.t rfl ?_ | with_reducible refine IfB.f rfl ?_ | with_reducible refine IfB.dt (by omega) ?_ | with_reducible refine IfB.df (by omega) ?_ | with_reducible refine IfB.ndt (by omega) ?_ | with_reducible refine IfB.ndf (by omega) ?_ | with_reducible refine IfB.et (by omega) ?_ | with_reducible refine IfB.ef (by omega) ?_ | with_reducible refine IfB.nt (by omega) ?_ | with_reducible refine IfB.nf (by omega) ?_ | with_reducible refine And.intro (by first | omega | decide) ?_))
          exact out (K' := fun w x => K x false w) (pad_len hl) h fun w h => k3 _ _ (by simp) (tbA_size (pad_len hl)) tbA_scalar h
        · (repeat (first | with_reducible refine Nw.mk h (fun b w h => ?_) | with_reducible refine Drw.mk h (fun w h => ?_) | with_reducible refine Ld.q h hL rfl rfl ?_ | with_reducible refine LdS.q (fun _ h => h) hL rfl rfl ?_ | with_reducible refine Ld.p h hL ?_ | with_reducible refine LdS.p (fun _ h => h) hL ?_ | with_reducible refine Ld.qw h hL rfl ?_ | with_reducible refine LdS.qw (fun _ h => h) hL rfl ?_ | with_reducible refine And.intro h.hb ?_ | (with_reducible refine St.q h hL rfl rfl rfl (fun w h => ?_); dsimp only [spl, over] at h) | with_reducible refine IfB.ntt ?_ | with_reducible refine IfB.nff ?_ | with_reducible refine IfB.t rfl ?_ | with_reducible refine IfB.f rfl ?_ | with_reducible refine IfB.dt (by omega) ?_ | with_reducible refine IfB.df (by omega) ?_ | with_reducible refine IfB.ndt (by omega) ?_ | with_reducible refine IfB.ndf (by omega) ?_ | with_reducible refine IfB.et (by omega) ?_ | with_reducible refine IfB.ef (by omega) ?_ | with_reducible refine IfB.nt (by omega) ?_ | with_reducible refine IfB.nf (by omega) ?_ | with_reducible refine And.intro (by first | omega | decide) ?_))
          refine out (K' := fun w x => K x (decide ((now : Int) < 15)) w) (pad_len hl) h fun w h => ?_
          have ei : i64 ((now : Int) + 1) = (now : Int) + 1 := i64_id (by omega)
          try rw [ei]
          try rw [i64_id (x := (now : Int) - 1) (by omega)]
          by_cases hn : now < 15
          · rw [if_pos ⟨hw, hn⟩] at k1
            exact as1 (K := fun b w => K _ b w) (decide_eq_true (by omega)) (k1 _ _ rfl h)
          · rw [if_neg (fun hh => hn hh.2)] at k3
            exact as1 (K := fun b w => K _ b w) (decide_eq_false (by omega)) (k3 _ _ rfl (tbA_size (pad_len hl)) tbA_scalar h)
      · have hx1 : x = 1 := by omega
        subst hx1
        simp only [if_neg hx0] at k1 k2 k3
        (repeat (first | with_reducible refine Nw.mk h (fun b w h => ?_) | with_reducible refine Drw.mk h (fun w h => ?_) | with_reducible refine Ld.q h hL rfl rfl ?_ | with_reducible refine LdS.q (fun _ h => h) hL rfl rfl ?_ | with_reducible refine Ld.p h hL ?_ | with_reducible refine LdS.p (fun _ h => h) hL ?_ | with_reducible refine Ld.qw h hL rfl ?_ | with_reducible refine LdS.qw (fun _ h => h) hL rfl ?_ | with_reducible refine And.intro h.hb ?_ | (with_reducible refine St.q h hL rfl rfl rfl (fun w h => ?_); dsimp only [spl, over] at h) | with_reducible refine IfB.ntt ?_ | with_reducible refine IfB.nff ?_ | with_reducible refine IfB.t rfl ?_ | with_reducible refine IfB.f rfl ?_ | with_reducible refine IfB.dt (by omega) ?_ | with_reducible refine IfB.df (by omega) ?_ | with_reducible refine IfB.ndt (by omega) ?_ | with_reducible refine IfB.ndf (by omega) ?_ | with_reducible refine IfB.et (by omega) ?_ | with_reducible refine IfB.ef (by omega) ?_ | with_reducible refine IfB.nt (by omega) ?_ | with_reducible refine IfB.nf (by omega) ?_ | with_reducible refine And.intro (by first | omega | decide) ?_))
        by_cases hw : way = 1
        · subst hw
          (repeat (first | with_reducible refine Nw.mk h (fun b w h => ?_) | with_reducible refine Drw.mk h (fun w h => ?_) | with_reducible refine Ld.q h hL rfl rfl ?_ | with_reducible refine LdS.q (fun _ h => h) hL rfl rfl ?_ | with_reducible refine Ld.p h hL ?_ | with_reducible refine LdS.p (fun _ h => h) hL ?_ | with_reducible refine Ld.qw h hL rfl ?_ | with_reducible refine LdS.qw (fun _ h => h) hL rfl ?_ | with_reducible refine And.intro h.hb ?_ | (with_reducible refine St.q h hL rfl rfl rfl (fun w h => ?_); dsimp only [spl, over] at h) | with_reducible refine IfB.ntt ?_ | with_reducible refine IfB.nff ?_ | with_reducible refine IfB.t rfl ?_ | with_reducible refine IfB.f rfl ?_ | with_reducible refine IfB.dt (by omega) ?_ | with_reducible refine IfB.df (by omega) ?_ | with_reducible refine IfB.ndt (by omega) ?_ | with_reducible refine IfB.ndf (by omega) ?_ | with_reducible refine IfB.et (by omega) ?_ | with_reducible refine IfB.ef (by omega) ?_ | with_reducible refine IfB.nt (by omega) ?_ | with_reducible refine IfB.nf (by omega) ?_ | with_reducible refine And.intro (by first | omega | decide) ?_))
          exact out (K' := fun w x => K x false w) (pad_len hl) h fun w h => k3 _ _ (by simp) (tbA_size (pad_len hl)) tbA_scalar h
        · (repeat (first | with_reducible refine Nw.mk h (fun b w h => ?_) | with_reducible refine Drw.mk h (fun w h => ?_) | with_reducible refine Ld.q h hL rfl rfl ?_ | with_reducible refine LdS.q (fun _ h => h) hL rfl rfl ?_ | with_reducible refine Ld.p h hL ?_ | with_reducible refine LdS.p (fun _ h => h) hL ?_ | with_reducible refine Ld.qw h hL rfl ?_ | with_reducible refine LdS.qw (fun _ h => h) hL rfl ?_ | with_reducible refine And.intro h.hb ?_ | (with_reducible refine St.q h hL rfl rfl rfl (fun w h => ?_); dsimp only [spl, over] at h) | with_reducible refine IfB.ntt ?_ | with_reducible refine IfB.nff ?_ | with_reducible refine IfB.t rfl ?_ | with_reducible refine IfB.f rfl ?_ | with_reducible refine IfB.dt (by omega) ?_ | with_reducible refine IfB.df (by omega) ?_ | with_reducible refine IfB.ndt (by omega) ?_ | with_reducible refine IfB.ndf (by omega) ?_ | with_reducible refine IfB.et (by omega) ?_ | with_reducible refine IfB.ef (by omega) ?_ | with_reducible refine IfB.nt (by omega) ?_ | with_reducible refine IfB.nf (by omega) ?_ | with_reducible refine And.intro (by first | omega | decide) ?_))
          refine out (K' := fun w x => K x (decide ((now : Int) > 0)) w) (pad_len hl) h fun w h => ?_
          have ei : i64 ((now : Int) + 1) = (now : Int) + 1 := i64_id (by omega)
          try rw [ei]
          try rw [i64_id (x := (now : Int) - 1) (by omega)]
          by_cases hn : 0 < now
          · rw [if_pos ⟨hw, hn⟩] at k1
            rw [show (now : Int) - 1 = ((now - 1 : Nat) : Int) by omega]
            exact as1 (K := fun b w => K _ b w) (decide_eq_true (by omega)) (k1 _ _ rfl h)
          · rw [if_neg (fun hh => hn hh.2)] at k3
            exact as1 (K := fun b w => K _ b w) (decide_eq_false (by omega)) (k3 _ _ rfl (tbA_size (pad_len hl)) tbA_scalar h)
end
end Go.Proofs.Ytjnjjibmlalpiaa
/- Tab3 -/
namespace Go.Proofs.Ytjnjjibmlalpiaa
open Go Go.Vc Go.Srt Go.Inc Go.Tab
section
variable {E w : World} {F : List HP}
set_option maxRecDepth 20000
theorem tstep_c {t : TS} {x : Nat} {K : Array Value → Bool → Int → World → Prop} (h : Hp E w F) (ht : TsOk t) (hx : x ≤ 1)
    (hmore : ∀ t' w', tstep okT t x = .more t' → Hp E w' F → K (tbA (pad t'.l) (t'.l.length : Int) (t'.bits : Int) (t'.now : Int) (t'.way : Int)) false 0 w')
    (hfin : ∀ l n w', tstep okT t x = .fin l → Hp E w' F → K (tbA l 258 4 n 0) true 0 w')
    (hbad : ∀ o w', tstep okT t x = .bad 100 → o.size = 262 → o.toList.all scalarB = true → Hp E w' F → K o false 100 w') :
    Cl Try.prog [.arr 262, kB, kI] n_lengthtable_Step ⟨[.agg (tbA (pad t.l) (t.l.length : Int) (t.bits : Int) (t.now : Int) (t.way : Int)), .int .i64 (x : Int)]⟩ w K := by
  have hl : t.l.length < 258 := by
    rcases ht with ⟨_, h, _⟩ | ⟨_, h, _⟩
    · rw [h]; simp
    · omega
  have hL := tbV_len (pad_len (Nat.le_of_lt hl))
  have hz : ((⟨List.replicate 258 (.int .u8 0) ++ [.int .i64 0, .int .i64 0, .int .i64 0, .int .i64 0]⟩ : Array Value)).size = 262 := by simp
  refine lengthtable_Step.ok _ _ _ _ ?_
  unfold lengthtable_Step.E
  (try simp only [Join_eq, NilCk_some, add_mk, Nat.zero_add, Nat.add_zero, Nat.reduceAdd, Bool.not_true, Bool.not_false, IfB_t, IfB_f, Option.isNone])
  refine Nw.mk h fun b4 w h => Nw.mk h fun b6 w h => ?_
  (repeat (first | with_reducible refine Nw.mk h (fun b w h => ?_) | with_reducible refine Drw.mk h (fun w h => ?_) | with_reducible refine Ld.q h hL rfl rfl ?_ | with_reducible refine LdS.q (fun _ h => h) hL rfl rfl ?_ | with_reducible refine Ld.p h hL ?_ | with_reducible refine LdS.p (fun _ h => h) hL ?_ | with_reducible refine Ld.qw h hL rfl ?_ | with_reducible refine LdS.qw (fun _ h => h) hL rfl ?_ | with_reducible refine And.intro h.hb ?_ | (with_reducible refine St.q h hL rfl rfl rfl (fun w h => ?_); dsimp only [spl, over] at h) | with_reducible refine IfB.ntt ?_ | with_reducible refine IfB.nff ?_ | with_reducible refine IfB.t rfl ?_ | with_reducible refine IfB.f rfl ?_ | with_reducible refine IfB.dt (by omega) ?_ | with_reducible refine IfB.df (by omega) ?_ | with_reducible refine IfB.ndt (by omega) ?_ | with_reducible refine IfB.ndf (by omega) ?_ | with_reducible refine IfB.et (by omega) ?_ | with_reducible refine IfB.ef (by omega) ?_ | with_reducible refine IfB.nt (by omega) ?_ | with_reducible refine IfB.nf (by omega) ?_ | with_reducible refine And.intro (by first | omega | decide) ?_))
  refine tvalid_c h ht fun w h => ?_
  (repeat (first | with_reducible refine Nw.mk h (fun b w h => ?_) | with_reducible refine Drw.mk h (fun w h => ?_) | with_reducible refine Ld.q h hL rfl rfl ?_ | with_reducible refine LdS.q (fun _ h => h) hL rfl rfl ?_ | with_reducible refine Ld.p h hL ?_ | with_reducible refine LdS.p (fun _ h => h) hL ?_ | with_reducible refine Ld.qw h hL rfl ?_ | with_reducible refine LdS.qw (fun _ h => h) hL rfl ?_ | with_reducible refine And.intro h.hb ?_ | (with_reducible refine St.q h hL rfl rfl rfl (fun w h => ?_); dsimp only [spl, over] at h) | with_reducible refine IfB.ntt ?_ | with_reducible refine IfB.nff ?_ | with_reducible refine IfB.t rfl ?_ | with_reducible refine IfB.f rfl ?_ | with_reducible refine IfB.dt (by omega) ?_ | with_reducible refine IfB.df (by omega) ?_ | with_reducible refine IfB.ndt (by omega) ?_ | with_reducible refine IfB.ndf (by omega) ?_ | with_reducible refine IfB.et (by omega) ?_ | with_reducible refine IfB.ef (by omega) ?_ | with_reducible refine IfB.nt (by omega) ?_ | with_reducible refine IfB.nf (by omega) ?_ | with_reducible refine And.intro (by first | omega | decide) ?_))
  have e1 : ishr .i64 (x : Int) 1 = 0 := by
    have : x = 0 ∨ x = 1 := by omega
    rcases this with rfl | rfl <;> rfl
  rw [e1]
  (repeat (first | with_reducible refine Nw.mk h (fun b w h => ?_) | with_reducible refine Drw.mk h (fun w h => ?_) | with_reducible refine Ld.q h hL rfl rfl ?_ | with_reducible refine LdS.q (fun _ h => h) hL rfl rfl ?_ | with_reducible refine Ld.p h hL ?_ | with_reducible refine LdS.p (fun _ h => h) hL ?_ | with_reducible refine Ld.qw h hL rfl ?_ | with_reducible refine LdS.qw (fun _ h => h) hL rfl ?_ | with_reducible refine And.intro h.hb ?_ | (with_reducible refine St.q h hL rfl rfl rfl (fun w h => ?_); dsimp only [spl, over] at h) | with_reducible refine IfB.ntt ?_ | with_reducible refine IfB.nff ?_ | with_reducible refine IfB.t rfl ?_ | with_reducible refine IfB.f rfl ?_ | with_reducible refine IfB.dt (by omega) ?_ | with_reducible refine IfB.df (by omega) ?_ | with_reducible refine IfB.ndt (by omega) ?_ | with_reducible refine IfB.ndf (by omega) ?_ | with_reducible refine IfB.et (by omega) ?_ | with_reducible refine IfB.ef (by omega) ?_ | with_reducible refine IfB.nt (by omega) ?_ | with_reducible refine IfB.nf (by omega) ?_ | with_reducible refine And.intro (by first | omega | decide) ?_))
  refine tnext_c h ht hx ⟨fun t' w he h => ?_, fun l n w he h => ?_, fun o w he ho hos h => ?_⟩
  · have ht' := tstep_ok ht hx he
    have hl' : t'.l.length < 258 := by
      rcases ht' with ⟨_, h, _⟩ | ⟨_, h, _⟩
      · rw [h]; simp
      · omega
    have hL := tbV_len (pad_len (Nat.le_of_lt hl'))
    refine StA.q h (tbA_size (pad_len (Nat.le_of_lt hl))) (tbA_size (pad_len (Nat.le_of_lt hl'))) tbA_scalar fun w h => ?_
    (repeat (first | with_reducible refine Nw.mk h (fun b w h => ?_) | with_reducible refine Drw.mk h (fun w h => ?_) | with_reducible refine Ld.q h hL rfl rfl ?_ | with_reducible refine LdS.q (fun _ h => h) hL rfl rfl ?_ | with_reducible refine Ld.p h hL ?_ | with_reducible refine LdS.p (fun _ h => h) hL ?_ | with_reducible refine Ld.qw h hL rfl ?_ | with_reducible refine LdS.qw (fun _ h => h) hL rfl ?_ | with_reducible refine And.intro h.hb ?_ | (with_reducible refine St.q h hL rfl rfl rfl (fun w h => ?_); dsimp only [spl, over] at h) | with_reducible refine IfB.ntt ?_ | with_reducible refine IfB.nff ?_ | with_reducible refine IfB.t rfl ?_ | with_reducible refine IfB.f rfl ?_ | with_reducible refine IfB.dt (by omega) ?_ | with_reducible refine IfB.df (by omega) ?_ | with_reducible refine IfB.ndt (by omega) ?_ | with_reducible refine IfB.ndf (by omega) ?_ | with_reducible refine IfB.et (by omega) ?_ | with_reducible refine IfB.ef (by omega) ?_ | with_reducible refine IfB.nt (by omega) ?_ | with_reducible refine IfB.nf (by omega) ?_ | with_reducible refine And.intro (by first | omega | decide) ?_))
    have h := h.drew (n := w.drawn + 1)
    refine ⟨HoldB b4 _ _ _, h.hb, ?_⟩
    dsimp only
    (repeat (first | with_reducible refine Nw.mk h (fun b w h => ?_) | with_reducible refine Drw.mk h (fun w h => ?_) | with_reducible refine Ld.q h hL rfl rfl ?_ | with_reducible refine LdS.q (fun _ h => h) hL rfl rfl ?_ | with_reducible refine Ld.p h hL ?_ | with_reducible refine LdS.p (fun _ h => h) hL ?_ | with_reducible refine Ld.qw h hL rfl ?_ | with_reducible refine LdS.qw (fun _ h => h) hL rfl ?_ | with_reducible refine And.intro h.hb ?_ | (with_reducible refine St.q h hL rfl rfl rfl (fun w h => ?_); dsimp only [spl, over] at h) | with_reducible refine IfB.ntt ?_ | with_reducible refine IfB.nff ?_ | with_reducible refine IfB.t rfl ?_ | with_reducible refine IfB.f rfl ?_ | with_reducible refine IfB.dt (by omega) ?_ | with_reducible refine IfB.df (by omega) ?_ | with_reducible refine IfB.ndt (by omega) ?_ | with_reducible refine IfB.ndf (by omega) ?_ | with_reducible refine IfB.et (by omega) ?_ | with_reducible refine IfB.ef (by omega) ?_ | with_reducible refine IfB.nt (by omega) ?_ | with_reducible refine IfB.nf (by omega) ?_ | with_reducible refine And.intro (by first | omega | decide) ?_))
    refine StA.q h hz (tbA_size (pad_len (Nat.le_of_lt hl'))) tbA_scalar fun w h => ⟨h.hb, ?_⟩
    (repeat (first | with_reducible refine Nw.mk h (fun b w h => ?_) | with_reducible refine Drw.mk h (fun w h => ?_) | with_reducible refine Ld.q h hL rfl rfl ?_ | with_reducible refine LdS.q (fun _ h => h) hL rfl rfl ?_ | with_reducible refine Ld.p h hL ?_ | with_reducible refine LdS.p (fun _ h => h) hL ?_ | with_reducible refine Ld.qw h hL rfl ?_ | with_reducible refine LdS.qw (fun _ h => h) hL rfl ?_ | with_reducible refine And.intro h.hb ?_ | (with_reducible refine St.q h hL rfl rfl rfl (fun w h => ?_); dsimp only [spl, over] at h) | with_reducible refine IfB.ntt ?_ | with_reducible refine IfB.nff ?_ | with_reducible refine IfB.t rfl ?_ | with_reducible refine IfB.f rfl ?_ | with_reducible refine IfB.dt (by omega) ?_ | with_reducible refine IfB.df (by omega) ?_ | with_reducible refine IfB.ndt (by omega) ?_ | with_reducible refine IfB.ndf (by omega) ?_ | with_reducible refine IfB.et (by omega) ?_ | with_reducible refine IfB.ef (by omega) ?_ | with_reducible refine IfB.nt (by omega) ?_ | with_reducible refine IfB.nf (by omega) ?_ | with_reducible refine And.intro (by first | omega | decide) ?_))
    have e6 : ((t'.l.length : Int) == 258) = false := beq_eq_false_iff_ne.2 (by omega)
    have h6 := hmore t' _ he h.tl
    rw [← e6] at h6
    exact h6
  · have hf := (tstep_fin ht he).1
    have hL := tbV_len hf
    refine StA.q h (tbA_size (pad_len (Nat.le_of_lt hl))) (tbA_size hf) tbA_scalar fun w h => ?_
    (repeat (first | with_reducible refine Nw.mk h (fun b w h => ?_) | with_reducible refine Drw.mk h (fun w h => ?_) | with_reducible refine Ld.q h hL rfl rfl ?_ | with_reducible refine LdS.q (fun _ h => h) hL rfl rfl ?_ | with_reducible refine Ld.p h hL ?_ | with_reducible refine LdS.p (fun _ h => h) hL ?_ | with_reducible refine Ld.qw h hL rfl ?_ | with_reducible refine LdS.qw (fun _ h => h) hL rfl ?_ | with_reducible refine And.intro h.hb ?_ | (with_reducible refine St.q h hL rfl rfl rfl (fun w h => ?_); dsimp only [spl, over] at h) | with_reducible refine IfB.ntt ?_ | with_reducible refine IfB.nff ?_ | with_reducible refine IfB.t rfl ?_ | with_reducible refine IfB.f rfl ?_ | with_reducible refine IfB.dt (by omega) ?_ | with_reducible refine IfB.df (by omega) ?_ | with_reducible refine IfB.ndt (by omega) ?_ | with_reducible refine IfB.ndf (by omega) ?_ | with_reducible refine IfB.et (by omega) ?_ | with_reducible refine IfB.ef (by omega) ?_ | with_reducible refine IfB.nt (by omega) ?_ | with_reducible refine IfB.nf (by omega) ?_ | with_reducible refine And.intro (by first | omega | decide) ?_))
    have h := h.drew (n := w.drawn + 1)
    refine ⟨HoldB b4 _ _ _, h.hb, ?_⟩
    dsimp only
    (repeat (first | with_reducible refine Nw.mk h (fun b w h => ?_) | with_reducible refine Drw.mk h (fun w h => ?_) | with_reducible refine Ld.q h hL rfl rfl ?_ | with_reducible refine LdS.q (fun _ h => h) hL rfl rfl ?_ | with_reducible refine Ld.p h hL ?_ | with_reducible refine LdS.p (fun _ h => h) hL ?_ | with_reducible refine Ld.qw h hL rfl ?_ | with_reducible refine LdS.qw (fun _ h => h) hL rfl ?_ | with_reducible refine And.intro h.hb ?_ | (with_reducible refine St.q h hL rfl rfl rfl (fun w h => ?_); dsimp only [spl, over] at h) | with_reducible refine IfB.ntt ?_ | with_reducible refine IfB.nff ?_ | with_reducible refine IfB.t rfl ?_ | with_reducible refine IfB.f rfl ?_ | with_reducible refine IfB.dt (by omega) ?_ | with_reducible refine IfB.df (by omega) ?_ | with_reducible refine IfB.ndt (by omega) ?_ | with_reducible refine IfB.ndf (by omega) ?_ | with_reducible refine IfB.et (by omega) ?_ | with_reducible refine IfB.ef (by omega) ?_ | with_reducible refine IfB.nt (by omega) ?_ | with_reducible refine IfB.nf (by omega) ?_ | with_reducible refine And.intro (by first | omega | decide) ?_))
    refine StA.q h hz (tbA_size hf) tbA_scalar fun w h => ⟨h.hb, ?_⟩
    (repeat (first | with_reducible refine Nw.mk h (fun b w h => ?_) | with_reducible refine Drw.mk h (fun w h => ?_) | with_reducible refine Ld.q h hL rfl rfl ?_ | with_reducible refine LdS.q (fun _ h => h) hL rfl rfl ?_ | with_reducible refine Ld.p h hL ?_ | with_reducible refine LdS.p (fun _ h => h) hL ?_ | with_reducible refine Ld.qw h hL rfl ?_ | with_reducible refine LdS.qw (fun _ h => h) hL rfl ?_ | with_reducible refine And.intro h.hb ?_ | (with_reducible refine St.q h hL rfl rfl rfl (fun w h => ?_); dsimp only [spl, over] at h) | with_reducible refine IfB.ntt ?_ | with_reducible refine IfB.nff ?_ | with_reducible refine IfB.t rfl ?_ | with_reducible refine IfB.f rfl ?_ | with_reducible refine IfB.dt (by omega) ?_ | with_reducible refine IfB.df (by omega) ?_ | with_reducible refine IfB.ndt (by omega) ?_ | with_reducible refine IfB.ndf (by omega) ?_ | with_reducible refine IfB.et (by omega) ?_ | with_reducible refine IfB.ef (by omega) ?_ | with_reducible refine IfB.nt (by omega) ?_ | with_reducible refine IfB.nf (by omega) ?_ | with_reducible refine And.intro (by first | omega | decide) ?_))
    exact hfin l n _ he h.tl
  · refine StA.q h (tbA_size (pad_len (Nat.le_of_lt hl))) ho hos fun w h => ?_
    (repeat (first | with_reducible refine Nw.mk h (fun b w h => ?_) | with_reducible refine Drw.mk h (fun w h => ?_) | with_reducible refine Ld.q h hL rfl rfl ?_ | with_reducible refine LdS.q (fun _ h => h) hL rfl rfl ?_ | with_reducible refine Ld.p h hL ?_ | with_reducible refine LdS.p (fun _ h => h) hL ?_ | with_reducible refine Ld.qw h hL rfl ?_ | with_reducible refine LdS.qw (fun _ h => h) hL rfl ?_ | with_reducible refine And.intro h.hb ?_ | (with_reducible refine St.q h hL rfl rfl rfl (fun w h => ?_); dsimp only [spl, over] at h) | with_reducible refine IfB.ntt ?_ | with_reducible refine IfB.nff ?_ | with_reducible refine IfB.t rfl ?_ | with_reducible refine IfB.f rfl ?_ | with_reducible refine IfB.dt (by omega) ?_ | with_reducible refine IfB.df (by omega) ?_ | with_reducible refine IfB.ndt (by omega) ?_ | with_reducible refine IfB.ndf (by omega) ?_ | with_reducible refine IfB.et (by omega) ?_ | with_reducible refine IfB.ef (by omega) ?_ | with_reducible refine IfB.nt (by omega) ?_ | with_reducible refine IfB.nf (by omega) ?_ | with_reducible refine And.intro (by first | omega | decide) ?_))
    refine Ld.xw h hz ?_
    refine StA.q h hz hz (by decide) fun w h => ?_
    refine Ld.xw h hz ?_
    exact hbad _ _ he hz (by decide) h.tl
end
end Go.Proofs.Ytjnjjibmlalpiaa
/- Fsymdec -/
namespace Go.Proofs.Ytjnjjibmlalpiaa
open Go Go.Vc
set_option maxRecDepth 100000 in
/-- symdec.New -/
def symdec_New.E (most1 : Int) (R : (Array Value) → World → Prop) (w : World) : Prop :=
 Nw 66 ⟨List.replicate 256 (.int .u8 0) ++ [(.int .i64 0), (.int .i64 0), (.int .i64 0), (.bool false)]⟩ w fun (b3 : Nat) (w_2 : World) =>
 IfB (decide ((most1 : Int) < (1 : Int)))
 (Ld (.arr 260) (⟨b3, 0, none⟩ : Addr) w_2 fun (x4 : (Array Value)) =>
 StA 260 (⟨b3, 0, none⟩ : Addr) x4 w_2 fun (w_5 : World) =>
 Ld (.arr 260) (⟨b3, 0, none⟩ : Addr) w_5 fun (res6 : (Array Value)) =>
 R (res6) w_5)
 (IfB (decide ((most1 : Int) > (65536 : Int)))
 (Ld (.arr 260) (⟨b3, 0, none⟩ : Addr) w_2 fun (x7 : (Array Value)) =>
 StA 260 (⟨b3, 0, none⟩ : Addr) x7 w_2 fun (w_8 : World) =>
 Ld (.arr 260) (⟨b3, 0, none⟩ : Addr) w_8 fun (res9 : (Array Value)) =>
 R (res9) w_8)
 (Cl Try.prog [(.arr 256)] n_mtf_New ⟨[]⟩ w_2 fun (r11 : (Array Value)) (w_10 : World) =>
 Bld Try.prog 66 [(0, (.agg r11)), (1, (.int .i64 most1))] fun (cs12 : Array Value) =>
 StA 260 (⟨b3, 0, none⟩ : Addr) cs12 w_10 fun (w_13 : World) =>
 Ld (.arr 260) (⟨b3, 0, none⟩ : Addr) w_13 fun (res14 : (Array Value)) =>
 R (res14) w_13))
set_option maxRecDepth 100000 in
theorem symdec_New.ok (most1 : Int) (R : (Array Value) → World → Prop) (w : World) (h : symdec_New.E most1 R w) : Cl Try.prog [(.arr 260)] n_symdec_New ⟨[(.int .i64 most1)]⟩ w R :=
  calls_of_eq Try.mix Try.f43 [(.int .i64 most1)] [(.arr 260)] R 13 [.cell 2 66] (by kernel_rfl) (by kernel_rfl) (by kernel_rfl) (by kernel_rfl) (by kernel_rfl)
    (.s .o (.s (.s .o (.c (.s .o .o) .o)) (.s .o .o)))
    (by kernel_rfl) h
set_option maxRecDepth 100000 in
/-- symdec.Step -/
def symdec_Step.E (b1 : (Array Value)) (symbol2 : Int) (R : (Array Value) → Sl → Bool → Int → World → Prop) (w : World) : Prop :=
 Nw 66 b1 w fun (b4 : Nat) (w_3 : World) =>
 Nw 66 ⟨List.replicate 256 (.int .u8 0) ++ [(.int .i64 0), (.int .i64 0), (.int .i64 0), (.bool false)]⟩ w_3 fun (b6 : Nat) (w_5 : World) =>
 Join (fun (w_24 : World) =>
 Ld (.arr 260) (⟨b4, 0, none⟩ : Addr) w_24 fun (x25 : (Array Value)) =>
 Cl Try.prog [(.arr 260), kS, kB] n_symdec_step ⟨[(.agg x25), (.int .i64 symbol2)]⟩ w_24 fun (r27 : (Array Value)) (r28 : Sl) (r29 : Bool) (w_26 : World) =>
 StA 260 (⟨b6, 0, none⟩ : Addr) r27 w_26 fun (w_30 : World) =>
 IfB (!r29)
 (Ld (.arr 260) (⟨b4, 0, none⟩ : Addr) w_30 fun (x31 : (Array Value)) =>
 StA 260 (⟨b6, 0, none⟩ : Addr) x31 w_30 fun (w_32 : World) =>
 Ld (.arr 260) (⟨b6, 0, none⟩ : Addr) w_32 fun (res33 : (Array Value)) =>
 R (res33) ((⟨none, 0, 0⟩ : Sl)) (false) (160) w_32)
 (Ld (.arr 260) (⟨b6, 0, none⟩ : Addr) w_30 fun (x34 : (Array Value)) =>
 Ld kB ((⟨b6, 0, none⟩ : Addr).add 259) w_30 fun (Done35 : Bool) =>
 StA 260 (⟨b6, 0, none⟩ : Addr) x34 w_30 fun (w_36 : World) =>
 Ld (.arr 260) (⟨b6, 0, none⟩ : Addr) w_36 fun (res37 : (Array Value)) =>
 R (res37) (r28) (Done35) (0) w_36)) fun (K_7 : World → Prop) =>
 Ld (.arr 260) (⟨b4, 0, none⟩ : Addr) w_5 fun (x8 : (Array Value)) =>
 Cl Try.prog [kB] n_symdec_Valid ⟨[(.agg x8)]⟩ w_5 fun (r10 : Bool) (w_9 : World) =>
 IfB (!r10)
 (Ld (.arr 260) (⟨b4, 0, none⟩ : Addr) w_9 fun (x11 : (Array Value)) =>
 StA 260 (⟨b6, 0, none⟩ : Addr) x11 w_9 fun (w_12 : World) =>
 Ld (.arr 260) (⟨b6, 0, none⟩ : Addr) w_12 fun (res13 : (Array Value)) =>
 R (res13) ((⟨none, 0, 0⟩ : Sl)) (false) (2) w_12)
 (Ld kB ((⟨b4, 0, none⟩ : Addr).add 259) w_9 fun (Done14 : Bool) =>
 IfB Done14
 (Ld (.arr 260) (⟨b4, 0, none⟩ : Addr) w_9 fun (x15 : (Array Value)) =>
 StA 260 (⟨b6, 0, none⟩ : Addr) x15 w_9 fun (w_16 : World) =>
 Ld (.arr 260) (⟨b6, 0, none⟩ : Addr) w_16 fun (res17 : (Array Value)) =>
 R (res17) ((⟨none, 0, 0⟩ : Sl)) (false) (2) w_16)
 (IfB (decide ((symbol2 : Int) < (0 : Int)))
 (Ld (.arr 260) (⟨b4, 0, none⟩ : Addr) w_9 fun (x18 : (Array Value)) =>
 StA 260 (⟨b6, 0, none⟩ : Addr) x18 w_9 fun (w_19 : World) =>
 Ld (.arr 260) (⟨b6, 0, none⟩ : Addr) w_19 fun (res20 : (Array Value)) =>
 R (res20) ((⟨none, 0, 0⟩ : Sl)) (false) (2) w_19)
 (IfB (decide ((symbol2 : Int) > (257 : Int)))
 (Ld (.arr 260) (⟨b4, 0, none⟩ : Addr) w_9 fun (x21 : (Array Value)) =>
 StA 260 (⟨b6, 0, none⟩ : Addr) x21 w_9 fun (w_22 : World) =>
 Ld (.arr 260) (⟨b6, 0, none⟩ : Addr) w_22 fun (res23 : (Array Value)) =>
 R (res23) ((⟨none, 0, 0⟩ : Sl)) (false) (2) w_22)
 (K_7  w_9))))
set_option maxRecDepth 100000 in
theorem symdec_Step.ok (b1 : (Array Value)) (symbol2 : Int) (R : (Array Value) → Sl → Bool → Int → World → Prop) (w : World) (h : symdec_Step.E b1 symbol2 R w) : Cl Try.prog [(.arr 260), kS, kB, kI] n_symdec_Step ⟨[(.agg b1), (.int .i64 symbol2)]⟩ w R :=
  calls_of_eq Try.mix Try.f45 [(.agg b1), (.int .i64 symbol2)] [(.arr 260), kS, kB, kI] R 39 [.cell 4 66, .tmp 5, .tmp 6, .tmp 7] (by kernel_rfl) (by kernel_rfl) (by kernel_rfl) (by kernel_rfl) (by kernel_rfl)
    (.s .o (.j [] (.s .o (.c (.s .o .o) .o)) (.s .o (.s (.s .o (.c (.s .o .o) .o)) (.s .o .o)))))
    (by kernel_rfl) h
set_option maxRecDepth 100000 in
/-- symdec.Valid -/
def symdec_Valid.E (b1 : (Array Value)) (R : Bool → World → Prop) (w : World) : Prop :=
 Nw 66 b1 w fun (b3 : Nat) (w_2 : World) =>
 Join (fun (w_15 : World) =>
 Ld kI ((⟨b3, 0, none⟩ : Addr).add 258) w_15 fun (Digits16 : Int) =>
 0 ≤ (Digits16 : Int) ∧
 Ld kI ((⟨b3, 0, none⟩ : Addr).add 257) w_15 fun (Run17 : Int) =>
 IfB (decide ((Run17 : Int) < ((i64 (((ishl .i64 (1 : Int) (Digits16 : Int)) : Int) - (1 : Int))) : Int)))
 (R (false) w_15)
 (Ld kI ((⟨b3, 0, none⟩ : Addr).add 257) w_15 fun (Run18 : Int) =>
 IfB (decide ((Run18 : Int) > ((i64 ((2 : Int) * ((i64 (((ishl .i64 (1 : Int) (Digits16 : Int)) : Int) - (1 : Int))) : Int))) : Int)))
 (R (false) w_15)
 (Ld kB ((⟨b3, 0, none⟩ : Addr).add 259) w_15 fun (Done19 : Bool) =>
 IfB (!Done19)
 (R (true) w_15)
 (Ld (.arr 260) (⟨b3, 0, none⟩ : Addr) w_15 fun (x20 : (Array Value)) =>
 Ld (.arr 256) ((⟨b3, 0, none⟩ : Addr).add 0) w_15 fun (List21 : (Array Value)) =>
 Bld Try.prog 66 [(0, (.agg List21)), (4, (.bool true))] fun (cs22 : Array Value) =>
 EqW Try.prog 66 x20 cs22 fun (eq23 : Bool) =>
 R (eq23) w_15)))) fun (K_4 : World → Prop) =>
 Ld (.arr 256) ((⟨b3, 0, none⟩ : Addr).add 0) w_2 fun (List5 : (Array Value)) =>
 Cl Try.prog [kB] n_mtf_Valid ⟨[(.agg List5)]⟩ w_2 fun (r7 : Bool) (w_6 : World) =>
 IfB (!r7)
 (R (false) w_6)
 (Ld kI ((⟨b3, 0, none⟩ : Addr).add 256) w_6 fun (Left8 : Int) =>
 IfB (decide ((Left8 : Int) < (0 : Int)))
 (R (false) w_6)
 (Ld kI ((⟨b3, 0, none⟩ : Addr).add 256) w_6 fun (Left9 : Int) =>
 IfB (decide ((Left9 : Int) > (65536 : Int)))
 (R (false) w_6)
 (Ld kI ((⟨b3, 0, none⟩ : Addr).add 257) w_6 fun (Run10 : Int) =>
 IfB (decide ((Run10 : Int) < (0 : Int)))
 (R (false) w_6)
 (Ld kI ((⟨b3, 0, none⟩ : Addr).add 257) w_6 fun (Run11 : Int) =>
 Ld kI ((⟨b3, 0, none⟩ : Addr).add 256) w_6 fun (Left12 : Int) =>
 IfB (decide ((Run11 : Int) > (Left12 : Int)))
 (R (false) w_6)
 (Ld kI ((⟨b3, 0, none⟩ : Addr).add 258) w_6 fun (Digits13 : Int) =>
 IfB (decide ((Digits13 : Int) < (0 : Int)))
 (R (false) w_6)
 (Ld kI ((⟨b3, 0, none⟩ : Addr).add 258) w_6 fun (Digits14 : Int) =>
 IfB (decide ((Digits14 : Int) > (16 : Int)))
 (R (false) w_6)
 (K_4  w_6)))))))
set_option maxRecDepth 100000 in
theorem symdec_Valid.ok (b1 : (Array Value)) (R : Bool → World → Prop) (w : World) (h : symdec_Valid.E b1 R w) : Cl Try.prog [kB] n_symdec_Valid ⟨[(.agg b1)]⟩ w R :=
  calls_of_eq Try.mix Try.f63 [(.agg b1)] [kB] R 65 [.tmp 2] (by kernel_rfl) (by kernel_rfl) (by kernel_rfl) (by kernel_rfl) (by kernel_rfl)
    (.s .o (.j [] (.s .o (.c (.s .o .o) .o)) (.s .o (.s (.s .o (.c (.s .o .o) .o)) (.s .o .o)))))
    (by kernel_rfl) h
set_option maxRecDepth 100000 in
/-- symdec.step -/
def symdec_step.E (b1 : (Array Value)) (symbol2 : Int) (R : (Array Value) → Sl → Bool → World → Prop) (w : World) : Prop :=
 Nw 66 b1 w fun (b4 : Nat) (w_3 : World) =>
 Nw 66 ⟨List.replicate 256 (.int .u8 0) ++ [(.int .i64 0), (.int .i64 0), (.int .i64 0), (.bool false)]⟩ w_3 fun (b6 : Nat) (w_5 : World) =>
 Join (fun (t10_8 : Bool) (w_9 : World) =>
 IfB t10_8
 (Ld kI ((⟨b4, 0, none⟩ : Addr).add 257) w_9 fun (Run10 : Int) =>
 Ld kI ((⟨b4, 0, none⟩ : Addr).add 258) w_9 fun (Digits11 : Int) =>
 Cl Try.prog [kI, kI] n_zerorun_Add ⟨[(.int .i64 Run10), (.int .i64 Digits11), (.int .i64 symbol2)]⟩ w_9 fun (r13 : Int) (r14 : Int) (w_12 : World) =>
 St ((⟨b4, 0, none⟩ : Addr).add 257) (.int .i64 r13) w_12 fun (w_15 : World) =>
 Ld kI ((⟨b4, 0, none⟩ : Addr).add 258) w_15 fun (Digits16 : Int) =>
 St ((⟨b4, 0, none⟩ : Addr).add 258) (.int .i64 (i64 ((Digits16 : Int) + (1 : Int)))) w_15 fun (w_17 : World) =>
 Held w_17 fun (S18 : World → Prop) (w_19 : World) =>
 LdS (.arr 260) (⟨b4, 0, none⟩ : Addr) S18 fun (x20 : (Array Value)) =>
 LdS kI ((⟨b4, 0, none⟩ : Addr).add 257) S18 fun (Run21 : Int) =>
 LdS kI ((⟨b4, 0, none⟩ : Addr).add 256) S18 fun (Left22 : Int) =>
 StA 260 (⟨b6, 0, none⟩ : Addr) x20 w_19 fun (w_23 : World) =>
 S18 w_23 ∧
 Ld (.arr 260) (⟨b6, 0, none⟩ : Addr) w_23 fun (res24 : (Array Value)) =>
 R (res24) ((⟨none, 0, 0⟩ : Sl)) ((decide ((Run21 : Int) ≤ (Left22 : Int)))) w_23)
 (IfB ((symbol2 : Int) == (257 : Int))
 (Held w_9 fun (S25 : World → Prop) (w_26 : World) =>
 LdS (.arr 256) ((⟨b4, 0, none⟩ : Addr).add 0) S25 fun (List27 : (Array Value)) =>
 Bld Try.prog 66 [(0, (.agg List27)), (4, (.bool true))] fun (cs28 : Array Value) =>
 LdS (.arr 260) (⟨b4, 0, none⟩ : Addr) S25 fun (x29 : (Array Value)) =>
 LdS kI ((⟨b4, 0, none⟩ : Addr).add 257) S25 fun (Run30 : Int) =>
 LdS kI ((⟨b4, 0, none⟩ : Addr).add 256) S25 fun (Left31 : Int) =>
 Cl Try.prog [kS] n_symdec_run ⟨[(.agg x29)]⟩ w_26 fun (r33 : Sl) (w_32 : World) =>
 S25 w_32 ∧
 StA 260 (⟨b6, 0, none⟩ : Addr) cs28 w_32 fun (w_34 : World) =>
 S25 w_34 ∧
 Ld (.arr 260) (⟨b6, 0, none⟩ : Addr) w_34 fun (res35 : (Array Value)) =>
 R (res35) (r33) (((Run30 : Int) == (Left31 : Int))) w_34)
 (Ld kI ((⟨b4, 0, none⟩ : Addr).add 257) w_9 fun (Run36 : Int) =>
 Ld kI ((⟨b4, 0, none⟩ : Addr).add 256) w_9 fun (Left37 : Int) =>
 IfB ((Run36 : Int) == (Left37 : Int))
 (Ld (.arr 260) (⟨b4, 0, none⟩ : Addr) w_9 fun (x38 : (Array Value)) =>
 StA 260 (⟨b6, 0, none⟩ : Addr) x38 w_9 fun (w_39 : World) =>
 Ld (.arr 260) (⟨b6, 0, none⟩ : Addr) w_39 fun (res40 : (Array Value)) =>
 R (res40) ((⟨none, 0, 0⟩ : Sl)) (false) w_39)
 (Ld (.arr 256) ((⟨b4, 0, none⟩ : Addr).add 0) w_9 fun (List41 : (Array Value)) =>
 Cl Try.prog [(.arr 256), (kInt .u8), kB] n_mtf_Take ⟨[(.agg List41), (.int .i64 (i64 ((symbol2 : Int) - (1 : Int))))]⟩ w_9 fun (r43 : (Array Value)) (r44 : Int) (r45 : Bool) (w_42 : World) =>
 Nw 64 ⟨List.replicate 256 (.int .u8 0)⟩ w_42 fun (b47 : Nat) (w_46 : World) =>
 StA 256 (⟨b47, 0, none⟩ : Addr) r43 w_46 fun (w_48 : World) =>
 Ld (.arr 260) (⟨b4, 0, none⟩ : Addr) w_48 fun (x49 : (Array Value)) =>
 Cl Try.prog [kS] n_symdec_run ⟨[(.agg x49)]⟩ w_48 fun (r51 : Sl) (w_50 : World) =>
 Nw 5 ⟨[(.int .u8 r44)]⟩ w_50 fun (b53 : Nat) (w_52 : World) =>
 Run Try.prog (Builtin.append_ #[25, 25] 25 ⟨[(.slice r51.base r51.len r51.cap), (.slice (⟨some ⟨b53, 0, none⟩, 1, 1⟩ : Sl).base (⟨some ⟨b53, 0, none⟩, 1, 1⟩ : Sl).len (⟨some ⟨b53, 0, none⟩, 1, 1⟩ : Sl).cap)]⟩) kS w_52 fun (s55 : Sl) (w_54 : World) =>
 Ld (.arr 256) (⟨b47, 0, none⟩ : Addr) w_54 fun (x56 : (Array Value)) =>
 Ld kI ((⟨b4, 0, none⟩ : Addr).add 256) w_54 fun (Left57 : Int) =>
 Bld Try.prog 66 [(0, (.agg x56)), (1, (.int .i64 (i64 ((Left57 : Int) - ((s55.len : Int) : Int)))))] fun (cs58 : Array Value) =>
 StA 260 (⟨b6, 0, none⟩ : Addr) cs58 w_54 fun (w_59 : World) =>
 Ld (.arr 260) (⟨b6, 0, none⟩ : Addr) w_59 fun (res60 : (Array Value)) =>
 R (res60) (s55) (true) w_59)))) fun (K_7 : Bool → World → Prop) =>
 IfB ((symbol2 : Int) == (0 : Int))
 (K_7 (true) w_5)
 (K_7 (((symbol2 : Int) == (1 : Int))) w_5)
set_option maxRecDepth 100000 in
theorem symdec_step.ok (b1 : (Array Value)) (symbol2 : Int) (R : (Array Value) → Sl → Bool → World → Prop) (w : World) (h : symdec_step.E b1 symbol2 R w) : Cl Try.prog [(.arr 260), kS, kB] n_symdec_step ⟨[(.agg b1), (.int .i64 symbol2)]⟩ w R :=
  calls_of_eq Try.mix Try.f64 [(.agg b1), (.int .i64 symbol2)] [(.arr 260), kS, kB] R 79 [.cell 4 66, .tmp 5, .tmp 6] (by kernel_rfl) (by kernel_rfl) (by kernel_rfl) (by kernel_rfl) (by kernel_rfl)
    (.s .o (.s (.b (.j [(10, kB)] .o (.c (.s .o (.s .o (.s .o .o))) (.s .o (.c (.s .o .o) (.s .o (.c (.s .o .o) .o))))))) (.s .o (.s .o (.s .o .o)))))
    (by kernel_rfl) h
/-- symdec.run -/
def symdec_run.E (b1 : (Array Value)) (R : Sl → World → Prop) (w : World) : Prop :=
 Nw 66 b1 w fun (b3 : Nat) (w_2 : World) =>
 Drw w_2 fun (w_4 : World) =>
 Slc (⟨some ((⟨b3, 0, none⟩ : Addr).add 0), 256, 256⟩ : Sl) 0 1 256 1 fun (s5 : Sl) =>
 Ld kI ((⟨b3, 0, none⟩ : Addr).add 257) w_4 fun (Run6 : Int) =>
 Cl Try.prog [kS] n_bytes_Repeat ⟨[(.slice s5.base s5.len s5.cap), (.int .i64 Run6)]⟩ w_4 fun (r8 : Sl) (w_7 : World) =>
 R (r8) w_7
theorem symdec_run.ok (b1 : (Array Value)) (R : Sl → World → Prop) (w : World) (h : symdec_run.E b1 R w) : Cl Try.prog [kS] n_symdec_run ⟨[(.agg b1)]⟩ w R :=
  calls_of_eq Try.mix Try.f78 [(.agg b1)] [kS] R 8 [.tmp 2] (by kernel_rfl) (by kernel_rfl) (by kernel_rfl) (by kernel_rfl) (by kernel_rfl)
    (.s .o (.s .o .o))
    (by kernel_rfl) h
end Go.Proofs.Ytjnjjibmlalpiaa
/- Fbytes -/
namespace Go.Proofs.Ytjnjjibmlalpiaa
open Go Go.Vc
set_option maxRecDepth 100000 in
/-- bytes.Equal -/
def bytes_Equal.E (a1 : Sl) (b2 : Sl) (R : Bool → World → Prop) (w : World) : Prop :=
 Run Try.prog (convert 25 9 (.slice a1.base a1.len a1.cap)) kStr w fun (s4 : ByteArray) (w_3 : World) =>
 Run Try.prog (convert 25 9 (.slice b2.base b2.len b2.cap)) kStr w_3 fun (s6 : ByteArray) (w_5 : World) =>
 R (((s4).toList == (s6).toList)) w_5
set_option maxRecDepth 100000 in
theorem bytes_Equal.ok (a1 : Sl) (b2 : Sl) (R : Bool → World → Prop) (w : World) (h : bytes_Equal.E a1 b2 R w) : Cl Try.prog [kB] n_bytes_Equal ⟨[(.slice a1.base a1.len a1.cap), (.slice b2.base b2.len b2.cap)]⟩ w R :=
  calls_of_eq Try.mix Try.f36 [(.slice a1.base a1.len a1.cap), (.slice b2.base b2.len b2.cap)] [kB] R 10 [.tmp 4] (by kernel_rfl) (by kernel_rfl) (by kernel_rfl) (by kernel_rfl) (by kernel_rfl)
    (.s .o (.s .o .o))
    (by kernel_rfl) h
set_option maxRecDepth 100000 in
/-- bytes.Repeat -/
def bytes_Repeat.E (b1 : Sl) (count2 : Int) (R : Sl → World → Prop) (w : World) : Prop :=
 IfB ((count2 : Int) == (0 : Int))
 (Nw 5 ⟨[]⟩ w fun (b4 : Nat) (w_3 : World) =>
 R ((⟨some ⟨b4, 0, none⟩, 0, 0⟩ : Sl)) w_3)
 (Join (fun (w_7 : World) =>
 Cl Try.prog [(kInt .u64), (kInt .u64)] n_math_bits_Mul ⟨[(.int .u64 (u64 (b1.len : Int))), (.int .u64 (u64 count2))]⟩ w_7 fun (r9 : Int) (r10 : Int) (w_8 : World) =>
 Join (fun (w_14 : World) =>
 IfB (((b1.len : Int) : Int) == (0 : Int))
 (Nw 5 ⟨[]⟩ w_14 fun (b16 : Nat) (w_15 : World) =>
 R ((⟨some ⟨b16, 0, none⟩, 0, 0⟩ : Sl)) w_15)
 (Join (fun (chunkMax18 : Int) (w_19 : World) =>
 Ext Try.prog n_internal_bytealg_MakeNoZero ⟨[(.int .i64 (i64 r10))]⟩ [kS] w_19 fun (r21 : Sl) (w_20 : World) =>
 Slc r21 0 (i64 r10) (i64 r10) 1 fun (s22 : Sl) =>
 Run Try.prog (Builtin.copy_ #[25, 25] 3 ⟨[(.slice s22.base s22.len s22.cap), (.slice b1.base b1.len b1.cap)]⟩) kI w_20 fun (n24 : Int) (w_23 : World) =>
 ∃ (I_25 : Int → World → Prop) (m_26 : Int → World → Nat), I_25 (n24) w_23 ∧
 ∀ (bp27 : Int), ∀ (w_28 : World), I_25 bp27 w_28 →
 IfB (decide ((bp27 : Int) < ((i64 r10) : Int)))
 (Drw w_28 fun (w_29 : World) =>
 Slc s22 bp27 (s22).len (s22).cap 1 fun (s30 : Sl) =>
 Slc s22 0 (if (chunkMax18 : Int) < (bp27 : Int) then (chunkMax18 : Int) else (bp27 : Int)) (s22).cap 1 fun (s31 : Sl) =>
 Run Try.prog (Builtin.copy_ #[25, 25] 3 ⟨[(.slice s30.base s30.len s30.cap), (.slice s31.base s31.len s31.cap)]⟩) kI w_29 fun (n33 : Int) (w_32 : World) =>
 I_25 ((i64 ((bp27 : Int) + (n33 : Int)))) w_32 ∧ m_26 ((i64 ((bp27 : Int) + (n33 : Int)))) w_32 < m_26 bp27 w_28)
 (R (s22) w_28)) fun (K_17 : Int → World → Prop) =>
 IfB (decide (((i64 r10) : Int) > (8192 : Int)))
 (((b1.len : Int) : Int) ≠ 0 ∧
 IfB (((i64 (((i64 (Int.tdiv (8192 : Int) ((b1.len : Int) : Int))) : Int) * ((b1.len : Int) : Int))) : Int) == (0 : Int))
 (K_17 ((b1.len : Int)) w_14)
 (K_17 ((i64 (((i64 (Int.tdiv (8192 : Int) ((b1.len : Int) : Int))) : Int) * ((b1.len : Int) : Int)))) w_14))
 (K_17 ((i64 r10)) w_14))) fun (K_11 : World → Prop) =>
 IfB (decide ((r9 : Int) > (0 : Int)))
 (False)
 (IfB (decide ((r10 : Int) > (9223372036854775807 : Int)))
 (False)
 (K_11  w_8))) fun (K_5 : World → Prop) =>
 IfB (decide ((count2 : Int) < (0 : Int)))
 (False)
 (K_5  w))
set_option maxRecDepth 100000 in
theorem bytes_Repeat.ok (b1 : Sl) (count2 : Int) (R : Sl → World → Prop) (w : World) (h : bytes_Repeat.E b1 count2 R w) : Cl Try.prog [kS] n_bytes_Repeat ⟨[(.slice b1.base b1.len b1.cap), (.int .i64 count2)]⟩ w R :=
  calls_of_eq Try.mix Try.f83 [(.slice b1.base b1.len b1.cap), (.int .i64 count2)] [kS] R 77 [.tmp 4] (by kernel_rfl) (by kernel_rfl) (by kernel_rfl) (by kernel_rfl) (by kernel_rfl)
    (.s .o (.s (.s .o (.c (.s .o .o) .o)) (.j [] (.s .o (.c .o .o)) (.s .o (.j [] (.s .o (.c .o .o)) (.s .o (.s (.s .o (.c (.s .o .o) .o)) (.s .o (.j [(8, kI)] (.s .o (.c (.s .o (.s .o (.c .o .o))) .o)) (.s .o (.s .o (.s (.b (.l [(10, kI)] (.s (.s .o (.c .o .o)) (.b (.s .o .o))))) (.s .o .o)))))))))))))
    (by kernel_rfl) h
end Go.Proofs.Ytjnjjibmlalpiaa
/- Fmath -/
namespace Go.Proofs.Ytjnjjibmlalpiaa
open Go Go.Vc
/-- math/bits.Mul -/
def math_bits_Mul.E (x1 : Int) (y2 : Int) (R : Int → Int → World → Prop) (w : World) : Prop :=
 Cl Try.prog [(kInt .u64), (kInt .u64)] n_math_bits_Mul64 ⟨[(.int .u64 x1), (.int .u64 y2)]⟩ w fun (r4 : Int) (r5 : Int) (w_3 : World) =>
 R (r4) (r5) w_3
theorem math_bits_Mul.ok (x1 : Int) (y2 : Int) (R : Int → Int → World → Prop) (w : World) (h : math_bits_Mul.E x1 y2 R w) : Cl Try.prog [(kInt .u64), (kInt .u64)] n_math_bits_Mul ⟨[(.int .u64 x1), (.int .u64 y2)]⟩ w R :=
  calls_of_eq Try.mix Try.f85 [(.int .u64 x1), (.int .u64 y2)] [(kInt .u64), (kInt .u64)] R 30 [.tmp 4, .tmp 5] (by kernel_rfl) (by kernel_rfl) (by kernel_rfl) (by kernel_rfl) (by kernel_rfl)
    (.s .o (.s (.c (.s .o (.s .o .o)) .o) (.s .o (.s .o .o))))
    (by kernel_rfl) h
/-- math/bits.Mul32 -/
def math_bits_Mul32.E (x1 : Int) (y2 : Int) (R : Int → Int → World → Prop) (w : World) : Prop :=
 0 ≤ (32 : Int) ∧
 R ((u32 (ishr .u64 ((u64 (((u64 x1) : Int) * ((u64 y2) : Int))) : Int) (32 : Int)))) ((u32 (u64 (((u64 x1) : Int) * ((u64 y2) : Int))))) w
theorem math_bits_Mul32.ok (x1 : Int) (y2 : Int) (R : Int → Int → World → Prop) (w : World) (h : math_bits_Mul32.E x1 y2 R w) : Cl Try.prog [(kInt .u32), (kInt .u32)] n_math_bits_Mul32 ⟨[(.int .u32 x1), (.int .u32 y2)]⟩ w R :=
  calls_of_eq Try.mix Try.f87 [(.int .u32 x1), (.int .u32 y2)] [(kInt .u32), (kInt .u32)] R 17 [.tmp 4, .tmp 5] (by kernel_rfl) (by kernel_rfl) (by kernel_rfl) (by kernel_rfl) (by kernel_rfl)
    (.s .o (.s .o (.s .o .o)))
    (by kernel_rfl) h
/-- math/bits.Mul64 -/
def math_bits_Mul64.E (x1 : Int) (y2 : Int) (R : Int → Int → World → Prop) (w : World) : Prop :=
 0 ≤ (32 : Int) ∧
 0 ≤ (32 : Int) ∧
 0 ≤ (32 : Int) ∧
 0 ≤ (32 : Int) ∧
 0 ≤ (32 : Int) ∧
 R ((u64 (((u64 (((u64 (((ishr .u64 (x1 : Int) (32 : Int)) : Int) * ((ishr .u64 (y2 : Int) (32 : Int)) : Int))) : Int) + ((ishr .u64 ((u64 (((u64 (((ishr .u64 (x1 : Int) (32 : Int)) : Int) * ((iand .u64 (y2 : Int) (4294967295 : Int)) : Int))) : Int) + ((ishr .u64 ((u64 (((iand .u64 (x1 : Int) (4294967295 : Int)) : Int) * ((iand .u64 (y2 : Int) (4294967295 : Int)) : Int))) : Int) (32 : Int)) : Int))) : Int) (32 : Int)) : Int))) : Int) + ((ishr .u64 ((u64 (((iand .u64 ((u64 (((u64 (((ishr .u64 (x1 : Int) (32 : Int)) : Int) * ((iand .u64 (y2 : Int) (4294967295 : Int)) : Int))) : Int) + ((ishr .u64 ((u64 (((iand .u64 (x1 : Int) (4294967295 : Int)) : Int) * ((iand .u64 (y2 : Int) (4294967295 : Int)) : Int))) : Int) (32 : Int)) : Int))) : Int) (4294967295 : Int)) : Int) + ((u64 (((iand .u64 (x1 : Int) (4294967295 : Int)) : Int) * ((ishr .u64 (y2 : Int) (32 : Int)) : Int))) : Int))) : Int) (32 : Int)) : Int)))) ((u64 ((x1 : Int) * (y2 : Int)))) w
theorem math_bits_Mul64.ok (x1 : Int) (y2 : Int) (R : Int → Int → World → Prop) (w : World) (h : math_bits_Mul64.E x1 y2 R w) : Cl Try.prog [(kInt .u64), (kInt .u64)] n_math_bits_Mul64 ⟨[(.int .u64 x1), (.int .u64 y2)]⟩ w R :=
  calls_of_eq Try.mix Try.f88 [(.int .u64 x1), (.int .u64 y2)] [(kInt .u64), (kInt .u64)] R 51 [.tmp 4, .tmp 5] (by kernel_rfl) (by kernel_rfl) (by kernel_rfl) (by kernel_rfl) (by kernel_rfl)
    (.s .o (.s .o (.s .o (.s .o (.s .o (.s .o (.s .o (.s .o (.s .o (.s .o (.s .o (.s .o .o))))))))))))
    (by kernel_rfl) h
end Go.Proofs.Ytjnjjibmlalpiaa
/- Copy -/
namespace Go.Vc
open Go
section
variable {P : Program} {E w : World} {l : List HP} {b o : Nat} {c : Array Value} {t : TypeId} {fr : Nat × Nat} {put : Obj → List HP}
theorem Hp.setRowB {F : List HP} {cs : Array Value} {fr : Nat × Nat} (h : Hp E w (Blk b (.cells c t fr) :: F)) : Hp E (w.setRow b cs) (Blk b (.cells cs t fr) :: F) := by
  have hb := h.blk
  refine h.setObj (o' := .cells cs t fr) ?_ rfl rfl rfl
  apply Array.ext_getElem?
  intro r
  have hlt : b < w.heap.size := by
    rcases Nat.lt_or_ge b w.heap.size with hh | hh
    · exact hh
    · simp [Array.getElem?_eq_none hh] at hb
  simp only [World.setRow, Array.getElem?_modify, Array.set!_eq_setIfInBounds, Array.getElem?_setIfInBounds]
  by_cases hr : b = r
  · subst hr
    have hv : w.heap[b] = .cells c t fr := by simpa [hlt] using hb
    simp [hlt, hv]
  · simp [hr]
/-- copy into a part of a block -/
theorem run_copyB {dT sT ty e : TypeId} {dLen dCap : Nat} {s : Sl} {ys : List Value} {K : Int → World → Prop} [hf : FindB b l c t (0, 0) put] (hu : P.underlying dT = some (.slice e)) (hs : (P.info? e).map (·.size) = some 1)
    (h : Hp E w l) (hsrc : SlT 1 s ys w) (hsc : ∀ v ∈ ys, scalarB v = true) (hfit : o + dLen ≤ c.size)
    (hK : ∀ w', Hp E w' (put (.cells ⟨c.toList.take o ++ (ys.take dLen ++ c.toList.drop (o + min ys.length dLen))⟩ t (0, 0))) → K ((min ys.length dLen : Nat) : Int) w') :
    Run P (Builtin.copy_ #[dT, sT] ty ⟨[.slice (some ⟨b, o, none⟩) dLen dCap, .slice s.base s.len s.cap]⟩) kI w K := by
  have hl := hsrc.1
  rw [Nat.mul_one] at hl
  obtain ⟨r, h1, h2⟩ := hf.perm
  have hh := h.perm h1
  unfold Run
  by_cases h0 : min ys.length dLen = 0
  · rw [show (⟨[.slice (some ⟨b, o, none⟩) dLen dCap, .slice s.base s.len s.cap]⟩ : Array Value) = #[.slice (some ⟨b, o, none⟩) dLen dCap, .slice s.base s.len s.cap] from rfl, run_copy_none (P := P) w dT sT ty e _ _ _ _ _ _ hu hs (by rw [← hl]; exact h0)]
    have hk := hK w
    rw [h0] at hk
    have e1 : ys.take dLen = [] := by
      rcases Nat.eq_zero_or_pos dLen with hd | hd
      · rw [hd]; rfl
      · have : ys = [] := List.length_eq_zero_iff.1 (by omega)
        rw [this]; simp
    rw [e1, List.nil_append, Nat.add_zero, List.take_append_drop] at hk
    exact hk (hh.perm (by have := h2 (.cells c t (0, 0)); simpa using this))
  · have hpos : 0 < ys.length := by omega
    obtain ⟨p, hp, _⟩ := hsrc.2 0 hpos
    rw [hp]
    have hmin : (ys.take dLen).length = Nat.min s.len dLen := by
      rw [List.length_take, ← hl, Nat.min_comm]
    have := run_copy_row (P := P) w dT sT ty e b o dLen dCap p s.len s.cap c t (ys.take dLen) hu hs hh.blk hmin (fun j v hv => ?_) (by
      
      rw [List.length_take]; omega) (fun v hv => scalar_one (hsc v (List.mem_of_mem_take hv)))
    · rw [show (⟨[.slice (some ⟨b, o, none⟩) dLen dCap, .slice (some p) s.len s.cap]⟩ : Array Value) = #[.slice (some ⟨b, o, none⟩) dLen dCap, .slice (some p) s.len s.cap] from rfl, this]
      have hlen : (ys.take dLen).length = min ys.length dLen := by rw [List.length_take, Nat.min_comm]
      rw [hlen, List.append_assoc]
      exact hK _ ((hh.setRowB).perm (h2 _))
    · have hj : j < (ys.take dLen).length := by
        rcases Nat.lt_or_ge j (ys.take dLen).length with h | h
        · exact h
        · rw [List.getElem?_eq_none h] at hv; cases hv
      rw [List.length_take] at hj
      obtain ⟨p', hp', hc⟩ := hsrc.2 j (by omega)
      rw [hp] at hp'
      cases hp'
      rw [hc]
      rw [List.getElem?_take_of_lt (by omega), List.getElem?_eq_getElem (by omega)] at hv
      exact hv
end
end Go.Vc
/- Rep -/
namespace Go.Vc
open Go
section
variable {E w : World} {l : List HP} {b : Nat} {c : Array Value} {t : TypeId} {fr : Nat × Nat} {put : Obj → List HP}
/-- a block's beginning as a slice -/
theorem Hp.slB {n m : Nat} {xs : List Value} [FindB b l c t fr put] (h : Hp E w l) (hl : xs.length = n) (hx : ∀ i (hi : i < xs.length), c[i]? = some xs[i]) : SlT 1 ⟨some ⟨b, 0, none⟩, n, m⟩ xs w :=
  ⟨by simpa using hl, fun i hi => ⟨_, rfl, by rw [add_mk, h.fc, Nat.zero_add]; exact hx i hi⟩⟩
end
end Go.Vc
namespace Go.Proofs.Ytjnjjibmlalpiaa
open Go Go.Vc
section
variable {E w : World} {F : List HP}
theorem mul1_c {n : Nat} {K : Int → Int → World → Prop} (hn : n ≤ 4294967295) (hK : K 0 (n : Int) w) : Cl Try.prog [kInt .u64, kInt .u64] n_math_bits_Mul ⟨[.int .u64 1, .int .u64 (n : Int)]⟩ w K := by
  refine math_bits_Mul.ok _ _ _ _ ?_
  unfold math_bits_Mul.E
  refine math_bits_Mul64.ok _ _ _ _ ?_
  unfold math_bits_Mul64.E
  refine ⟨by decide, by decide, by decide, by decide, by decide, ?_⟩
  have hmx : IntKind.max .u64 = 18446744073709551615 := rfl
  have e1 : ishr .u64 1 32 = 0 := by decide
  have e2 : ishr .u64 (n : Int) 32 = 0 := by
    have := ishr_nat (k := .u64) (a := n) (b := 32) (by decide)
    rw [Nat.div_eq_of_lt (by omega)] at this
    simpa using this
  have e3 : iand .u64 1 4294967295 = 1 := by decide
  have e4 : iand .u64 (n : Int) 4294967295 = (n : Int) := by
    have := iand_nat (k := .u64) (a := n) (b := 4294967295) (by rw [hmx]; omega) (by rw [hmx]; omega)
    rw [show n &&& 4294967295 = n % 2 ^ 32 from Nat.and_two_pow_sub_one_eq_mod n 32, Nat.mod_eq_of_lt (by omega)] at this
    simpa using this
  have e5 : u64 (n : Int) = (n : Int) := u64_id (by omega)
  have e6 : u64 0 = 0 := by decide
  have e7 : ishr .u64 0 32 = 0 := by decide
  have e8 : iand .u64 0 4294967295 = 0 := by decide
  simp only [e1, e2, e3, e4, Int.zero_mul, Int.one_mul, Int.mul_zero, e5, e6, Int.add_zero, e7, e8]
  exact hK
set_option maxRecDepth 20000
theorem und25 : Try.prog.underlying 25 = some (.slice 5) := by kernel_rfl
theorem sz8 : (Try.prog.info? 5).map (·.size) = some 1 := by kernel_rfl
theorem makeNZ_c {n : Nat} {K : Sl → World → Prop} (h : Hp E w F) (hn : n ≤ 65536) (hK : ∀ b cs w', n ≤ cs.size → Hp E w' (Blk b (.cells cs 5 (0, 0)) :: F) → K ⟨some ⟨b, 0, none⟩, n, cs.size⟩ w') :
    Ext Try.prog n_internal_bytealg_MakeNoZero ⟨[.int .i64 (n : Int)]⟩ [kS] w K := by
  obtain ⟨cs, hrun, hcs, _⟩ := Go.Lib.run_makeNoZero (P := Try.prog) w #[3] 25 5 und25 n (by omega)
  have hx : (callFunc n_internal_bytealg_MakeNoZero #[.int .i64 (n : Int)]).run Try.prog w = .ok (.value (.slice (some ⟨w.heap.size, 0, none⟩) n cs.size)) (w.drew.drew.alloc (.cells cs 5)) := by
    rw [run_callFunc_extern Try.func86 (by kernel_rfl) (by kernel_rfl) (by kernel_rfl) (e := Extern.BytealgMakeNoZero.makeNoZero #[3] #[25]) (by kernel_rfl), hrun]; rfl
  unfold Ext
  rw [show (⟨[.int .i64 (n : Int)]⟩ : Array Value) = #[.int .i64 (n : Int)] from rfl, hx]
  have h2 : Hp E w.drew.drew F := h.same rfl rfl rfl rfl
  exact hK _ _ _ hcs (h2.alloc _)
set_option maxRecDepth 20000
theorem repeat_c {s : Sl} {c n : Nat} {K : Sl → World → Prop} (h : Hp E w F) (hs : Tells F (SlT 1 s [.int .u8 (c : Int)])) (hn : n ≤ 65536) (hK : ∀ s' w', Hp E w' (OwnS 1 s' ((List.replicate n c).map vB) :: F) → K s' w') :
    Cl Try.prog [kS] n_bytes_Repeat ⟨[.slice s.base s.len s.cap, .int .i64 (n : Int)]⟩ w K := by
  refine bytes_Repeat.ok _ _ _ _ ?_
  unfold bytes_Repeat.E
  have hl1 : s.len = 1 := by have := (h.tells hs).1; simpa using this.symm
  obtain ⟨sb, sl, sc⟩ := s
  dsimp only at hl1 ⊢
  subst hl1
  (try simp only [Join_eq, NilCk_some, add_mk, Nat.zero_add, Nat.add_zero, Nat.reduceAdd, Bool.not_true, Bool.not_false, IfB_t, IfB_f, Option.isNone])
  by_cases h0 : n = 0
  · subst h0
    refine IfB.et (by omega) ?_
    refine Nw.mk h fun b w h => ?_
    exact hK _ _ (h.ownNew (n := 0) (sz := 1) rfl)
  refine IfB.ef (by omega) (IfB.df (by omega) ?_)
  rw [u64_id (x := ((1 : Nat) : Int)) (by omega), u64_id (x := (n : Int)) (by omega)]
  refine mul1_c (by omega) ?_
  refine IfB.df (by omega) (IfB.df (by omega) ?_)
  refine IfB.ef (by omega) ?_
  rw [i64_id (x := (n : Int)) (by omega)]
  have main : ∀ mx : Int, 1 ≤ mx → Ext Try.prog n_internal_bytealg_MakeNoZero ⟨[.int .i64 (n : Int)]⟩ [kS] w fun r21 w_20 =>
      Slc r21 0 (n : Int) (n : Int) 1 fun s22 =>
      Run Try.prog (Builtin.copy_ #[25, 25] 3 ⟨[(.slice s22.base s22.len s22.cap), (.slice sb (1 : Nat) sc)]⟩) kI w_20 fun (n24 : Int) w_23 =>
      ∃ (I_25 : Int → World → Prop) (m_26 : Int → World → Nat), I_25 (n24) w_23 ∧
      ∀ (bp27 : Int), ∀ (w_28 : World), I_25 bp27 w_28 →
      IfB (decide (bp27 < (n : Int)))
      (Drw w_28 fun w_29 =>
      Slc s22 bp27 (s22).len (s22).cap 1 fun s30 =>
      Slc s22 0 (if mx < bp27 then mx else bp27) (s22).cap 1 fun s31 =>
      Run Try.prog (Builtin.copy_ #[25, 25] 3 ⟨[(.slice s30.base s30.len s30.cap), (.slice s31.base s31.len s31.cap)]⟩) kI w_29 fun (n33 : Int) w_32 =>
      I_25 ((i64 (bp27 + n33))) w_32 ∧ m_26 ((i64 (bp27 + n33))) w_32 < m_26 bp27 w_28)
      (K (s22) w_28) := by
    intro mx hmx
    refine makeNZ_c h hn fun b cs w hcs h => ?_
    refine ⟨by omega, by omega, by omega, by simp only; omega, ?_⟩
    simp only [Int.toNat_natCast, Int.toNat_zero, Nat.sub_zero, if_neg h0, Option.map_some, Nat.zero_mul, add_mk, Nat.zero_add]
    have hs1 := h.tells hs.cons
    refine run_copyB (s := ⟨sb, 1, sc⟩) (ys := [.int .u8 (c : Int)]) und25 sz8 h hs1 (by simp [scalarB]) (by omega) fun w h => ?_
    have e0 : (⟨cs.toList.take 0 ++ (([.int .u8 (c : Int)] : List Value).take n ++ cs.toList.drop (0 + min ([.int .u8 (c : Int)] : List Value).length n))⟩ : Array Value) = ⟨(List.replicate 1 c).map vB ++ cs.toList.drop 1⟩ := by
      rw [List.take_zero, List.nil_append, List.take_of_length_le (by simp; omega), show min ([.int .u8 (c : Int)] : List Value).length n = 1 by simp; omega, Nat.zero_add]
      rfl
    rw [e0] at h
    rw [show ((min ([.int .u8 (c : Int)] : List Value).length n : Nat) : Int) = ((1 : Nat) : Int) by congr 1; simp; omega]
    refine ⟨fun bp w' => ∃ k : Nat, bp = (k : Int) ∧ 1 ≤ k ∧ k ≤ n ∧ Hp E w' (Blk b (.cells ⟨(List.replicate k c).map vB ++ cs.toList.drop k⟩ 5 (0, 0)) :: F), fun bp _ => n - bp.toNat, ⟨1, rfl, by omega, by omega, h⟩, ?_⟩
    rintro bp w ⟨k, rfl, hk1, hkn, h⟩
    have hsz : (⟨(List.replicate k c).map vB ++ cs.toList.drop k⟩ : Array Value).size = cs.size := by simp; omega
    (first | refine IfB.dm (fun hb => ?_) (fun hb => ?_) | refine IfB.em (fun hb => ?_) (fun hb => ?_) | refine IfB.nm (fun hb => ?_) (fun hb => ?_) | refine IfB.mk (fun hb => ?_) (fun hb => ?_))
    · obtain ⟨q, hq, hq1, hqk⟩ : ∃ q : Nat, (if mx < (k : Int) then mx else (k : Int)) = (q : Int) ∧ 1 ≤ q ∧ q ≤ k := by
        by_cases hm : mx < (k : Int)
        · rw [if_pos hm]; exact ⟨mx.toNat, by omega, by omega, by omega⟩
        · rw [if_neg hm]; exact ⟨k, rfl, hk1, Nat.le_refl _⟩
      rw [hq]
      refine Drw.mk h fun w h => ?_
      dsimp only
      refine ⟨by omega, by omega, by omega, by dsimp only; omega, ?_⟩
      rw [if_neg (by omega)]
      simp only [Int.toNat_natCast, Option.map_some, add_mk, Nat.zero_add, Nat.mul_one]
      refine ⟨by omega, by omega, by omega, by dsimp only; omega, ?_⟩
      rw [if_neg (by simp only [Int.toNat_natCast, Int.toNat_zero]; omega)]
      simp only [Int.toNat_natCast, Int.toNat_zero, Nat.sub_zero, Option.map_some, add_mk, Nat.zero_add, Nat.zero_mul]
      have hsrc : SlT 1 ⟨some ⟨b, 0, none⟩, q, n⟩ ((List.replicate q c).map vB) w := h.slB (by simp) (fun i hi => by
        simp at hi
        simp [List.getElem?_append, show i < k by omega])
      refine run_copyB (ys := (List.replicate q c).map vB) und25 sz8 h hsrc vB_scalar (by rw [hsz]; omega) fun w h => ?_
      have hlen : ((List.replicate q c).map vB).length = q := by simp
      rw [hlen] at h ⊢
      have e1 : (⟨(⟨(List.replicate k c).map vB ++ cs.toList.drop k⟩ : Array Value).toList.take k ++ (((List.replicate q c).map vB).take (n - k) ++ (⟨(List.replicate k c).map vB ++ cs.toList.drop k⟩ : Array Value).toList.drop (k + min q (n - k)))⟩ : Array Value)
          = ⟨(List.replicate (k + min q (n - k)) c).map vB ++ cs.toList.drop (k + min q (n - k))⟩ := by
        dsimp only
        rw [List.take_left' (by simp), ← List.map_take, List.take_replicate, List.drop_append, List.drop_of_length_le (by simp), List.nil_append, List.drop_drop, ← List.append_assoc, ← List.map_append, List.replicate_append_replicate]
        simp only [List.length_map, List.length_replicate]
        rw [show k + (k + min q (n - k) - k) = k + min q (n - k) by omega, Nat.min_comm (n - k) q]
      rw [e1] at h
      rw [i64_id (by omega)]
      refine ⟨⟨k + min q (n - k), by omega, by omega, by omega, h⟩, by omega⟩
    · have hk : k = n := by omega
      subst hk
      refine hK _ _ (h.ownShut (by simp) rfl (by simp) (by simp <;> omega) fun i hi => ?_)
      simp at hi
      simp [List.getElem?_append, hi]
  by_cases hbig : (n : Int) > 8192
  · refine IfB.dt hbig ⟨by omega, ?_⟩
    refine IfB.ef (by decide) ?_
    exact main _ (by decide)
  · exact IfB.df hbig (main _ (by omega))
end
end Go.Proofs.Ytjnjjibmlalpiaa
/- Fmtf -/
namespace Go.Proofs.Ytjnjjibmlalpiaa
open Go Go.Vc
set_option maxRecDepth 100000 in
/-- mtf.New -/
def mtf_New.E  (R : (Array Value) → World → Prop) (w : World) : Prop :=
 Nw 64 ⟨List.replicate 256 (.int .u8 0)⟩ w fun (b2 : Nat) (w_1 : World) =>
 ∃ (I_3 : Int → World → Prop) (m_4 : Int → World → Nat), I_3 (0) w_1 ∧
 ∀ (t2_5 : Int), ∀ (w_6 : World), I_3 t2_5 w_6 →
 IfB (decide ((t2_5 : Int) < (256 : Int)))
 (IdxP (⟨b2, 0, none⟩ : Addr) 256 t2_5 1 fun (q7 : Addr) =>
 St q7 (.int .u8 (u8 t2_5)) w_6 fun (w_8 : World) =>
 I_3 ((i64 ((t2_5 : Int) + (1 : Int)))) w_8 ∧ m_4 ((i64 ((t2_5 : Int) + (1 : Int)))) w_8 < m_4 t2_5 w_6)
 (Ld (.arr 256) (⟨b2, 0, none⟩ : Addr) w_6 fun (x9 : (Array Value)) =>
 StA 256 (⟨b2, 0, none⟩ : Addr) x9 w_6 fun (w_10 : World) =>
 Ld (.arr 256) (⟨b2, 0, none⟩ : Addr) w_10 fun (res11 : (Array Value)) =>
 R (res11) w_10)
set_option maxRecDepth 100000 in
theorem mtf_New.ok  (R : (Array Value) → World → Prop) (w : World) (h : mtf_New.E  R w) : Cl Try.prog [(.arr 256)] n_mtf_New ⟨[]⟩ w R :=
  calls_of_eq Try.mix Try.f59 [] [(.arr 256)] R 11 [.cell 0 64] (by kernel_rfl) (by kernel_rfl) (by kernel_rfl) (by kernel_rfl) (by kernel_rfl)
    (.s .o (.s (.s .o (.b (.l [(2, kI)] (.s .o (.s (.c .o .o) (.s (.b (.s .o .o)) .o)))))) (.s .o .o)))
    (by kernel_rfl) h
set_option maxRecDepth 100000 in
/-- mtf.Valid -/
def mtf_Valid.E (l1 : (Array Value)) (R : Bool → World → Prop) (w : World) : Prop :=
 Nw 64 l1 w fun (b3 : Nat) (w_2 : World) =>
 Nw 130 ⟨List.replicate 256 (.int .i64 0)⟩ w_2 fun (b5 : Nat) (w_4 : World) =>
 Ld (.arr 256) (⟨b3, 0, none⟩ : Addr) w_4 fun (x6 : (Array Value)) =>
 ∃ (I_7 : Int → World → Prop) (m_8 : Int → World → Nat), I_7 (0) w_4 ∧
 ∀ (t7_9 : Int), ∀ (w_10 : World), I_7 t7_9 w_10 →
 IfB (decide ((t7_9 : Int) < (256 : Int)))
 (IdxV (.int .u8) x6 256 t7_9 fun (e11 : Int) =>
 IdxP (⟨b5, 0, none⟩ : Addr) 256 e11 1 fun (q12 : Addr) =>
 St q12 (.int .i64 1) w_10 fun (w_13 : World) =>
 I_7 ((i64 ((t7_9 : Int) + (1 : Int)))) w_13 ∧ m_8 ((i64 ((t7_9 : Int) + (1 : Int)))) w_13 < m_8 t7_9 w_10)
 (Held w_10 fun (S14 : World → Prop) (w_15 : World) =>
 LdS (.arr 256) (⟨b5, 0, none⟩ : Addr) S14 fun (x16 : (Array Value)) =>
 Cl Try.prog [(.arr 256)] n_mtf_ones ⟨[]⟩ w_15 fun (r18 : (Array Value)) (w_17 : World) =>
 S14 w_17 ∧
 EqA .i64 256 x16 r18 fun (eq19 : Bool) =>
 R (eq19) w_17)
set_option maxRecDepth 100000 in
theorem mtf_Valid.ok (l1 : (Array Value)) (R : Bool → World → Prop) (w : World) (h : mtf_Valid.E l1 R w) : Cl Try.prog [kB] n_mtf_Valid ⟨[(.agg l1)]⟩ w R :=
  calls_of_eq Try.mix Try.f76 [(.agg l1)] [kB] R 16 [.tmp 2] (by kernel_rfl) (by kernel_rfl) (by kernel_rfl) (by kernel_rfl) (by kernel_rfl)
    (.s .o (.s .o (.s (.s .o (.b (.l [(7, kI)] (.s .o (.s (.c .o .o) (.s (.b (.s .o .o)) .o)))))) (.s .o .o))))
    (by kernel_rfl) h
set_option maxRecDepth 100000 in
/-- mtf.Take -/
def mtf_Take.E (l1 : (Array Value)) (place2 : Int) (R : (Array Value) → Int → Bool → World → Prop) (w : World) : Prop :=
 Nw 64 l1 w fun (b4 : Nat) (w_3 : World) =>
 Nw 64 ⟨List.replicate 256 (.int .u8 0)⟩ w_3 fun (b6 : Nat) (w_5 : World) =>
 IfB (decide ((place2 : Int) < (0 : Int)))
 (Ld (.arr 256) (⟨b4, 0, none⟩ : Addr) w_5 fun (x7 : (Array Value)) =>
 StA 256 (⟨b6, 0, none⟩ : Addr) x7 w_5 fun (w_8 : World) =>
 Ld (.arr 256) (⟨b6, 0, none⟩ : Addr) w_8 fun (res9 : (Array Value)) =>
 R (res9) (0) (false) w_8)
 (IfB (decide ((place2 : Int) ≥ (256 : Int)))
 (Ld (.arr 256) (⟨b4, 0, none⟩ : Addr) w_5 fun (x10 : (Array Value)) =>
 StA 256 (⟨b6, 0, none⟩ : Addr) x10 w_5 fun (w_11 : World) =>
 Ld (.arr 256) (⟨b6, 0, none⟩ : Addr) w_11 fun (res12 : (Array Value)) =>
 R (res12) (0) (false) w_11)
 (Drw w_5 fun (w_13 : World) =>
 Ld (.arr 256) (⟨b4, 0, none⟩ : Addr) w_13 fun (x14 : (Array Value)) =>
 IdxP (⟨b4, 0, none⟩ : Addr) 256 place2 1 fun (q15 : Addr) =>
 Ld (kInt .u8) q15 w_13 fun (x16 : Int) =>
 StA 256 (⟨b6, 0, none⟩ : Addr) x14 w_13 fun (w_17 : World) =>
 Drw w_17 fun (w_18 : World) =>
 Slc (⟨some (⟨b6, 0, none⟩ : Addr), 256, 256⟩ : Sl) 1 (i64 ((place2 : Int) + (1 : Int))) 256 1 fun (s19 : Sl) =>
 Slc (⟨some (⟨b4, 0, none⟩ : Addr), 256, 256⟩ : Sl) 0 place2 256 1 fun (s20 : Sl) =>
 Run Try.prog (Builtin.copy_ #[25, 25] 3 ⟨[(.slice s19.base s19.len s19.cap), (.slice s20.base s20.len s20.cap)]⟩) kI w_18 fun (n22 : Int) (w_21 : World) =>
 IdxP (⟨b6, 0, none⟩ : Addr) 256 0 1 fun (q23 : Addr) =>
 St q23 (.int .u8 x16) w_21 fun (w_24 : World) =>
 Ld (.arr 256) (⟨b6, 0, none⟩ : Addr) w_24 fun (x25 : (Array Value)) =>
 StA 256 (⟨b6, 0, none⟩ : Addr) x25 w_24 fun (w_26 : World) =>
 Ld (.arr 256) (⟨b6, 0, none⟩ : Addr) w_26 fun (res27 : (Array Value)) =>
 R (res27) (x16) (true) w_26))
set_option maxRecDepth 100000 in
theorem mtf_Take.ok (l1 : (Array Value)) (place2 : Int) (R : (Array Value) → Int → Bool → World → Prop) (w : World) (h : mtf_Take.E l1 place2 R w) : Cl Try.prog [(.arr 256), (kInt .u8), kB] n_mtf_Take ⟨[(.agg l1), (.int .i64 place2)]⟩ w R :=
  calls_of_eq Try.mix Try.f79 [(.agg l1), (.int .i64 place2)] [(.arr 256), (kInt .u8), kB] R 28 [.cell 4 64, .tmp 5, .tmp 6] (by kernel_rfl) (by kernel_rfl) (by kernel_rfl) (by kernel_rfl) (by kernel_rfl)
    (.s .o (.s (.s .o (.c (.s .o .o) .o)) (.s .o (.s .o (.s .o (.s .o .o))))))
    (by kernel_rfl) h
set_option maxRecDepth 100000 in
/-- mtf.ones -/
def mtf_ones.E  (R : (Array Value) → World → Prop) (w : World) : Prop :=
 Nw 130 ⟨List.replicate 256 (.int .i64 0)⟩ w fun (b2 : Nat) (w_1 : World) =>
 ∃ (I_3 : Int → World → Prop) (m_4 : Int → World → Nat), I_3 (0) w_1 ∧
 ∀ (t2_5 : Int), ∀ (w_6 : World), I_3 t2_5 w_6 →
 IfB (decide ((t2_5 : Int) < (256 : Int)))
 (IdxP (⟨b2, 0, none⟩ : Addr) 256 t2_5 1 fun (q7 : Addr) =>
 St q7 (.int .i64 1) w_6 fun (w_8 : World) =>
 I_3 ((i64 ((t2_5 : Int) + (1 : Int)))) w_8 ∧ m_4 ((i64 ((t2_5 : Int) + (1 : Int)))) w_8 < m_4 t2_5 w_6)
 (Ld (.arr 256) (⟨b2, 0, none⟩ : Addr) w_6 fun (x9 : (Array Value)) =>
 StA 256 (⟨b2, 0, none⟩ : Addr) x9 w_6 fun (w_10 : World) =>
 Ld (.arr 256) (⟨b2, 0, none⟩ : Addr) w_10 fun (res11 : (Array Value)) =>
 R (res11) w_10)
set_option maxRecDepth 100000 in
theorem mtf_ones.ok  (R : (Array Value) → World → Prop) (w : World) (h : mtf_ones.E  R w) : Cl Try.prog [(.arr 256)] n_mtf_ones ⟨[]⟩ w R :=
  calls_of_eq Try.mix Try.f82 [] [(.arr 256)] R 9 [.cell 0 130] (by kernel_rfl) (by kernel_rfl) (by kernel_rfl) (by kernel_rfl) (by kernel_rfl)
    (.s .o (.s (.s .o (.b (.l [(2, kI)] (.s .o (.s (.c .o .o) (.s (.b (.s .o .o)) .o)))))) (.s .o .o)))
    (by kernel_rfl) h
end Go.Proofs.Ytjnjjibmlalpiaa
/- Fzerorun -/
namespace Go.Proofs.Ytjnjjibmlalpiaa
open Go Go.Vc
/-- zerorun.Add -/
def zerorun_Add.E (n1 : Int) (many2 : Int) (digit3 : Int) (R : Int → Int → World → Prop) (w : World) : Prop :=
 Join (fun (w_5 : World) =>
 0 ≤ (many2 : Int) ∧
 IfB (decide (((i64 ((n1 : Int) + ((ishl .i64 ((i64 ((1 : Int) + (digit3 : Int))) : Int) (many2 : Int)) : Int))) : Int) > (2147483647 : Int)))
 (R (0) (2) w_5)
 (R ((i64 ((n1 : Int) + ((ishl .i64 ((i64 ((1 : Int) + (digit3 : Int))) : Int) (many2 : Int)) : Int)))) (0) w_5)) fun (K_4 : World → Prop) =>
 IfB (decide ((n1 : Int) < (0 : Int)))
 (R (0) (2) w)
 (IfB (decide ((n1 : Int) > (2147483647 : Int)))
 (R (0) (2) w)
 (IfB (decide ((many2 : Int) < (0 : Int)))
 (R (0) (2) w)
 (IfB (decide ((many2 : Int) > (30 : Int)))
 (R (0) (2) w)
 (IfB ((digit3 : Int) != (0 : Int))
 (IfB ((digit3 : Int) != (1 : Int))
 (R (0) (2) w)
 (K_4  w))
 (K_4  w)))))
theorem zerorun_Add.ok (n1 : Int) (many2 : Int) (digit3 : Int) (R : Int → Int → World → Prop) (w : World) (h : zerorun_Add.E n1 many2 digit3 R w) : Cl Try.prog [kI, kI] n_zerorun_Add ⟨[(.int .i64 n1), (.int .i64 many2), (.int .i64 digit3)]⟩ w R :=
  calls_of_eq Try.mix Try.f77 [(.int .i64 n1), (.int .i64 many2), (.int .i64 digit3)] [kI, kI] R 39 [.tmp 6, .tmp 7] (by kernel_rfl) (by kernel_rfl) (by kernel_rfl) (by kernel_rfl) (by kernel_rfl)
    (.s .o (.j [] (.s .o (.c (.s .o .o) .o)) (.s (.s .o (.s .o (.c (.s .o .o) .o))) (.s .o .o))))
    (by kernel_rfl) h
end Go.Proofs.Ytjnjjibmlalpiaa
/- SymP -/
namespace Go.Sym
open Go.Inc
/-! moves to the front -/
/-- the place p to the front -/
def mtake (L : List Nat) (p : Nat) : List Nat := L.getD p 0 :: L.eraseIdx p
theorem mtake_perm {L : List Nat} {p : Nat} (hp : p < L.length) : (mtake L p).Perm L := by
  unfold mtake
  have e : L.getD p 0 = L[p] := by simp [List.getD, hp]
  rw [e]
  rw [List.eraseIdx_eq_take_drop_succ]
  have h2 : L.take p ++ L[p] :: L.drop (p + 1) = L := by rw [List.getElem_cons_drop, List.take_append_drop]
  exact List.perm_middle.symm.trans (List.Perm.of_eq h2)
theorem mtake_len {L : List Nat} {p : Nat} (hp : p < L.length) : (mtake L p).length = L.length := (mtake_perm hp).length_eq
/-- a list of all bytes -/
def All256 (L : List Nat) : Prop := L.Perm (List.range 256)
theorem All256.len {L : List Nat} (h : All256 L) : L.length = 256 := by rw [h.length_eq, List.length_range]
theorem All256.mem {L : List Nat} (h : All256 L) {c : Nat} : c ∈ L ↔ c < 256 := by rw [h.mem_iff, List.mem_range]
theorem All256.nodup {L : List Nat} (h : All256 L) : L.Nodup := h.nodup_iff.2 List.nodup_range
theorem All256.take {L : List Nat} (h : All256 L) {p : Nat} (hp : p < 256) : All256 (mtake L p) := (mtake_perm (by rw [h.len]; exact hp)).trans h
theorem All256.range : All256 (List.range 256) := List.Perm.refl _
theorem All256.get {L : List Nat} (h : All256 L) {p : Nat} (hp : p < 256) : L.getD p 0 < 256 := by
  have hl := h.len
  have : L.getD p 0 = L[p] := by simp [List.getD, hl, hp]
  rw [this]
  exact h.mem.1 (List.getElem_mem _)
theorem All256.idx {L : List Nat} (h : All256 L) {c : Nat} (hc : c < 256) : L.idxOf c < 256 ∧ L.getD (L.idxOf c) 0 = c := by
  have hm := h.mem.2 hc
  have hl := h.len
  have h1 := List.idxOf_lt_length_of_mem hm
  refine ⟨by omega, ?_⟩
  rw [List.getD, List.getElem?_eq_getElem h1, List.getElem_idxOf h1]; rfl
theorem All256.idx_at {L : List Nat} (h : All256 L) {p : Nat} (hp : p < 256) : L.idxOf (L.getD p 0) = p := by
  have hl := h.len
  have e : L.getD p 0 = L[p] := by simp [List.getD, hl, hp]
  have h1 := h.idx (h.get hp)
  have e2 : L[L.idxOf (L.getD p 0)]'(by omega) = L[p] := by
    have := h1.2
    rw [List.getD, List.getElem?_eq_getElem (by omega)] at this
    exact this.trans e
  exact (List.getElem_inj h.nodup).1 e2
/-! digits of runs -/
def dig (n : Nat) : List Nat := if _h : n = 0 then [] else (n - 1) % 2 :: dig ((n - 1) / 2)
termination_by n
decreasing_by omega
theorem dig_zero : dig 0 = [] := by rw [dig]; simp
theorem dig_pos {n : Nat} (h : 0 < n) : dig n = (n - 1) % 2 :: dig ((n - 1) / 2) := by rw [dig, dif_neg (by omega)]
theorem dig_two (n : Nat) : ∀ d ∈ dig n, d < 2 := by
  induction n using Nat.strongRecOn with
  | ind n ih =>
    rcases Nat.eq_zero_or_pos n with e | e
    · rw [e, dig_zero]; simp
    · rw [dig_pos e]
      intro d hd
      rcases List.mem_cons.1 hd with h | h
      · omega
      · exact ih _ (by omega) d h
/-! from bytes to symbols -/
/-- the symbols of bytes, and the list and the run behind them -/
def encS : List Nat → Nat → List Nat → List Nat × List Nat × Nat
  | L, r, [] => ([], L, r)
  | L, r, c :: b =>
    if L.idxOf c = 0 then encS (mtake L 0) (r + 1) b
    else
      let x := encS (mtake L (L.idxOf c)) 0 b
      (dig r ++ (L.idxOf c + 1) :: x.1, x.2)
def symsFrom (L : List Nat) (r : Nat) (b : List Nat) : List Nat := (encS L r b).1 ++ dig (encS L r b).2.2 ++ [257]
def syms (b : List Nat) : List Nat := symsFrom (List.range 256) 0 b
theorem symsFrom_nil (L : List Nat) (r : Nat) : symsFrom L r [] = dig r ++ [257] := by simp [symsFrom, encS]
theorem symsFrom_zero {L : List Nat} {r c : Nat} {b : List Nat} (h : L.idxOf c = 0) : symsFrom L r (c :: b) = symsFrom (mtake L 0) (r + 1) b := by
  unfold symsFrom; rw [encS, if_pos h]
theorem symsFrom_pos {L : List Nat} {r c : Nat} {b : List Nat} (h : L.idxOf c ≠ 0) : symsFrom L r (c :: b) = dig r ++ (L.idxOf c + 1) :: symsFrom (mtake L (L.idxOf c)) 0 b := by
  unfold symsFrom; rw [encS, if_neg h]; simp
/-! back -/
structure DS where
  L : List Nat
  left : Nat
  run : Nat
  digits : Nat
/-- a symbol: the state, the bytes, and whether it was the end; or an error -/
def dsym (d : DS) (s : Nat) : Option (DS × List Nat × Bool) :=
  if s < 2 then
    if d.run + (1 + s) * 2 ^ d.digits ≤ d.left then some (⟨d.L, d.left, d.run + (1 + s) * 2 ^ d.digits, d.digits + 1⟩, [], false) else none
  else if s = 257 then
    if d.run = d.left then some (⟨d.L, 0, 0, 0⟩, List.replicate d.run (d.L.getD 0 0), true) else none
  else if d.run = d.left then none
  else some (⟨mtake d.L (s - 1), d.left - (d.run + 1), 0, 0⟩, List.replicate d.run (d.L.getD 0 0) ++ [d.L.getD (s - 1) 0], false)
/-- symbols one by one: the state and the bytes so far; at the end the bytes -/
def sstep (d : DS × List Nat) (s : Nat) : Stp (DS × List Nat) (List Nat) Nat := match dsym d.1 s with
  | none => .bad 160
  | some (_, t, true) => .fin (d.2 ++ t)
  | some (d', t, false) => .more (d', d.2 ++ t)
theorem sst_more {d d' : DS} {acc t : List Nat} {s : Nat} (h : dsym d s = some (d', t, false)) : sstep (d, acc) s = .more (d', acc ++ t) := by unfold sstep; rw [h]
theorem sst_fin {d d' : DS} {acc t : List Nat} {s : Nat} (h : dsym d s = some (d', t, true)) : sstep (d, acc) s = .fin (acc ++ t) := by unfold sstep; rw [h]
theorem sst_bad {d : DS} {acc : List Nat} {s : Nat} (h : dsym d s = none) : sstep (d, acc) s = .bad 160 := by unfold sstep; rw [h]
theorem decS_dig (L : List Nat) (left : Nat) (acc rest : List Nat) : ∀ (n q k : Nat), q + n * 2 ^ k ≤ left → ∃ k', run sstep (⟨L, left, q, k⟩, acc) (dig n ++ rest) = run sstep (⟨L, left, q + n * 2 ^ k, k'⟩, acc) rest := by
  intro n
  induction n using Nat.strongRecOn with
  | ind n ih =>
    intro q k hle
    rcases Nat.eq_zero_or_pos n with e | e
    · subst e
      exact ⟨k, by rw [dig_zero]; simp⟩
    · rw [dig_pos e]
      have hs : (1 + (n - 1) % 2) * 2 ^ k + (n - 1) / 2 * 2 ^ (k + 1) = n * 2 ^ k := by
        rw [Nat.pow_succ, Nat.mul_comm (2 ^ k) 2, ← Nat.mul_assoc, ← Nat.add_mul]
        congr 1; omega
      obtain ⟨k', h⟩ := ih ((n - 1) / 2) (by omega) (q + (1 + (n - 1) % 2) * 2 ^ k) (k + 1) (by omega)
      refine ⟨k', ?_⟩
      have h1 : dsym ⟨L, left, q, k⟩ ((n - 1) % 2) = some (⟨L, left, q + (1 + (n - 1) % 2) * 2 ^ k, k + 1⟩, [], false) := by
        unfold dsym
        simp only
        rw [if_pos (by omega), if_pos (by omega)]
      rw [List.cons_append, run_more (sst_more h1), List.append_nil, h]
      congr 3
      omega
theorem replicate_zero_front {L : List Nat} (hL : All256 L) {c : Nat} (hc : c < 256) (h : L.idxOf c = 0) : L.getD 0 0 = c ∧ mtake L 0 = L := by
  have := (hL.idx hc).2
  rw [h] at this
  refine ⟨this, ?_⟩
  unfold mtake
  cases L with
  | nil => have := hL.len; simp at this
  | cons x L => rfl
/-- the symbols of bytes are read back -/
theorem decS_from : ∀ (b L : List Nat) (r left : Nat) (acc rest : List Nat), All256 L → (∀ x ∈ b, x < 256) → left = r + b.length →
    run sstep (⟨L, left, 0, 0⟩, acc) (symsFrom L r b ++ rest) = .fin (acc ++ List.replicate r (L.getD 0 0) ++ b) rest
  | [], L, r, left, acc, rest, hL, _, hl => by
    rw [symsFrom_nil, List.append_assoc]
    obtain ⟨k', h⟩ := decS_dig L left acc ([257] ++ rest) r 0 0 (by simp at hl; omega)
    rw [h]
    have h1 : dsym ⟨L, left, 0 + r * 2 ^ 0, k'⟩ 257 = some (⟨L, 0, 0, 0⟩, List.replicate r (L.getD 0 0), true) := by
      unfold dsym
      simp only [Nat.zero_add, Nat.pow_zero, Nat.mul_one]
      rw [if_neg (by decide), if_pos trivial, if_pos (by simp at hl; omega)]
    show run sstep _ (257 :: rest) = _
    rw [run_fin (sst_fin h1)]
    simp
  | c :: b, L, r, left, acc, rest, hL, hb, hl => by
    have hc := hb c List.mem_cons_self
    have hb' : ∀ x ∈ b, x < 256 := fun x hx => hb x (List.mem_cons_of_mem _ hx)
    simp only [List.length_cons] at hl
    by_cases h0 : L.idxOf c = 0
    · obtain ⟨e1, e2⟩ := replicate_zero_front hL hc h0
      rw [symsFrom_zero h0, e2, decS_from b L (r + 1) left acc rest hL hb' (by omega), e1, List.replicate_succ']
      simp
    · obtain ⟨i1, i2⟩ := hL.idx hc
      rw [symsFrom_pos h0, List.append_assoc]
      obtain ⟨k', h⟩ := decS_dig L left acc ((L.idxOf c + 1) :: symsFrom (mtake L (L.idxOf c)) 0 b ++ rest) r 0 0 (by omega)
      rw [h]
      have h1 : dsym ⟨L, left, 0 + r * 2 ^ 0, k'⟩ (L.idxOf c + 1) = some (⟨mtake L (L.idxOf c), left - (r + 1), 0, 0⟩, List.replicate r (L.getD 0 0) ++ [c], false) := by
        unfold dsym
        simp only [Nat.zero_add, Nat.pow_zero, Nat.mul_one, Nat.add_sub_cancel, i2]
        rw [if_neg (by omega), if_neg (by omega), if_neg (by omega)]
      rw [List.cons_append, run_more (sst_more h1)]
      rw [decS_from b (mtake L (L.idxOf c)) 0 (left - (r + 1)) _ rest (hL.take i1) hb' (by omega)]
      simp
theorem syms_back {b : List Nat} (hb : ∀ x ∈ b, x < 256) (rest : List Nat) : run sstep (⟨List.range 256, b.length, 0, 0⟩, []) (syms b ++ rest) = .fin b rest := by
  unfold syms
  rw [decS_from b _ 0 b.length [] rest All256.range hb (by omega)]
  simp
theorem dig_over (L : List Nat) (left : Nat) (acc rest : List Nat) : ∀ (n q k : Nat), q ≤ left → left < q + n * 2 ^ k → run sstep (⟨L, left, q, k⟩, acc) (dig n ++ rest) = .bad 160 := by
  intro n
  induction n using Nat.strongRecOn with
  | ind n ih =>
    intro q k hq hlt
    rcases Nat.eq_zero_or_pos n with e | e
    · subst e
      simp at hlt; omega
    · rw [dig_pos e, List.cons_append]
      have hs : (1 + (n - 1) % 2) * 2 ^ k + (n - 1) / 2 * 2 ^ (k + 1) = n * 2 ^ k := by
        rw [Nat.pow_succ, Nat.mul_comm (2 ^ k) 2, ← Nat.mul_assoc, ← Nat.add_mul]
        congr 1; omega
      by_cases h : q + (1 + (n - 1) % 2) * 2 ^ k ≤ left
      · have h1 : dsym ⟨L, left, q, k⟩ ((n - 1) % 2) = some (⟨L, left, q + (1 + (n - 1) % 2) * 2 ^ k, k + 1⟩, [], false) := by
          unfold dsym
          simp only
          rw [if_pos (by omega), if_pos h]
        rw [run_more (sst_more h1), List.append_nil]
        exact ih ((n - 1) / 2) (by omega) _ (k + 1) h (by omega)
      · have h1 : dsym ⟨L, left, q, k⟩ ((n - 1) % 2) = none := by
          unfold dsym
          simp only
          rw [if_pos (by omega), if_neg h]
        exact run_bad (sst_bad h1)
/-- symbols under another number of bytes -/
theorem syms_not : ∀ (b L : List Nat) (r left : Nat) (acc rest : List Nat), All256 L → (∀ x ∈ b, x < 256) → left ≠ r + b.length → run sstep (⟨L, left, 0, 0⟩, acc) (symsFrom L r b ++ rest) = .bad 160
  | [], L, r, left, acc, rest, _, _, hl => by
    rw [symsFrom_nil, List.append_assoc]
    simp only [List.length_nil, Nat.add_zero] at hl
    by_cases h : r ≤ left
    · obtain ⟨k', h⟩ := decS_dig L left acc ([257] ++ rest) r 0 0 (by omega)
      rw [h]
      refine run_bad (sst_bad ?_)
      unfold dsym
      simp only [Nat.zero_add, Nat.pow_zero, Nat.mul_one]
      rw [if_neg (by decide), if_pos trivial, if_neg (by omega)]
    · exact dig_over L left acc _ r 0 0 (by omega) (by omega)
  | c :: b, L, r, left, acc, rest, hL, hb, hl => by
    have hc := hb c List.mem_cons_self
    have hb' : ∀ x ∈ b, x < 256 := fun x hx => hb x (List.mem_cons_of_mem _ hx)
    simp only [List.length_cons] at hl
    by_cases h0 : L.idxOf c = 0
    · obtain ⟨_, e2⟩ := replicate_zero_front hL hc h0
      rw [symsFrom_zero h0, e2]
      exact syms_not b L (r + 1) left acc rest hL hb' (by omega)
    · obtain ⟨i1, i2⟩ := hL.idx hc
      rw [symsFrom_pos h0, List.append_assoc]
      by_cases h : r ≤ left
      · obtain ⟨k', h1⟩ := decS_dig L left acc ((L.idxOf c + 1) :: symsFrom (mtake L (L.idxOf c)) 0 b ++ rest) r 0 0 (by omega)
        rw [h1, List.cons_append]
        by_cases he : r = left
        · refine run_bad (sst_bad ?_)
          unfold dsym
          simp only [Nat.zero_add, Nat.pow_zero, Nat.mul_one]
          rw [if_neg (by omega), if_neg (by omega), if_pos he]
        · have h2 : dsym ⟨L, left, 0 + r * 2 ^ 0, k'⟩ (L.idxOf c + 1) = some (⟨mtake L (L.idxOf c), left - (r + 1), 0, 0⟩, List.replicate r (L.getD 0 0) ++ [c], false) := by
            unfold dsym
            simp only [Nat.zero_add, Nat.pow_zero, Nat.mul_one, Nat.add_sub_cancel, i2]
            rw [if_neg (by omega), if_neg (by omega), if_neg he]
          rw [run_more (sst_more h2)]
          exact syms_not b (mtake L (L.idxOf c)) 0 (left - (r + 1)) _ rest (hL.take i1) hb' (by omega)
      · exact dig_over L left acc _ r 0 0 (by omega) (by omega)
theorem syms_other {b : List Nat} (hb : ∀ x ∈ b, x < 256) {left : Nat} (hl : left ≠ b.length) (rest : List Nat) : run sstep (⟨List.range 256, left, 0, 0⟩, []) (syms b ++ rest) = .bad 160 :=
  syms_not b _ 0 left [] rest All256.range hb (by omega)
theorem symsFrom_le : ∀ (b L : List Nat) (r : Nat), All256 L → (∀ x ∈ b, x < 256) → ∀ s ∈ symsFrom L r b, s ≤ 257
  | [], L, r, _, _ => fun s hs => by
    rw [symsFrom_nil] at hs
    rcases List.mem_append.1 hs with h | h
    · have := dig_two _ s h; omega
    · rw [List.mem_singleton] at h; omega
  | c :: b, L, r, hL, hb => fun s hs => by
    have hc := hb c List.mem_cons_self
    have hb' : ∀ x ∈ b, x < 256 := fun x hx => hb x (List.mem_cons_of_mem _ hx)
    obtain ⟨i1, _⟩ := hL.idx hc
    by_cases h0 : L.idxOf c = 0
    · rw [symsFrom_zero h0] at hs
      exact symsFrom_le b _ (r + 1) (hL.take (by decide)) hb' s hs
    · rw [symsFrom_pos h0] at hs
      rcases List.mem_append.1 hs with h | h
      · have := dig_two _ s h; omega
      · rcases List.mem_cons.1 h with h | h
        · omega
        · exact symsFrom_le b _ 0 (hL.take i1) hb' s h
theorem syms_le {b : List Nat} (hb : ∀ x ∈ b, x < 256) : ∀ s ∈ syms b, s ≤ 257 := symsFrom_le b _ 0 All256.range hb
end Go.Sym
/- Mtf -/
namespace Go.Vc
theorem rowI_scalar {n : Nat} {f : Nat → Int} : (rowI n f).toList.all scalarB = true := by
  unfold rowI
  rw [List.all_map]
  exact List.all_eq_true.2 fun _ _ => rfl
theorem rowI_zero {n : Nat} : rowI n (fun _ => 0) = ⟨List.replicate n (.int .i64 0)⟩ := by
  unfold rowI
  rw [List.map_const', List.length_range]
theorem EqA.row {n : Nat} {f g : Nat → Int} {K : Bool → Prop} (hK : K (((List.range n).map f) == ((List.range n).map g))) : EqA .i64 n (rowI n f) (rowI n g) K :=
  ⟨(List.range n).map f, (List.range n).map g, by simp [rowI], by simp [rowI], by simp, by simp, hK⟩
end Go.Vc
namespace Go.Proofs.Ytjnjjibmlalpiaa
open Go Go.Vc Go.Inc Go.Sym
/-- bytes as cells -/
abbrev byV (l : List Nat) : List Value := l.map fun (n : Nat) => Value.int .u8 (n : Int)
theorem byV_scalar {l : List Nat} : (byV l).all scalarB = true := by
  unfold byV
  rw [List.all_map]
  exact List.all_eq_true.2 fun _ _ => rfl
section
variable {E w : World} {F : List HP}
theorem mtf_und : Try.prog.underlying 25 = some (.slice 5) := by kernel_rfl
theorem mtf_sz : (Try.prog.info? 5).map (·.size) = some 1 := by kernel_rfl
set_option maxRecDepth 20000
theorem mnew_c {K : Array Value → World → Prop} (h : Hp E w F) (hK : ∀ w', Hp E w' F → K ⟨byV (List.range 256)⟩ w') : Cl Try.prog [.arr 256] n_mtf_New ⟨[]⟩ w K := by
  refine mtf_New.ok _ _ ?_
  unfold mtf_New.E
  (try simp only [Join_eq, NilCk_some, add_mk, Nat.zero_add, Nat.add_zero, Nat.reduceAdd, Bool.not_true, Bool.not_false, IfB_t, IfB_f, Option.isNone])
  refine Nw.mk h fun b2 w h => ?_
  have hlen : ∀ k, k ≤ 256 → (byV (List.range k ++ List.replicate (256 - k) 0)).length = 256 := fun k hk => by simp; omega
  refine ⟨fun i w' => ∃ k : Nat, i = (k : Int) ∧ k ≤ 256 ∧ Hp E w' (Blk b2 (.cells ⟨byV (List.range k ++ List.replicate (256 - k) 0)⟩ 64 (0, 0)) :: F), fun i _ => 256 - i.toNat, ⟨0, rfl, by omega, by
    have : (⟨byV (List.range 0 ++ List.replicate (256 - 0) 0)⟩ : Array Value) = ⟨List.replicate 256 (.int .u8 0)⟩ := by simp
    rw [this]; exact h⟩, ?_⟩
  rintro i w ⟨k, rfl, hk, h⟩
  (first | refine IfB.dm (fun hb => ?_) (fun hb => ?_) | refine IfB.em (fun hb => ?_) (fun hb => ?_) | refine IfB.nm (fun hb => ?_) (fun hb => ?_) | refine IfB.mk (fun hb => ?_) (fun hb => ?_))
  · refine ⟨by omega, by omega, ?_⟩
    rw [show ((k : Int)).toNat * 1 = k by omega]
    (try simp only [Join_eq, NilCk_some, add_mk, Nat.zero_add, Nat.add_zero, Nat.reduceAdd, Bool.not_true, Bool.not_false, IfB_t, IfB_f, Option.isNone])
    have hk := hlen k (by omega)
    refine St.xb h (by simp; omega) rfl fun w h => ?_
    rw [i64_id (by omega)]
    refine ⟨⟨k + 1, rfl, by omega, ?_⟩, by omega⟩
    have e : (⟨byV (List.range k ++ List.replicate (256 - k) 0)⟩ : Array Value).setIfInBounds k (.int .u8 (u8 (k : Int))) = ⟨byV (List.range (k + 1) ++ List.replicate (256 - (k + 1)) 0)⟩ := by
      rw [u8_id (by omega)]
      apply Array.ext'
      rw [Array.toList_setIfInBounds]
      have : (byV (List.range k ++ List.replicate (256 - k) 0)).set k (.int .u8 (k : Int)) = byV ((List.range k ++ List.replicate (256 - k) 0).set k k) := by rw [byV, byV, List.map_set]
      rw [this, List.set_append_right _ _ (by simp), List.length_range, Nat.sub_self]
      obtain ⟨m, hm⟩ : ∃ m, 256 - k = m + 1 := ⟨255 - k, by omega⟩
      rw [hm, List.replicate_succ, List.set_cons_zero, List.range_succ, show 256 - (k + 1) = m by omega]
      simp
    rw [e] at h
    exact h
  · have hk2 : k = 256 := by omega
    subst hk2
    have e : (⟨byV (List.range 256 ++ List.replicate (256 - 256) 0)⟩ : Array Value) = ⟨byV (List.range 256)⟩ := by simp
    rw [e] at h
    have hn : (⟨byV (List.range 256)⟩ : Array Value).size = 256 := by simp
    refine Ld.xw h hn ?_
    refine StA.q h hn hn byV_scalar fun w h => ?_
    exact Ld.xw h hn (hK _ h.tl)
theorem ones_c {K : Array Value → World → Prop} (h : Hp E w F) (hK : ∀ w', Hp E w' F → K (rowI 256 fun _ => 1) w') : Cl Try.prog [.arr 256] n_mtf_ones ⟨[]⟩ w K := by
  refine mtf_ones.ok _ _ ?_
  unfold mtf_ones.E
  (try simp only [Join_eq, NilCk_some, add_mk, Nat.zero_add, Nat.add_zero, Nat.reduceAdd, Bool.not_true, Bool.not_false, IfB_t, IfB_f, Option.isNone])
  refine Nw.mk h fun b2 w h => ?_
  refine ⟨fun i w' => ∃ k : Nat, i = (k : Int) ∧ k ≤ 256 ∧ Hp E w' (Blk b2 (.cells (rowI 256 fun j => if j < k then 1 else 0) 130 (0, 0)) :: F), fun i _ => 256 - i.toNat, ⟨0, rfl, by omega, by
    rw [rowI_ext (g := fun _ => 0) (fun i _ => by simp), rowI_zero]; exact h⟩, ?_⟩
  rintro i w ⟨k, rfl, hk, h⟩
  (first | refine IfB.dm (fun hb => ?_) (fun hb => ?_) | refine IfB.em (fun hb => ?_) (fun hb => ?_) | refine IfB.nm (fun hb => ?_) (fun hb => ?_) | refine IfB.mk (fun hb => ?_) (fun hb => ?_))
  · refine ⟨by omega, by omega, ?_⟩
    rw [show ((k : Int)).toNat * 1 = k by omega]
    (try simp only [Join_eq, NilCk_some, add_mk, Nat.zero_add, Nat.add_zero, Nat.reduceAdd, Bool.not_true, Bool.not_false, IfB_t, IfB_f, Option.isNone])
    refine St.xb h (by rw [rowI_size]; omega) rfl fun w h => ?_
    rw [i64_id (by omega)]
    refine ⟨⟨k + 1, rfl, by omega, ?_⟩, by omega⟩
    rw [rowI_set] at h
    rw [rowI_ext (g := fun j => if j < k + 1 then 1 else 0) (fun i _ => by
      by_cases h1 : i = k
      · subst h1; simp
      · by_cases h2 : i < k
        · simp [h1, h2]; omega
        · simp [h1, h2]; omega)] at h
    exact h
  · have hk2 : k = 256 := by omega
    subst hk2
    rw [rowI_ext (g := fun _ => 1) (fun i hi => by simp [hi])] at h
    refine Ld.xw h rowI_size ?_
    refine StA.q h rowI_size rowI_size rowI_scalar fun w h => ?_
    exact Ld.xw h rowI_size (hK _ h.tl)
theorem mvalidL_c {L : List Nat} {K : Bool → World → Prop} (h : Hp E w F) (hL : All256 L) (hK : ∀ w', Hp E w' F → K true w') : Cl Try.prog [kB] n_mtf_Valid ⟨[.agg ⟨byV L⟩]⟩ w K := by
  have hl := hL.len
  have hlt : ∀ x ∈ L, x < 256 := fun x hx => by simpa using hL.mem_iff.1 hx
  refine mtf_Valid.ok _ _ _ ?_
  unfold mtf_Valid.E
  (try simp only [Join_eq, NilCk_some, add_mk, Nat.zero_add, Nat.add_zero, Nat.reduceAdd, Bool.not_true, Bool.not_false, IfB_t, IfB_f, Option.isNone])
  have hn : (⟨byV L⟩ : Array Value).size = 256 := by simp [hl]
  refine Nw.mk h fun b3 w h => Nw.mk h fun b5 w h => Ld.xw h hn ?_
  refine ⟨fun i w' => ∃ k : Nat, i = (k : Int) ∧ k ≤ 256 ∧ Hp E w' (Blk b5 (.cells (rowI 256 fun j => if j ∈ L.take k then 1 else 0) 130 (0, 0)) :: Blk b3 (.cells ⟨byV L⟩ 64 (0, 0)) :: F), fun i _ => 256 - i.toNat, ⟨0, rfl, by omega, by
    rw [rowI_ext (g := fun _ => 0) (fun i _ => by simp), rowI_zero]; exact h⟩, ?_⟩
  rintro i w ⟨k, rfl, hk, h⟩
  (first | refine IfB.dm (fun hb => ?_) (fun hb => ?_) | refine IfB.em (fun hb => ?_) (fun hb => ?_) | refine IfB.nm (fun hb => ?_) (fun hb => ?_) | refine IfB.mk (fun hb => ?_) (fun hb => ?_))
  · have hkl : k < L.length := by omega
    refine IdxV.rd (s := .int .u8) (by omega) (by omega) (L[k] : Int) ?_ ?_
    · simp [hkl]
    have hx := hlt _ (List.getElem_mem hkl)
    refine ⟨by omega, by omega, ?_⟩
    rw [show ((L[k] : Int)).toNat * 1 = L[k] by omega]
    (try simp only [Join_eq, NilCk_some, add_mk, Nat.zero_add, Nat.add_zero, Nat.reduceAdd, Bool.not_true, Bool.not_false, IfB_t, IfB_f, Option.isNone])
    refine St.xb h (by rw [rowI_size]; omega) rfl fun w h => ?_
    rw [i64_id (by omega)]
    refine ⟨⟨k + 1, rfl, by omega, ?_⟩, by omega⟩
    rw [rowI_set] at h
    rw [rowI_ext (g := fun j => if j ∈ L.take (k + 1) then 1 else 0) (fun i _ => by
      have hmem : i ∈ L.take (k + 1) ↔ i ∈ L.take k ∨ i = L[k] := by
        rw [List.take_add_one, List.getElem?_eq_getElem hkl, List.mem_append]
        exact or_congr Iff.rfl List.mem_singleton
      by_cases h1 : i = L[k]
      · rw [if_pos h1, if_pos (hmem.2 (.inr h1))]
      · rw [if_neg h1]
        by_cases h2 : i ∈ L.take k
        · rw [if_pos h2, if_pos (hmem.2 (.inl h2))]
        · rw [if_neg h2, if_neg (fun hh => (hmem.1 hh).elim h2 h1)])] at h
    exact h
  · have hk2 : k = 256 := by omega
    subst hk2
    rw [rowI_ext (g := fun _ => 1) (fun i hi => by
      rw [List.take_of_length_le (by omega), if_pos]
      exact hL.mem_iff.2 (by simpa using hi))] at h
    have h := h.drew (n := w.drawn + 1)
    refine ⟨HoldB b5 _ _ _, h.hb, ?_⟩
    dsimp only
    refine LdS.xw (fun _ h => h) rowI_size ?_
    refine ones_c h fun w h => ⟨h.hb, ?_⟩
    refine EqA.row ?_
    rw [beq_self_eq_true]
    exact hK _ h.tl
theorem take_row {L : List Nat} {p : Nat} (hl : L.length = 256) (hp : p < 256) : ((byV L).take 1 ++ ((byV (L.take p)).take p ++ (byV L).drop (1 + min (byV (L.take p)).length p))).set 0 (.int .u8 (L.getD p 0 : Int)) = byV (mtake L p) := by
  have e1 : (byV (L.take p)).length = p := by simp; omega
  rw [e1, Nat.min_self, List.take_of_length_le (l := byV (L.take p)) (by omega), Nat.add_comm 1 p]
  unfold mtake
  rw [List.eraseIdx_eq_take_drop_succ]
  cases L with
  | nil => simp at hl
  | cons a L => simp [byV, List.map_take, List.map_drop]
theorem mtake_c {L : List Nat} {p : Nat} {K : Array Value → Int → Bool → World → Prop} (h : Hp E w F) (hl : L.length = 256) (hp : p < 256) (hK : ∀ w', Hp E w' F → K ⟨byV (mtake L p)⟩ (L.getD p 0 : Int) true w') :
    Cl Try.prog [.arr 256, kInt .u8, kB] n_mtf_Take ⟨[.agg ⟨byV L⟩, .int .i64 (p : Int)]⟩ w K := by
  refine mtf_Take.ok _ _ _ _ ?_
  unfold mtf_Take.E
  (try simp only [Join_eq, NilCk_some, add_mk, Nat.zero_add, Nat.add_zero, Nat.reduceAdd, Bool.not_true, Bool.not_false, IfB_t, IfB_f, Option.isNone])
  have hn : (⟨byV L⟩ : Array Value).size = 256 := by simp [hl]
  have hz : (⟨List.replicate 256 (.int .u8 0)⟩ : Array Value).size = 256 := by simp
  have hpl : p < L.length := by omega
  refine Nw.mk h fun b4 w h => Nw.mk h fun b6 w h => ?_
  (repeat (first | with_reducible refine Nw.mk h (fun b w h => ?_) | with_reducible refine Drw.mk h (fun w h => ?_) | with_reducible refine Ld.q h hL rfl rfl ?_ | with_reducible refine LdS.q (fun _ h => h) hL rfl rfl ?_ | with_reducible refine Ld.p h hL ?_ | with_reducible refine LdS.p (fun _ h => h) hL ?_ | with_reducible refine Ld.qw h hL rfl ?_ | with_reducible refine LdS.qw (fun _ h => h) hL rfl ?_ | with_reducible refine And.intro h.hb ?_ | (with_reducible refine St.q h hL rfl rfl rfl (fun w h => ?_); dsimp only [spl, over] at h) | with_reducible refine IfB.ntt ?_ | with_reducible refine IfB.nff ?_ | with_reducible refine IfB.t rfl ?_ | with_reducible refine IfB.f rfl ?_ | with_reducible refine IfB.dt (by omega) ?_ | with_reducible refine IfB.df (by omega) ?_ | with_reducible refine IfB.ndt (by omega) ?_ | with_reducible refine IfB.ndf (by omega) ?_ | with_reducible refine IfB.et (by omega) ?_ | with_reducible refine IfB.ef (by omega) ?_ | with_reducible refine IfB.nt (by omega) ?_ | with_reducible refine IfB.nf (by omega) ?_ | with_reducible refine And.intro (by first | omega | decide) ?_))
  refine Ld.xw h hn ?_
  refine ⟨by omega, by omega, ?_⟩
  rw [show ((p : Int)).toNat * 1 = p by omega]
  (try simp only [Join_eq, NilCk_some, add_mk, Nat.zero_add, Nat.add_zero, Nat.reduceAdd, Bool.not_true, Bool.not_false, IfB_t, IfB_f, Option.isNone])
  refine Ld.xb (x := (L.getD p 0 : Int)) h ?_ ?_
  · simp [List.getD_eq_getElem?_getD, hpl]
  refine StA.q h hz hn byV_scalar fun w h => Drw.mk h fun w h => ?_
  rw [i64_id (by omega)]
  refine ⟨by omega, by omega, by omega, by simp, ?_⟩
  rw [if_neg (by simp), show (1 : Int).toNat * 1 = 1 by decide, show ((p : Int) + 1).toNat - (1 : Int).toNat = p by omega, show (256 : Int).toNat - (1 : Int).toNat = 255 by decide]
  refine ⟨by omega, by omega, by omega, by simp, ?_⟩
  rw [if_neg (by decide), show (0 : Int).toNat * 1 = 0 by decide, show ((p : Int)).toNat - (0 : Int).toNat = p by omega, show (256 : Int).toNat - (0 : Int).toNat = 256 by decide]
  simp only [Option.map_some, add_mk, Nat.zero_add]
  have hsrc : SlT 1 ⟨some ⟨b4, 0, none⟩, p, 256⟩ (byV (L.take p)) w := by
    refine ⟨by simp; omega, fun i hi => ⟨⟨b4, 0, none⟩, rfl, ?_⟩⟩
    rw [add_mk, h.fc]
    simp at hi ⊢
    simp [show i < L.length by omega]
  refine run_copyB (ys := byV (L.take p)) mtf_und mtf_sz h hsrc (List.all_eq_true.1 byV_scalar) (by rw [hn]; omega) fun w h => ?_
  refine ⟨by omega, by omega, ?_⟩
  rw [show ((0 : Int)).toNat * 1 = 0 by decide]
  (try simp only [Join_eq, NilCk_some, add_mk, Nat.zero_add, Nat.add_zero, Nat.reduceAdd, Bool.not_true, Bool.not_false, IfB_t, IfB_f, Option.isNone])
  refine St.xb h (by simp; omega) rfl fun w h => ?_
  have e : (⟨(⟨byV L⟩ : Array Value).toList.take 1 ++ ((byV (L.take p)).take p ++ (⟨byV L⟩ : Array Value).toList.drop (1 + min (byV (L.take p)).length p))⟩ : Array Value).setIfInBounds 0 (.int .u8 (L.getD p 0 : Int)) = ⟨byV (mtake L p)⟩ := by
    apply Array.ext'
    rw [Array.toList_setIfInBounds]
    exact take_row hl hp
  rw [e] at h
  have hm : (⟨byV (mtake L p)⟩ : Array Value).size = 256 := by
    have : (mtake L p).length = 256 := by unfold mtake; simp [List.length_eraseIdx, hpl]; omega
    simp [this]
  refine Ld.xw h hm ?_
  refine StA.q h hm hm byV_scalar fun w h => ?_
  exact Ld.xw h hm (hK _ h.tl)
theorem zadd_c {n many d : Nat} {K : Int → Int → World → Prop} (hn : n ≤ 65536) (hm : many ≤ 16) (hd : d ≤ 1) (hK : K ((n + (1 + d) * 2 ^ many : Nat) : Int) 0 w) :
    Cl Try.prog [kI, kI] n_zerorun_Add ⟨[.int .i64 (n : Int), .int .i64 (many : Int), .int .i64 (d : Int)]⟩ w K := by
  have hp : 2 ^ many ≤ 65536 := Nat.pow_le_pow_right (n := 2) (by decide) hm
  have hpp := Nat.two_pow_pos many
  have hb : (1 + d) * 2 ^ many ≤ 131072 := by
    have := Nat.mul_le_mul (show 1 + d ≤ 2 by omega) hp
    omega
  refine zerorun_Add.ok _ _ _ _ _ ?_
  unfold zerorun_Add.E
  have fin : 0 ≤ (many : Int) ∧ IfB (decide (i64 ((n : Int) + ishl .i64 (i64 (1 + (d : Int))) (many : Int)) > 2147483647)) (K 0 2 w) (K (i64 ((n : Int) + ishl .i64 (i64 (1 + (d : Int))) (many : Int))) 0 w) := by
    refine ⟨by omega, ?_⟩
    have hmx : IntKind.max .i64 = 9223372036854775807 := rfl
    rw [i64_id (x := 1 + (d : Int)) (by omega), show 1 + (d : Int) = ((1 + d : Nat) : Int) by omega, ishl_nat (k := .i64) (by have : IntKind.bits .i64 = 64 := rfl; omega) (by rw [hmx]; omega), i64_id (by omega)]
    exact IfB.df (by omega) (by rw [← Int.natCast_add]; exact hK)
  (try simp only [Join_eq, NilCk_some, add_mk, Nat.zero_add, Nat.add_zero, Nat.reduceAdd, Bool.not_true, Bool.not_false, IfB_t, IfB_f, Option.isNone])
  refine IfB.df (by omega) (IfB.df (by omega) (IfB.df (by omega) (IfB.df (by omega) ?_)))
  by_cases h0 : d = 0
  · exact IfB.nf (by omega) fin
  · exact IfB.nt (by omega) (IfB.nf (by omega) fin)
end
end Go.Proofs.Ytjnjjibmlalpiaa
/- Sdec -/
namespace Go.Sym
def DsOk (d : DS) : Prop := All256 d.L ∧ d.left ≤ 65536 ∧ d.run ≤ d.left ∧ 2 ^ d.digits - 1 ≤ d.run ∧ d.run ≤ 2 * (2 ^ d.digits - 1)
theorem DsOk.dig {d : DS} (h : DsOk d) : d.digits ≤ 16 := by
  obtain ⟨_, h2, h3, h4, _⟩ := h
  rcases Nat.lt_or_ge d.digits 17 with hh | hh
  · omega
  · have : 2 ^ 17 ≤ 2 ^ d.digits := Nat.pow_le_pow_right (by decide) hh
    omega
set_option maxRecDepth 20000 in
theorem DsOk.zero {m : Nat} (hm : m ≤ 65536) : DsOk ⟨List.range 256, m, 0, 0⟩ := ⟨.range, hm, by simp, by simp, by simp⟩
theorem dsym_ok {d d' : DS} {s : Nat} {t : List Nat} (h : DsOk d) (hs : s < 258) (he : dsym d s = some (d', t, false)) : DsOk d' ∧ (∀ x ∈ t, x < 256) ∧ t.length + d'.left ≤ d.left := by
  obtain ⟨L, left, run, digits⟩ := d
  obtain ⟨h1, h2, h3, h4, h5⟩ := h
  unfold dsym at he
  dsimp only at h1 h2 h3 h4 h5 he
  split at he
  · split at he
    · rename_i hs2 hle
      simp only [Option.some.injEq, Prod.mk.injEq] at he
      obtain ⟨rfl, rfl, _⟩ := he
      have hp := Nat.two_pow_pos digits
      refine ⟨⟨h1, h2, hle, ?_, ?_⟩, by simp, by simp⟩
      · dsimp only
        rw [Nat.pow_succ]
        have := Nat.mul_le_mul_right (2 ^ digits) (show 1 ≤ 1 + s by omega)
        omega
      · dsimp only
        rw [Nat.pow_succ]
        have := Nat.mul_le_mul_right (2 ^ digits) (show 1 + s ≤ 2 by omega)
        omega
    · cases he
  · split at he
    · split at he
      · simp at he
      · cases he
    · split at he
      · cases he
      · rename_i hs2 hs3 hne
        simp only [Option.some.injEq, Prod.mk.injEq] at he
        obtain ⟨rfl, rfl, _⟩ := he
        refine ⟨⟨h1.take (by omega), by dsimp only; omega, by simp, by simp, by simp⟩, ?_, ?_⟩
        · intro x hx
          rcases List.mem_append.1 hx with hx | hx
          · rw [(List.mem_replicate.1 hx).2]; exact h1.get (by omega)
          · rw [List.mem_singleton] at hx; rw [hx]; exact h1.get (by omega)
        · simp; omega
theorem dsym_end {d d' : DS} {s : Nat} {t : List Nat} (h : DsOk d) (he : dsym d s = some (d', t, true)) : (∀ x ∈ t, x < 256) ∧ t.length ≤ d.left := by
  obtain ⟨L, left, run, digits⟩ := d
  obtain ⟨h1, h2, h3, h4, h5⟩ := h
  unfold dsym at he
  dsimp only at h1 h2 h3 h4 h5 he
  split at he
  · split at he
    · simp at he
    · cases he
  · split at he
    · split at he
      · simp only [Option.some.injEq, Prod.mk.injEq] at he
        obtain ⟨rfl, rfl, _⟩ := he
        refine ⟨fun x hx => ?_, by simp; omega⟩
        rw [(List.mem_replicate.1 hx).2]; exact h1.get (by omega)
      · cases he
    · split at he
      · cases he
      · simp at he
end Go.Sym
namespace Go.Proofs.Ytjnjjibmlalpiaa
open Go Go.Vc Go.Inc Go.Sym
abbrev dsA (L : List Nat) (left run digits : Int) (d : Bool) : Array Value := ⟨byV L ++ [.int .i64 left, .int .i64 run, .int .i64 digits, .bool d]⟩
theorem dsA_scalar {L : List Nat} {a b c : Int} {d : Bool} : (dsA L a b c d).toList.all scalarB = true := by
  unfold dsA
  rw [List.all_append, byV_scalar]
  rfl
theorem dsA_size {L : List Nat} {a b c : Int} {d : Bool} (h : L.length = 256) : (dsA L a b c d).size = 260 := by simp [h]
theorem byV_len {L : List Nat} (h : L.length = 256) : (byV L).length = 256 := by simp [h]
section
variable {E w : World} {F : List HP}
theorem ty_bytes2 : ElemT Try.prog 25 5 1 1 := ElemT.of (by kernel_rfl) (by kernel_rfl)
abbrev dsP : Nat → Option (Nat × Nat) := (#[(0, 256), (256, 1), (257, 1), (258, 1), (259, 1)][·]?)
theorem built_ds (ps : List (Nat × Value)) : Try.prog.built 66 ps = Instr.fill dsP ⟨List.replicate 256 (.int .u8 0) ++ [.int .i64 0, .int .i64 0, .int .i64 0, .bool false]⟩ ps := by kernel_rfl
theorem fill_ds0 {L : List Nat} (hl : L.length = 256) (rest : List (Nat × Value)) : Instr.fill dsP ⟨List.replicate 256 (.int .u8 0) ++ [.int .i64 0, .int .i64 0, .int .i64 0, .bool false]⟩ ((0, .agg ⟨byV L⟩) :: rest) = Instr.fill dsP (dsA L 0 0 0 false) rest := by
  have := fill_step (place := dsP) (i := 0) (v := .agg ⟨byV L⟩) (rest := rest) (pre := []) (mid := List.replicate 256 (.int .u8 0)) (post := [.int .i64 0, .int .i64 0, .int .i64 0, .bool false]) rfl rfl List.length_replicate (by show (⟨byV L⟩ : Array Value).size = _; simp [hl])
  exact this
theorem Bld.ds1 {L : List Nat} {m : Int} {K : Array Value → Prop} (hl : L.length = 256) (hK : K (dsA L m 0 0 false)) : Bld Try.prog 66 [(0, .agg ⟨byV L⟩), (1, .int .i64 m)] K := by
  refine ⟨_, ?_, hK⟩
  rw [built_ds, fill_ds0 hl]
  have := fill_step (place := dsP) (i := 1) (v := .int .i64 m) (rest := []) (pre := byV L) (mid := [.int .i64 0]) (post := [.int .i64 0, .int .i64 0, .bool false]) rfl (by simp [hl]) rfl rfl
  unfold dsA
  rw [show byV L ++ [.int .i64 (0 : Int), .int .i64 0, .int .i64 0, .bool false] = byV L ++ [.int .i64 0] ++ [.int .i64 0, .int .i64 0, .bool false] by simp, this]
  simp [Value.cells, Instr.fill]
theorem Bld.ds4 {L : List Nat} {K : Array Value → Prop} (hl : L.length = 256) (hK : K (dsA L 0 0 0 true)) : Bld Try.prog 66 [(0, .agg ⟨byV L⟩), (4, .bool true)] K := by
  refine ⟨_, ?_, hK⟩
  rw [built_ds, fill_ds0 hl]
  have := fill_step (place := dsP) (i := 4) (v := .bool true) (rest := []) (pre := byV L ++ [.int .i64 0, .int .i64 0, .int .i64 0]) (mid := [.bool false]) (post := []) rfl (by simp [hl]) rfl rfl
  unfold dsA
  rw [show byV L ++ [.int .i64 (0 : Int), .int .i64 0, .int .i64 0, .bool false] = byV L ++ [.int .i64 0, .int .i64 0, .int .i64 0] ++ [.bool false] ++ [] by simp, this]
  simp [Value.cells, Instr.fill]
set_option maxRecDepth 20000
theorem sdnew_c {m : Nat} {K : Array Value → World → Prop} (h : Hp E w F) (hm : 1 ≤ m) (hm2 : m ≤ 65536) (hK : ∀ w', Hp E w' F → K (dsA (List.range 256) (m : Int) 0 0 false) w') : Cl Try.prog [.arr 260] n_symdec_New ⟨[.int .i64 (m : Int)]⟩ w K := by
  refine symdec_New.ok _ _ _ ?_
  unfold symdec_New.E
  (try simp only [Join_eq, NilCk_some, add_mk, Nat.zero_add, Nat.add_zero, Nat.reduceAdd, Bool.not_true, Bool.not_false, IfB_t, IfB_f, Option.isNone])
  refine Nw.mk h fun b3 w h => IfB.df (by omega) (IfB.df (by omega) ?_)
  refine mnew_c h fun w h => Bld.ds1 (by simp) ?_
  have hz : (⟨List.replicate 256 (.int .u8 0) ++ [.int .i64 0, .int .i64 0, .int .i64 0, .bool false]⟩ : Array Value).size = 260 := by simp
  have hd : (dsA (List.range 256) (m : Int) 0 0 false).size = 260 := dsA_size (by simp)
  refine StA.q h hz hd dsA_scalar fun w h => ?_
  exact Ld.xw h hd (hK _ h.tl)
theorem sdvalid_c {d : DS} {K : Bool → World → Prop} (h : Hp E w F) (hd : DsOk d) (hK : ∀ w', Hp E w' F → K true w') : Cl Try.prog [kB] n_symdec_Valid ⟨[.agg (dsA d.L (d.left : Int) (d.run : Int) (d.digits : Int) false)]⟩ w K := by
  have hdig := hd.dig
  obtain ⟨L, left, run, digits⟩ := d
  obtain ⟨h1, h2, h3, h4, h5⟩ := hd
  dsimp only at h1 h2 h3 h4 h5 hdig ⊢
  have hL := byV_len h1.len
  refine symdec_Valid.ok _ _ _ ?_
  unfold symdec_Valid.E
  have hp : 2 ^ digits ≤ 65536 := Nat.pow_le_pow_right (n := 2) (by decide) hdig
  have hpp := Nat.two_pow_pos digits
  have e1 : i64 (ishl .i64 1 (digits : Int) - 1) = ((2 ^ digits - 1 : Nat) : Int) := by
    have hmx : IntKind.max .i64 = 9223372036854775807 := rfl
    have := ishl_nat (k := .i64) (a := 1) (b := digits) (by have : IntKind.bits .i64 = 64 := rfl; omega) (by rw [hmx]; omega)
    have e0 : ishl .i64 1 (digits : Int) = ((2 ^ digits : Nat) : Int) := by simpa using this
    rw [e0, i64_id (by omega)]; omega
  (try simp only [Join_eq, NilCk_some, add_mk, Nat.zero_add, Nat.add_zero, Nat.reduceAdd, Bool.not_true, Bool.not_false, IfB_t, IfB_f, Option.isNone])
  (repeat (first | with_reducible refine Nw.mk h (fun b w h => ?_) | with_reducible refine Drw.mk h (fun w h => ?_) | with_reducible refine Ld.q h hL rfl rfl ?_ | with_reducible refine LdS.q (fun _ h => h) hL rfl rfl ?_ | with_reducible refine Ld.p h hL ?_ | with_reducible refine LdS.p (fun _ h => h) hL ?_ | with_reducible refine Ld.qw h hL rfl ?_ | with_reducible refine LdS.qw (fun _ h => h) hL rfl ?_ | with_reducible refine And.intro h.hb ?_ | (with_reducible refine St.q h hL rfl rfl rfl (fun w h => ?_); dsimp only [spl, over] at h) | with_reducible refine IfB.ntt ?_ | with_reducible refine IfB.nff ?_ | with_reducible refine IfB.t rfl ?_ | with_reducible refine IfB.f rfl ?_ | with_reducible refine IfB.dt (by omega) ?_ | with_reducible refine IfB.df (by omega) ?_ | with_reducible refine IfB.ndt (by omega) ?_ | with_reducible refine IfB.ndf (by omega) ?_ | with_reducible refine IfB.et (by omega) ?_ | with_reducible refine IfB.ef (by omega) ?_ | with_reducible refine IfB.nt (by omega) ?_ | with_reducible refine IfB.nf (by omega) ?_ | with_reducible refine And.intro (by first | omega | decide) ?_))
  refine mvalidL_c h h1 fun w h => ?_
  (repeat (first | with_reducible refine Nw.mk h (fun b w h => ?_) | with_reducible refine Drw.mk h (fun w h => ?_) | with_reducible refine Ld.q h hL rfl rfl ?_ | with_reducible refine LdS.q (fun _ h => h) hL rfl rfl ?_ | with_reducible refine Ld.p h hL ?_ | with_reducible refine LdS.p (fun _ h => h) hL ?_ | with_reducible refine Ld.qw h hL rfl ?_ | with_reducible refine LdS.qw (fun _ h => h) hL rfl ?_ | with_reducible refine And.intro h.hb ?_ | (with_reducible refine St.q h hL rfl rfl rfl (fun w h => ?_); dsimp only [spl, over] at h) | with_reducible refine IfB.ntt ?_ | with_reducible refine IfB.nff ?_ | with_reducible refine IfB.t rfl ?_ | with_reducible refine IfB.f rfl ?_ | with_reducible refine IfB.dt (by omega) ?_ | with_reducible refine IfB.df (by omega) ?_ | with_reducible refine IfB.ndt (by omega) ?_ | with_reducible refine IfB.ndf (by omega) ?_ | with_reducible refine IfB.et (by omega) ?_ | with_reducible refine IfB.ef (by omega) ?_ | with_reducible refine IfB.nt (by omega) ?_ | with_reducible refine IfB.nf (by omega) ?_ | with_reducible refine And.intro (by first | omega | decide) ?_))
  rw [e1]
  (repeat (first | with_reducible refine Nw.mk h (fun b w h => ?_) | with_reducible refine Drw.mk h (fun w h => ?_) | with_reducible refine Ld.q h hL rfl rfl ?_ | with_reducible refine LdS.q (fun _ h => h) hL rfl rfl ?_ | with_reducible refine Ld.p h hL ?_ | with_reducible refine LdS.p (fun _ h => h) hL ?_ | with_reducible refine Ld.qw h hL rfl ?_ | with_reducible refine LdS.qw (fun _ h => h) hL rfl ?_ | with_reducible refine And.intro h.hb ?_ | (with_reducible refine St.q h hL rfl rfl rfl (fun w h => ?_); dsimp only [spl, over] at h) | with_reducible refine IfB.ntt ?_ | with_reducible refine IfB.nff ?_ | with_reducible refine IfB.t rfl ?_ | with_reducible refine IfB.f rfl ?_ | with_reducible refine IfB.dt (by omega) ?_ | with_reducible refine IfB.df (by omega) ?_ | with_reducible refine IfB.ndt (by omega) ?_ | with_reducible refine IfB.ndf (by omega) ?_ | with_reducible refine IfB.et (by omega) ?_ | with_reducible refine IfB.ef (by omega) ?_ | with_reducible refine IfB.nt (by omega) ?_ | with_reducible refine IfB.nf (by omega) ?_ | with_reducible refine And.intro (by first | omega | decide) ?_))
  rw [i64_id (by omega)]
  (repeat (first | with_reducible refine Nw.mk h (fun b w h => ?_) | with_reducible refine Drw.mk h (fun w h => ?_) | with_reducible refine Ld.q h hL rfl rfl ?_ | with_reducible refine LdS.q (fun _ h => h) hL rfl rfl ?_ | with_reducible refine Ld.p h hL ?_ | with_reducible refine LdS.p (fun _ h => h) hL ?_ | with_reducible refine Ld.qw h hL rfl ?_ | with_reducible refine LdS.qw (fun _ h => h) hL rfl ?_ | with_reducible refine And.intro h.hb ?_ | (with_reducible refine St.q h hL rfl rfl rfl (fun w h => ?_); dsimp only [spl, over] at h) | with_reducible refine IfB.ntt ?_ | with_reducible refine IfB.nff ?_ | with_reducible refine IfB.t rfl ?_ | with_reducible refine IfB.f rfl ?_ | with_reducible refine IfB.dt (by omega) ?_ | with_reducible refine IfB.df (by omega) ?_ | with_reducible refine IfB.ndt (by omega) ?_ | with_reducible refine IfB.ndf (by omega) ?_ | with_reducible refine IfB.et (by omega) ?_ | with_reducible refine IfB.ef (by omega) ?_ | with_reducible refine IfB.nt (by omega) ?_ | with_reducible refine IfB.nf (by omega) ?_ | with_reducible refine And.intro (by first | omega | decide) ?_))
  exact hK _ h.tl
theorem sdrun_c {L : List Nat} {left digits : Int} {run : Nat} {d : Bool} {K : Sl → World → Prop} (h : Hp E w F) (hl : L.length = 256) (hr : run ≤ 65536) (hK : ∀ s' w', Hp E w' (OwnS 1 s' ((List.replicate run (L.getD 0 0)).map vB) :: F) → K s' w') :
    Cl Try.prog [kS] n_symdec_run ⟨[.agg (dsA L left (run : Int) digits d)]⟩ w K := by
  have hL := byV_len hl
  refine symdec_run.ok _ _ _ ?_
  unfold symdec_run.E
  (try simp only [Join_eq, NilCk_some, add_mk, Nat.zero_add, Nat.add_zero, Nat.reduceAdd, Bool.not_true, Bool.not_false, IfB_t, IfB_f, Option.isNone])
  (repeat (first | with_reducible refine Nw.mk h (fun b w h => ?_) | with_reducible refine Drw.mk h (fun w h => ?_) | with_reducible refine Ld.q h hL rfl rfl ?_ | with_reducible refine LdS.q (fun _ h => h) hL rfl rfl ?_ | with_reducible refine Ld.p h hL ?_ | with_reducible refine LdS.p (fun _ h => h) hL ?_ | with_reducible refine Ld.qw h hL rfl ?_ | with_reducible refine LdS.qw (fun _ h => h) hL rfl ?_ | with_reducible refine And.intro h.hb ?_ | (with_reducible refine St.q h hL rfl rfl rfl (fun w h => ?_); dsimp only [spl, over] at h) | with_reducible refine IfB.ntt ?_ | with_reducible refine IfB.nff ?_ | with_reducible refine IfB.t rfl ?_ | with_reducible refine IfB.f rfl ?_ | with_reducible refine IfB.dt (by omega) ?_ | with_reducible refine IfB.df (by omega) ?_ | with_reducible refine IfB.ndt (by omega) ?_ | with_reducible refine IfB.ndf (by omega) ?_ | with_reducible refine IfB.et (by omega) ?_ | with_reducible refine IfB.ef (by omega) ?_ | with_reducible refine IfB.nt (by omega) ?_ | with_reducible refine IfB.nf (by omega) ?_ | with_reducible refine And.intro (by first | omega | decide) ?_))
  refine ⟨by omega, by omega, by omega, by simp, ?_⟩
  rw [if_neg (by decide)]
  simp only [Option.map_some, add_mk, show (0 : Int).toNat = 0 from rfl, Nat.zero_mul, Nat.zero_add, show (1 : Int).toNat = 1 from rfl, show (256 : Int).toNat = 256 from rfl, Nat.sub_zero]
  (repeat (first | with_reducible refine Nw.mk h (fun b w h => ?_) | with_reducible refine Drw.mk h (fun w h => ?_) | with_reducible refine Ld.q h hL rfl rfl ?_ | with_reducible refine LdS.q (fun _ h => h) hL rfl rfl ?_ | with_reducible refine Ld.p h hL ?_ | with_reducible refine LdS.p (fun _ h => h) hL ?_ | with_reducible refine Ld.qw h hL rfl ?_ | with_reducible refine LdS.qw (fun _ h => h) hL rfl ?_ | with_reducible refine And.intro h.hb ?_ | (with_reducible refine St.q h hL rfl rfl rfl (fun w h => ?_); dsimp only [spl, over] at h) | with_reducible refine IfB.ntt ?_ | with_reducible refine IfB.nff ?_ | with_reducible refine IfB.t rfl ?_ | with_reducible refine IfB.f rfl ?_ | with_reducible refine IfB.dt (by omega) ?_ | with_reducible refine IfB.df (by omega) ?_ | with_reducible refine IfB.ndt (by omega) ?_ | with_reducible refine IfB.ndf (by omega) ?_ | with_reducible refine IfB.et (by omega) ?_ | with_reducible refine IfB.ef (by omega) ?_ | with_reducible refine IfB.nt (by omega) ?_ | with_reducible refine IfB.nf (by omega) ?_ | with_reducible refine And.intro (by first | omega | decide) ?_))
  refine repeat_c (s := ⟨some ⟨b, 0, none⟩, 1, 256⟩) (c := L.getD 0 0) h ?_ hr fun s' w h => hK _ _ (h.at 1).drop
  rintro w' f a ⟨g, k, hd, rfl, rfl, h2⟩
  refine ⟨rfl, fun i hi => ⟨⟨b, 0, none⟩, rfl, ?_⟩⟩
  have : w'.heap[b]? = some (.cells (dsA L left (run : Int) digits d) 66 (0, 0)) := a b _ (by simp [Frag.add, Frag.one])
  simp only [List.length_singleton] at hi
  have hi0 : i = 0 := by omega
  subst hi0
  rw [add_mk]
  simp only [World.cell?, this]
  simp [List.getElem?_append, hl, List.getD_eq_getElem?_getD]
theorem sdstep_c {d : DS} {s : Nat} {K : Array Value → Sl → Bool → World → Prop} (h : Hp E w F) (hd : DsOk d) (hs : s < 258)
    (hn : ∀ o sl w', dsym d s = none → o.size = 260 → o.toList.all scalarB = true → Hp E w' F → K o sl false w')
    (hm : ∀ d' t sl w', dsym d s = some (d', t, false) → Hp E w' (OwnS 1 sl (t.map vB) :: F) → K (dsA d'.L (d'.left : Int) (d'.run : Int) (d'.digits : Int) false) sl true w')
    (he : ∀ d' t sl w', dsym d s = some (d', t, true) → Hp E w' (OwnS 1 sl (t.map vB) :: F) → K (dsA d.L 0 0 0 true) sl true w') :
    Cl Try.prog [.arr 260, kS, kB] n_symdec_step ⟨[.agg (dsA d.L (d.left : Int) (d.run : Int) (d.digits : Int) false), .int .i64 (s : Int)]⟩ w K := by
  have hdig := hd.dig
  obtain ⟨L, left, run, digits⟩ := d
  obtain ⟨h1, h2, h3, h4, h5⟩ := hd
  unfold dsym at hn hm he
  dsimp only at h1 h2 h3 h4 h5 hdig hn hm he ⊢
  have hl := h1.len
  have hL := byV_len hl
  have hz : (⟨List.replicate 256 (.int .u8 0) ++ [.int .i64 0, .int .i64 0, .int .i64 0, .bool false]⟩ : Array Value).size = 260 := by simp
  have hp : 2 ^ digits ≤ 65536 := Nat.pow_le_pow_right (n := 2) (by decide) hdig
  refine symdec_step.ok _ _ _ _ ?_
  unfold symdec_step.E
  (try simp only [Join_eq, NilCk_some, add_mk, Nat.zero_add, Nat.add_zero, Nat.reduceAdd, Bool.not_true, Bool.not_false, IfB_t, IfB_f, Option.isNone])
  refine Nw.mk h fun b4 w h => Nw.mk h fun b6 w h => ?_
  by_cases hs2 : s < 2
  · simp only [if_pos hs2] at hn hm he
    have hb : (1 + s) * 2 ^ digits ≤ 131072 := by
      have := Nat.mul_le_mul (show 1 + s ≤ 2 by omega) hp
      omega
    have fin : ∀ w, Hp E w (Blk b6 (.cells ⟨List.replicate 256 (.int .u8 0) ++ [.int .i64 0, .int .i64 0, .int .i64 0, .bool false]⟩ 66 (0, 0)) :: Blk b4 (.cells (dsA L (left : Int) (run : Int) (digits : Int) false) 66 (0, 0)) :: F) → 
      Ld kI ⟨b4, 257, none⟩ w fun (Run10 : Int) => Ld kI ⟨b4, 258, none⟩ w fun (Digits11 : Int) =>
      Cl Try.prog [kI, kI] n_zerorun_Add ⟨[.int .i64 Run10, .int .i64 Digits11, .int .i64 (s : Int)]⟩ w fun r13 _ w_12 =>
      St ⟨b4, 257, none⟩ (.int .i64 r13) w_12 fun w_15 => Ld kI ⟨b4, 258, none⟩ w_15 fun (Digits16 : Int) => St ⟨b4, 258, none⟩ (.int .i64 (i64 (Digits16 + 1))) w_15 fun w_17 =>
      Held w_17 fun S18 w_19 => LdS (.arr 260) ⟨b4, 0, none⟩ S18 fun x20 => LdS kI ⟨b4, 257, none⟩ S18 fun (Run21 : Int) => LdS kI ⟨b4, 256, none⟩ S18 fun (Left22 : Int) =>
      StA 260 ⟨b6, 0, none⟩ x20 w_19 fun w_23 => S18 w_23 ∧ Ld (.arr 260) ⟨b6, 0, none⟩ w_23 fun res24 => K res24 ⟨none, 0, 0⟩ (decide (Run21 ≤ Left22)) w_23 := by
      intro w h
      (repeat (first | with_reducible refine Nw.mk h (fun b w h => ?_) | with_reducible refine Drw.mk h (fun w h => ?_) | with_reducible refine Ld.q h hL rfl rfl ?_ | with_reducible refine LdS.q (fun _ h => h) hL rfl rfl ?_ | with_reducible refine Ld.p h hL ?_ | with_reducible refine LdS.p (fun _ h => h) hL ?_ | with_reducible refine Ld.qw h hL rfl ?_ | with_reducible refine LdS.qw (fun _ h => h) hL rfl ?_ | with_reducible refine And.intro h.hb ?_ | (with_reducible refine St.q h hL rfl rfl rfl (fun w h => ?_); dsimp only [spl, over] at h) | with_reducible refine IfB.ntt ?_ | with_reducible refine IfB.nff ?_ | with_reducible refine IfB.t rfl ?_ | with_reducible refine IfB.f rfl ?_ | with_reducible refine IfB.dt (by omega) ?_ | with_reducible refine IfB.df (by omega) ?_ | with_reducible refine IfB.ndt (by omega) ?_ | with_reducible refine IfB.ndf (by omega) ?_ | with_reducible refine IfB.et (by omega) ?_ | with_reducible refine IfB.ef (by omega) ?_ | with_reducible refine IfB.nt (by omega) ?_ | with_reducible refine IfB.nf (by omega) ?_ | with_reducible refine And.intro (by first | omega | decide) ?_))
      refine zadd_c (by omega) hdig (by omega) ?_
      generalize (1 + s) * 2 ^ digits = q at hb hm hn ⊢
      (repeat (first | with_reducible refine Nw.mk h (fun b w h => ?_) | with_reducible refine Drw.mk h (fun w h => ?_) | with_reducible refine Ld.q h hL rfl rfl ?_ | with_reducible refine LdS.q (fun _ h => h) hL rfl rfl ?_ | with_reducible refine Ld.p h hL ?_ | with_reducible refine LdS.p (fun _ h => h) hL ?_ | with_reducible refine Ld.qw h hL rfl ?_ | with_reducible refine LdS.qw (fun _ h => h) hL rfl ?_ | with_reducible refine And.intro h.hb ?_ | (with_reducible refine St.q h hL rfl rfl rfl (fun w h => ?_); dsimp only [spl, over] at h) | with_reducible refine IfB.ntt ?_ | with_reducible refine IfB.nff ?_ | with_reducible refine IfB.t rfl ?_ | with_reducible refine IfB.f rfl ?_ | with_reducible refine IfB.dt (by omega) ?_ | with_reducible refine IfB.df (by omega) ?_ | with_reducible refine IfB.ndt (by omega) ?_ | with_reducible refine IfB.ndf (by omega) ?_ | with_reducible refine IfB.et (by omega) ?_ | with_reducible refine IfB.ef (by omega) ?_ | with_reducible refine IfB.nt (by omega) ?_ | with_reducible refine IfB.nf (by omega) ?_ | with_reducible refine And.intro (by first | omega | decide) ?_))
      rw [i64_id (by omega)] at h
      have h := h.drew (n := w.drawn + 1)
      refine ⟨HoldB b4 _ _ _, h.hb, ?_⟩
      dsimp only
      (repeat (first | with_reducible refine Nw.mk h (fun b w h => ?_) | with_reducible refine Drw.mk h (fun w h => ?_) | with_reducible refine Ld.q h hL rfl rfl ?_ | with_reducible refine LdS.q (fun _ h => h) hL rfl rfl ?_ | with_reducible refine Ld.p h hL ?_ | with_reducible refine LdS.p (fun _ h => h) hL ?_ | with_reducible refine Ld.qw h hL rfl ?_ | with_reducible refine LdS.qw (fun _ h => h) hL rfl ?_ | with_reducible refine And.intro h.hb ?_ | (with_reducible refine St.q h hL rfl rfl rfl (fun w h => ?_); dsimp only [spl, over] at h) | with_reducible refine IfB.ntt ?_ | with_reducible refine IfB.nff ?_ | with_reducible refine IfB.t rfl ?_ | with_reducible refine IfB.f rfl ?_ | with_reducible refine IfB.dt (by omega) ?_ | with_reducible refine IfB.df (by omega) ?_ | with_reducible refine IfB.ndt (by omega) ?_ | with_reducible refine IfB.ndf (by omega) ?_ | with_reducible refine IfB.et (by omega) ?_ | with_reducible refine IfB.ef (by omega) ?_ | with_reducible refine IfB.nt (by omega) ?_ | with_reducible refine IfB.nf (by omega) ?_ | with_reducible refine And.intro (by first | omega | decide) ?_))
      refine StA.q h hz (dsA_size hl) dsA_scalar fun w h => ⟨h.hb, ?_⟩
      (repeat (first | with_reducible refine Nw.mk h (fun b w h => ?_) | with_reducible refine Drw.mk h (fun w h => ?_) | with_reducible refine Ld.q h hL rfl rfl ?_ | with_reducible refine LdS.q (fun _ h => h) hL rfl rfl ?_ | with_reducible refine Ld.p h hL ?_ | with_reducible refine LdS.p (fun _ h => h) hL ?_ | with_reducible refine Ld.qw h hL rfl ?_ | with_reducible refine LdS.qw (fun _ h => h) hL rfl ?_ | with_reducible refine And.intro h.hb ?_ | (with_reducible refine St.q h hL rfl rfl rfl (fun w h => ?_); dsimp only [spl, over] at h) | with_reducible refine IfB.ntt ?_ | with_reducible refine IfB.nff ?_ | with_reducible refine IfB.t rfl ?_ | with_reducible refine IfB.f rfl ?_ | with_reducible refine IfB.dt (by omega) ?_ | with_reducible refine IfB.df (by omega) ?_ | with_reducible refine IfB.ndt (by omega) ?_ | with_reducible refine IfB.ndf (by omega) ?_ | with_reducible refine IfB.et (by omega) ?_ | with_reducible refine IfB.ef (by omega) ?_ | with_reducible refine IfB.nt (by omega) ?_ | with_reducible refine IfB.nf (by omega) ?_ | with_reducible refine And.intro (by first | omega | decide) ?_))
      by_cases hle : run + q ≤ left
      · rw [if_pos hle] at hm
        exact as1 (K := fun b w => K _ _ b w) (decide_eq_true (by omega)) (hm ⟨L, left, run + q, digits + 1⟩ [] _ _ rfl (h.tl.ownNil 1))
      · rw [if_neg hle] at hn
        exact as1 (K := fun b w => K _ _ b w) (decide_eq_false (by omega)) (hn _ _ _ rfl (dsA_size hl) dsA_scalar h.tl)
    by_cases h0 : s = 0
    · exact IfB.et (by omega) (fin _ h)
    · refine IfB.ef (by omega) ?_
      exact IfB.et (by omega) (fin _ h)
  · simp only [if_neg hs2] at hn hm he
    refine IfB.ef (by omega) (IfB.ef (by omega) ?_)
    by_cases hs3 : s = 257
    · simp only [if_pos hs3] at hn hm he
      refine IfB.et (by omega) ?_
      have h := h.drew (n := w.drawn + 1)
      refine ⟨HoldB b4 _ _ _, h.hb, ?_⟩
      dsimp only
      (repeat (first | with_reducible refine Nw.mk h (fun b w h => ?_) | with_reducible refine Drw.mk h (fun w h => ?_) | with_reducible refine Ld.q h hL rfl rfl ?_ | with_reducible refine LdS.q (fun _ h => h) hL rfl rfl ?_ | with_reducible refine Ld.p h hL ?_ | with_reducible refine LdS.p (fun _ h => h) hL ?_ | with_reducible refine Ld.qw h hL rfl ?_ | with_reducible refine LdS.qw (fun _ h => h) hL rfl ?_ | with_reducible refine And.intro h.hb ?_ | (with_reducible refine St.q h hL rfl rfl rfl (fun w h => ?_); dsimp only [spl, over] at h) | with_reducible refine IfB.ntt ?_ | with_reducible refine IfB.nff ?_ | with_reducible refine IfB.t rfl ?_ | with_reducible refine IfB.f rfl ?_ | with_reducible refine IfB.dt (by omega) ?_ | with_reducible refine IfB.df (by omega) ?_ | with_reducible refine IfB.ndt (by omega) ?_ | with_reducible refine IfB.ndf (by omega) ?_ | with_reducible refine IfB.et (by omega) ?_ | with_reducible refine IfB.ef (by omega) ?_ | with_reducible refine IfB.nt (by omega) ?_ | with_reducible refine IfB.nf (by omega) ?_ | with_reducible refine And.intro (by first | omega | decide) ?_))
      refine Bld.ds4 hl ?_
      (repeat (first | with_reducible refine Nw.mk h (fun b w h => ?_) | with_reducible refine Drw.mk h (fun w h => ?_) | with_reducible refine Ld.q h hL rfl rfl ?_ | with_reducible refine LdS.q (fun _ h => h) hL rfl rfl ?_ | with_reducible refine Ld.p h hL ?_ | with_reducible refine LdS.p (fun _ h => h) hL ?_ | with_reducible refine Ld.qw h hL rfl ?_ | with_reducible refine LdS.qw (fun _ h => h) hL rfl ?_ | with_reducible refine And.intro h.hb ?_ | (with_reducible refine St.q h hL rfl rfl rfl (fun w h => ?_); dsimp only [spl, over] at h) | with_reducible refine IfB.ntt ?_ | with_reducible refine IfB.nff ?_ | with_reducible refine IfB.t rfl ?_ | with_reducible refine IfB.f rfl ?_ | with_reducible refine IfB.dt (by omega) ?_ | with_reducible refine IfB.df (by omega) ?_ | with_reducible refine IfB.ndt (by omega) ?_ | with_reducible refine IfB.ndf (by omega) ?_ | with_reducible refine IfB.et (by omega) ?_ | with_reducible refine IfB.ef (by omega) ?_ | with_reducible refine IfB.nt (by omega) ?_ | with_reducible refine IfB.nf (by omega) ?_ | with_reducible refine And.intro (by first | omega | decide) ?_))
      refine sdrun_c h hl (by omega) fun sl w h => ⟨h.hb, ?_⟩
      refine StA.q h hz (dsA_size hl) dsA_scalar fun w h => ⟨h.hb, ?_⟩
      refine Ld.xw h (dsA_size hl) ?_
      by_cases hrl : run = left
      · rw [if_pos hrl] at he
        exact as1 (K := fun b w => K _ _ b w) (beq_iff_eq.2 (by omega)) (he _ _ _ _ rfl ((h.no 1).no 1))
      · rw [if_neg hrl] at hn
        exact as1 (K := fun b w => K _ _ b w) (beq_eq_false_iff_ne.2 (by omega)) (hn _ _ _ rfl (dsA_size hl) dsA_scalar h.tl)
    · simp only [if_neg hs3] at hn hm he
      refine IfB.ef (by omega) ?_
      (repeat (first | with_reducible refine Nw.mk h (fun b w h => ?_) | with_reducible refine Drw.mk h (fun w h => ?_) | with_reducible refine Ld.q h hL rfl rfl ?_ | with_reducible refine LdS.q (fun _ h => h) hL rfl rfl ?_ | with_reducible refine Ld.p h hL ?_ | with_reducible refine LdS.p (fun _ h => h) hL ?_ | with_reducible refine Ld.qw h hL rfl ?_ | with_reducible refine LdS.qw (fun _ h => h) hL rfl ?_ | with_reducible refine And.intro h.hb ?_ | (with_reducible refine St.q h hL rfl rfl rfl (fun w h => ?_); dsimp only [spl, over] at h) | with_reducible refine IfB.ntt ?_ | with_reducible refine IfB.nff ?_ | with_reducible refine IfB.t rfl ?_ | with_reducible refine IfB.f rfl ?_ | with_reducible refine IfB.dt (by omega) ?_ | with_reducible refine IfB.df (by omega) ?_ | with_reducible refine IfB.ndt (by omega) ?_ | with_reducible refine IfB.ndf (by omega) ?_ | with_reducible refine IfB.et (by omega) ?_ | with_reducible refine IfB.ef (by omega) ?_ | with_reducible refine IfB.nt (by omega) ?_ | with_reducible refine IfB.nf (by omega) ?_ | with_reducible refine And.intro (by first | omega | decide) ?_))
      by_cases hrl : run = left
      · rw [if_pos hrl] at hn
        refine IfB.et (by omega) ?_
        (repeat (first | with_reducible refine Nw.mk h (fun b w h => ?_) | with_reducible refine Drw.mk h (fun w h => ?_) | with_reducible refine Ld.q h hL rfl rfl ?_ | with_reducible refine LdS.q (fun _ h => h) hL rfl rfl ?_ | with_reducible refine Ld.p h hL ?_ | with_reducible refine LdS.p (fun _ h => h) hL ?_ | with_reducible refine Ld.qw h hL rfl ?_ | with_reducible refine LdS.qw (fun _ h => h) hL rfl ?_ | with_reducible refine And.intro h.hb ?_ | (with_reducible refine St.q h hL rfl rfl rfl (fun w h => ?_); dsimp only [spl, over] at h) | with_reducible refine IfB.ntt ?_ | with_reducible refine IfB.nff ?_ | with_reducible refine IfB.t rfl ?_ | with_reducible refine IfB.f rfl ?_ | with_reducible refine IfB.dt (by omega) ?_ | with_reducible refine IfB.df (by omega) ?_ | with_reducible refine IfB.ndt (by omega) ?_ | with_reducible refine IfB.ndf (by omega) ?_ | with_reducible refine IfB.et (by omega) ?_ | with_reducible refine IfB.ef (by omega) ?_ | with_reducible refine IfB.nt (by omega) ?_ | with_reducible refine IfB.nf (by omega) ?_ | with_reducible refine And.intro (by first | omega | decide) ?_))
        refine StA.q h hz (dsA_size hl) dsA_scalar fun w h => ?_
        (repeat (first | with_reducible refine Nw.mk h (fun b w h => ?_) | with_reducible refine Drw.mk h (fun w h => ?_) | with_reducible refine Ld.q h hL rfl rfl ?_ | with_reducible refine LdS.q (fun _ h => h) hL rfl rfl ?_ | with_reducible refine Ld.p h hL ?_ | with_reducible refine LdS.p (fun _ h => h) hL ?_ | with_reducible refine Ld.qw h hL rfl ?_ | with_reducible refine LdS.qw (fun _ h => h) hL rfl ?_ | with_reducible refine And.intro h.hb ?_ | (with_reducible refine St.q h hL rfl rfl rfl (fun w h => ?_); dsimp only [spl, over] at h) | with_reducible refine IfB.ntt ?_ | with_reducible refine IfB.nff ?_ | with_reducible refine IfB.t rfl ?_ | with_reducible refine IfB.f rfl ?_ | with_reducible refine IfB.dt (by omega) ?_ | with_reducible refine IfB.df (by omega) ?_ | with_reducible refine IfB.ndt (by omega) ?_ | with_reducible refine IfB.ndf (by omega) ?_ | with_reducible refine IfB.et (by omega) ?_ | with_reducible refine IfB.ef (by omega) ?_ | with_reducible refine IfB.nt (by omega) ?_ | with_reducible refine IfB.nf (by omega) ?_ | with_reducible refine And.intro (by first | omega | decide) ?_))
        exact hn _ _ _ rfl (dsA_size hl) dsA_scalar h.tl
      · rw [if_neg hrl] at hm
        refine IfB.ef (by omega) ?_
        (repeat (first | with_reducible refine Nw.mk h (fun b w h => ?_) | with_reducible refine Drw.mk h (fun w h => ?_) | with_reducible refine Ld.q h hL rfl rfl ?_ | with_reducible refine LdS.q (fun _ h => h) hL rfl rfl ?_ | with_reducible refine Ld.p h hL ?_ | with_reducible refine LdS.p (fun _ h => h) hL ?_ | with_reducible refine Ld.qw h hL rfl ?_ | with_reducible refine LdS.qw (fun _ h => h) hL rfl ?_ | with_reducible refine And.intro h.hb ?_ | (with_reducible refine St.q h hL rfl rfl rfl (fun w h => ?_); dsimp only [spl, over] at h) | with_reducible refine IfB.ntt ?_ | with_reducible refine IfB.nff ?_ | with_reducible refine IfB.t rfl ?_ | with_reducible refine IfB.f rfl ?_ | with_reducible refine IfB.dt (by omega) ?_ | with_reducible refine IfB.df (by omega) ?_ | with_reducible refine IfB.ndt (by omega) ?_ | with_reducible refine IfB.ndf (by omega) ?_ | with_reducible refine IfB.et (by omega) ?_ | with_reducible refine IfB.ef (by omega) ?_ | with_reducible refine IfB.nt (by omega) ?_ | with_reducible refine IfB.nf (by omega) ?_ | with_reducible refine And.intro (by first | omega | decide) ?_))
        rw [i64_id (by omega), show (s : Int) - 1 = ((s - 1 : Nat) : Int) by omega]
        refine mtake_c h hl (by omega) fun w h => ?_
        have hml : (mtake L (s - 1)).length = 256 := by rw [mtake_len (by omega)]; exact hl
        have hM : (⟨byV (mtake L (s - 1))⟩ : Array Value).size = 256 := by simp [hml]
        refine Nw.mk h fun b47 w h => ?_
        refine StA.q h (by simp) hM byV_scalar fun w h => ?_
        (repeat (first | with_reducible refine Nw.mk h (fun b w h => ?_) | with_reducible refine Drw.mk h (fun w h => ?_) | with_reducible refine Ld.q h hL rfl rfl ?_ | with_reducible refine LdS.q (fun _ h => h) hL rfl rfl ?_ | with_reducible refine Ld.p h hL ?_ | with_reducible refine LdS.p (fun _ h => h) hL ?_ | with_reducible refine Ld.qw h hL rfl ?_ | with_reducible refine LdS.qw (fun _ h => h) hL rfl ?_ | with_reducible refine And.intro h.hb ?_ | (with_reducible refine St.q h hL rfl rfl rfl (fun w h => ?_); dsimp only [spl, over] at h) | with_reducible refine IfB.ntt ?_ | with_reducible refine IfB.nff ?_ | with_reducible refine IfB.t rfl ?_ | with_reducible refine IfB.f rfl ?_ | with_reducible refine IfB.dt (by omega) ?_ | with_reducible refine IfB.df (by omega) ?_ | with_reducible refine IfB.ndt (by omega) ?_ | with_reducible refine IfB.ndf (by omega) ?_ | with_reducible refine IfB.et (by omega) ?_ | with_reducible refine IfB.ef (by omega) ?_ | with_reducible refine IfB.nt (by omega) ?_ | with_reducible refine IfB.nf (by omega) ?_ | with_reducible refine And.intro (by first | omega | decide) ?_))
        refine sdrun_c h hl (by omega) fun sl w h => ?_
        refine Nw.mk h fun b53 w h => ?_
        have hsl := (h.at 1).ownLen
        simp only [List.length_map, List.length_replicate, Nat.mul_one] at hsl
        refine run_append (ys := [vB (L.getD (s - 1) 0)]) (n := 1) ty_bytes2 (by decide) (.inl ⟨5, by kernel_rfl⟩) (h.at 1) (.inl ⟨some ⟨b53, 0, none⟩, 1, 1, rfl, rfl, h.tells (Tells.blk rfl rfl)⟩) rfl (fun y hy => by simp at hy; subst hy; rfl) (by omega) (by omega) fun s' w h hs' => ?_
        refine Ld.xw h hM ?_
        (repeat (first | with_reducible refine Nw.mk h (fun b w h => ?_) | with_reducible refine Drw.mk h (fun w h => ?_) | with_reducible refine Ld.q h hL rfl rfl ?_ | with_reducible refine LdS.q (fun _ h => h) hL rfl rfl ?_ | with_reducible refine Ld.p h hL ?_ | with_reducible refine LdS.p (fun _ h => h) hL ?_ | with_reducible refine Ld.qw h hL rfl ?_ | with_reducible refine LdS.qw (fun _ h => h) hL rfl ?_ | with_reducible refine And.intro h.hb ?_ | (with_reducible refine St.q h hL rfl rfl rfl (fun w h => ?_); dsimp only [spl, over] at h) | with_reducible refine IfB.ntt ?_ | with_reducible refine IfB.nff ?_ | with_reducible refine IfB.t rfl ?_ | with_reducible refine IfB.f rfl ?_ | with_reducible refine IfB.dt (by omega) ?_ | with_reducible refine IfB.df (by omega) ?_ | with_reducible refine IfB.ndt (by omega) ?_ | with_reducible refine IfB.ndf (by omega) ?_ | with_reducible refine IfB.et (by omega) ?_ | with_reducible refine IfB.ef (by omega) ?_ | with_reducible refine IfB.nt (by omega) ?_ | with_reducible refine IfB.nf (by omega) ?_ | with_reducible refine And.intro (by first | omega | decide) ?_))
        rw [hs', i64_id (by omega), show (left : Int) - ((sl.len + 1 : Nat) : Int) = ((left - (run + 1) : Nat) : Int) by omega]
        refine Bld.ds1 hml ?_
        refine StA.q h hz (dsA_size hml) dsA_scalar fun w h => ?_
        refine Ld.xw h (dsA_size hml) ?_
        refine hm ⟨mtake L (s - 1), left - (run + 1), 0, 0⟩ _ _ _ rfl ?_
        have e : (List.replicate run (L.getD 0 0)).map vB ++ [vB (L.getD (s - 1) 0)] = (List.replicate run (L.getD 0 0) ++ [L.getD (s - 1) 0]).map vB := by simp
        rw [e] at h
        exact (((h.no 1).no 1).no 1).no 1
theorem sdStep_c {d : DS} {s : Nat} {K : Array Value → Sl → Bool → Int → World → Prop} (h : Hp E w F) (hd : DsOk d) (hs : s < 258)
    (hn : ∀ o w', dsym d s = none → o.size = 260 → o.toList.all scalarB = true → Hp E w' F → K o ⟨none, 0, 0⟩ false 160 w')
    (hm : ∀ d' t sl w', dsym d s = some (d', t, false) → Hp E w' (OwnS 1 sl (t.map vB) :: F) → K (dsA d'.L (d'.left : Int) (d'.run : Int) (d'.digits : Int) false) sl false 0 w')
    (he : ∀ d' t sl w', dsym d s = some (d', t, true) → Hp E w' (OwnS 1 sl (t.map vB) :: F) → K (dsA d.L 0 0 0 true) sl true 0 w') :
    Cl Try.prog [.arr 260, kS, kB, kI] n_symdec_Step ⟨[.agg (dsA d.L (d.left : Int) (d.run : Int) (d.digits : Int) false), .int .i64 (s : Int)]⟩ w K := by
  have hl := hd.1.len
  have hL := byV_len hl
  have hz : (⟨List.replicate 256 (.int .u8 0) ++ [.int .i64 0, .int .i64 0, .int .i64 0, .bool false]⟩ : Array Value).size = 260 := by simp
  refine symdec_Step.ok _ _ _ _ ?_
  unfold symdec_Step.E
  (try simp only [Join_eq, NilCk_some, add_mk, Nat.zero_add, Nat.add_zero, Nat.reduceAdd, Bool.not_true, Bool.not_false, IfB_t, IfB_f, Option.isNone])
  refine Nw.mk h fun b4 w h => Nw.mk h fun b6 w h => ?_
  (repeat (first | with_reducible refine Nw.mk h (fun b w h => ?_) | with_reducible refine Drw.mk h (fun w h => ?_) | with_reducible refine Ld.q h hL rfl rfl ?_ | with_reducible refine LdS.q (fun _ h => h) hL rfl rfl ?_ | with_reducible refine Ld.p h hL ?_ | with_reducible refine LdS.p (fun _ h => h) hL ?_ | with_reducible refine Ld.qw h hL rfl ?_ | with_reducible refine LdS.qw (fun _ h => h) hL rfl ?_ | with_reducible refine And.intro h.hb ?_ | (with_reducible refine St.q h hL rfl rfl rfl (fun w h => ?_); dsimp only [spl, over] at h) | with_reducible refine IfB.ntt ?_ | with_reducible refine IfB.nff ?_ | with_reducible refine IfB.t rfl ?_ | with_reducible refine IfB.f rfl ?_ | with_reducible refine IfB.dt (by omega) ?_ | with_reducible refine IfB.df (by omega) ?_ | with_reducible refine IfB.ndt (by omega) ?_ | with_reducible refine IfB.ndf (by omega) ?_ | with_reducible refine IfB.et (by omega) ?_ | with_reducible refine IfB.ef (by omega) ?_ | with_reducible refine IfB.nt (by omega) ?_ | with_reducible refine IfB.nf (by omega) ?_ | with_reducible refine And.intro (by first | omega | decide) ?_))
  refine sdvalid_c h hd fun w h => ?_
  (repeat (first | with_reducible refine Nw.mk h (fun b w h => ?_) | with_reducible refine Drw.mk h (fun w h => ?_) | with_reducible refine Ld.q h hL rfl rfl ?_ | with_reducible refine LdS.q (fun _ h => h) hL rfl rfl ?_ | with_reducible refine Ld.p h hL ?_ | with_reducible refine LdS.p (fun _ h => h) hL ?_ | with_reducible refine Ld.qw h hL rfl ?_ | with_reducible refine LdS.qw (fun _ h => h) hL rfl ?_ | with_reducible refine And.intro h.hb ?_ | (with_reducible refine St.q h hL rfl rfl rfl (fun w h => ?_); dsimp only [spl, over] at h) | with_reducible refine IfB.ntt ?_ | with_reducible refine IfB.nff ?_ | with_reducible refine IfB.t rfl ?_ | with_reducible refine IfB.f rfl ?_ | with_reducible refine IfB.dt (by omega) ?_ | with_reducible refine IfB.df (by omega) ?_ | with_reducible refine IfB.ndt (by omega) ?_ | with_reducible refine IfB.ndf (by omega) ?_ | with_reducible refine IfB.et (by omega) ?_ | with_reducible refine IfB.ef (by omega) ?_ | with_reducible refine IfB.nt (by omega) ?_ | with_reducible refine IfB.nf (by omega) ?_ | with_reducible refine And.intro (by first | omega | decide) ?_))
  refine sdstep_c h hd hs (fun o sl w hq ho hos h => ?_) (fun d' t sl w hq h => ?_) (fun d' t sl w hq h => ?_)
  · refine StA.q h hz ho hos fun w h => ?_
    (repeat (first | with_reducible refine Nw.mk h (fun b w h => ?_) | with_reducible refine Drw.mk h (fun w h => ?_) | with_reducible refine Ld.q h hL rfl rfl ?_ | with_reducible refine LdS.q (fun _ h => h) hL rfl rfl ?_ | with_reducible refine Ld.p h hL ?_ | with_reducible refine LdS.p (fun _ h => h) hL ?_ | with_reducible refine Ld.qw h hL rfl ?_ | with_reducible refine LdS.qw (fun _ h => h) hL rfl ?_ | with_reducible refine And.intro h.hb ?_ | (with_reducible refine St.q h hL rfl rfl rfl (fun w h => ?_); dsimp only [spl, over] at h) | with_reducible refine IfB.ntt ?_ | with_reducible refine IfB.nff ?_ | with_reducible refine IfB.t rfl ?_ | with_reducible refine IfB.f rfl ?_ | with_reducible refine IfB.dt (by omega) ?_ | with_reducible refine IfB.df (by omega) ?_ | with_reducible refine IfB.ndt (by omega) ?_ | with_reducible refine IfB.ndf (by omega) ?_ | with_reducible refine IfB.et (by omega) ?_ | with_reducible refine IfB.ef (by omega) ?_ | with_reducible refine IfB.nt (by omega) ?_ | with_reducible refine IfB.nf (by omega) ?_ | with_reducible refine And.intro (by first | omega | decide) ?_))
    refine StA.q h ho (dsA_size hl) dsA_scalar fun w h => ?_
    refine Ld.xw h (dsA_size hl) ?_
    exact hn _ _ hq (dsA_size hl) dsA_scalar h.tl
  · have hl' := (dsym_ok hd hs hq).1.1.len
    have hL := byV_len hl'
    refine StA.q h hz (dsA_size hl') dsA_scalar fun w h => ?_
    (repeat (first | with_reducible refine Nw.mk h (fun b w h => ?_) | with_reducible refine Drw.mk h (fun w h => ?_) | with_reducible refine Ld.q h hL rfl rfl ?_ | with_reducible refine LdS.q (fun _ h => h) hL rfl rfl ?_ | with_reducible refine Ld.p h hL ?_ | with_reducible refine LdS.p (fun _ h => h) hL ?_ | with_reducible refine Ld.qw h hL rfl ?_ | with_reducible refine LdS.qw (fun _ h => h) hL rfl ?_ | with_reducible refine And.intro h.hb ?_ | (with_reducible refine St.q h hL rfl rfl rfl (fun w h => ?_); dsimp only [spl, over] at h) | with_reducible refine IfB.ntt ?_ | with_reducible refine IfB.nff ?_ | with_reducible refine IfB.t rfl ?_ | with_reducible refine IfB.f rfl ?_ | with_reducible refine IfB.dt (by omega) ?_ | with_reducible refine IfB.df (by omega) ?_ | with_reducible refine IfB.ndt (by omega) ?_ | with_reducible refine IfB.ndf (by omega) ?_ | with_reducible refine IfB.et (by omega) ?_ | with_reducible refine IfB.ef (by omega) ?_ | with_reducible refine IfB.nt (by omega) ?_ | with_reducible refine IfB.nf (by omega) ?_ | with_reducible refine And.intro (by first | omega | decide) ?_))
    refine StA.q h (dsA_size hl') (dsA_size hl') dsA_scalar fun w h => ?_
    refine Ld.xw h (dsA_size hl') ?_
    exact hm _ _ _ _ hq ((h.no 1).no 1)
  · refine StA.q h hz (dsA_size hl) dsA_scalar fun w h => ?_
    (repeat (first | with_reducible refine Nw.mk h (fun b w h => ?_) | with_reducible refine Drw.mk h (fun w h => ?_) | with_reducible refine Ld.q h hL rfl rfl ?_ | with_reducible refine LdS.q (fun _ h => h) hL rfl rfl ?_ | with_reducible refine Ld.p h hL ?_ | with_reducible refine LdS.p (fun _ h => h) hL ?_ | with_reducible refine Ld.qw h hL rfl ?_ | with_reducible refine LdS.qw (fun _ h => h) hL rfl ?_ | with_reducible refine And.intro h.hb ?_ | (with_reducible refine St.q h hL rfl rfl rfl (fun w h => ?_); dsimp only [spl, over] at h) | with_reducible refine IfB.ntt ?_ | with_reducible refine IfB.nff ?_ | with_reducible refine IfB.t rfl ?_ | with_reducible refine IfB.f rfl ?_ | with_reducible refine IfB.dt (by omega) ?_ | with_reducible refine IfB.df (by omega) ?_ | with_reducible refine IfB.ndt (by omega) ?_ | with_reducible refine IfB.ndf (by omega) ?_ | with_reducible refine IfB.et (by omega) ?_ | with_reducible refine IfB.ef (by omega) ?_ | with_reducible refine IfB.nt (by omega) ?_ | with_reducible refine IfB.nf (by omega) ?_ | with_reducible refine And.intro (by first | omega | decide) ?_))
    refine StA.q h (dsA_size hl) (dsA_size hl) dsA_scalar fun w h => ?_
    refine Ld.xw h (dsA_size hl) ?_
    exact he _ _ _ _ hq ((h.no 1).no 1)
end
end Go.Proofs.Ytjnjjibmlalpiaa
/- Pack -/
namespace Go.Srt
open Go.Bits
def by8 (b : List Nat) (j : Nat) : Nat :=
  b.getD (8 * j) 0 * 128 + b.getD (8 * j + 1) 0 * 64 + b.getD (8 * j + 2) 0 * 32 + b.getD (8 * j + 3) 0 * 16 + b.getD (8 * j + 4) 0 * 8 + b.getD (8 * j + 5) 0 * 4 + b.getD (8 * j + 6) 0 * 2 + b.getD (8 * j + 7) 0
def packTo (b : List Nat) (m : Nat) : List Nat := (List.range m).map (by8 b)
/-- bits as bytes, the last one filled with zeros -/
def pack (b : List Nat) : List Nat := packTo b ((b.length + 7) / 8)
def Bits (b : List Nat) : Prop := ∀ x ∈ b, x ≤ 1
theorem Bits.getD {b : List Nat} (h : Bits b) (i : Nat) : b.getD i 0 ≤ 1 := by
  rw [List.getD_eq_getElem?_getD]
  cases hx : b[i]? with
  | none => simp
  | some x => exact h x (List.mem_of_getElem? hx)
theorem Bits.app {a b : List Nat} (ha : Bits a) (hb : Bits b) : Bits (a ++ b) := fun x hx => by
  rcases List.mem_append.1 hx with h | h
  · exact ha x h
  · exact hb x h
theorem packTo_len (b : List Nat) (m : Nat) : (packTo b m).length = m := by simp [packTo]
theorem packTo_get {b : List Nat} {m j : Nat} (h : j < m) : (packTo b m).getD j 0 = by8 b j := by
  unfold packTo
  rw [List.getD_eq_getElem?_getD, List.getElem?_map, List.getElem?_range h]; rfl
theorem by8_lt {b : List Nat} (h : Bits b) (j : Nat) : by8 b j < 256 := by
  unfold by8
  have h0 := h.getD (8 * j); have h1 := h.getD (8 * j + 1); have h2 := h.getD (8 * j + 2); have h3 := h.getD (8 * j + 3)
  have h4 := h.getD (8 * j + 4); have h5 := h.getD (8 * j + 5); have h6 := h.getD (8 * j + 6); have h7 := h.getD (8 * j + 7)
  omega
theorem packTo_lt {b : List Nat} (h : Bits b) (m : Nat) : ∀ y ∈ packTo b m, y < 256 := fun y hy => by
  obtain ⟨j, _, rfl⟩ := List.mem_map.1 hy
  exact by8_lt h j
theorem getD_ge {b : List Nat} {i : Nat} (h : b.length ≤ i) : b.getD i 0 = 0 := by rw [List.getD_eq_getElem?_getD, List.getElem?_eq_none h]; rfl
theorem getD_snoc (b : List Nat) (x i : Nat) : (b ++ [x]).getD i 0 = b.getD i 0 + if i = b.length then x else 0 := by
  rcases Nat.lt_trichotomy i b.length with h | h | h
  · rw [if_neg (by omega), List.getD_eq_getElem?_getD, List.getElem?_append_left h, ← List.getD_eq_getElem?_getD]; rfl
  · subst h
    rw [if_pos rfl, getD_ge (Nat.le_refl _), List.getD_eq_getElem?_getD, List.getElem?_append_right (Nat.le_refl _), Nat.sub_self]
    simp
  · rw [if_neg (by omega), getD_ge (b := b ++ [x]) (by simp; omega), getD_ge (b := b) (by omega)]
theorem by8_snoc (b : List Nat) (x j : Nat) : by8 (b ++ [x]) j = by8 b j + if j = b.length / 8 then x * 2 ^ (7 - b.length % 8) else 0 := by
  unfold by8
  simp only [getD_snoc]
  by_cases hj : j = b.length / 8
  · rw [if_pos hj]
    have hr : b.length = 8 * j + b.length % 8 := by omega
    have h8 : b.length % 8 < 8 := Nat.mod_lt _ (by decide)
    generalize b.length % 8 = r at hr h8
    rw [hr]
    have : r = 0 ∨ r = 1 ∨ r = 2 ∨ r = 3 ∨ r = 4 ∨ r = 5 ∨ r = 6 ∨ r = 7 := by omega
    rcases this with rfl | rfl | rfl | rfl | rfl | rfl | rfl | rfl <;> simp <;> omega
  · rw [if_neg hj, if_neg (by omega), if_neg (by omega), if_neg (by omega), if_neg (by omega), if_neg (by omega), if_neg (by omega), if_neg (by omega), if_neg (by omega)]
    omega
theorem by8_top {b : List Nat} {j : Nat} (h : b.length ≤ 8 * j) : by8 b j = 0 := by
  unfold by8
  rw [getD_ge h, getD_ge (by omega), getD_ge (by omega), getD_ge (by omega), getD_ge (by omega), getD_ge (by omega), getD_ge (by omega), getD_ge (by omega)]
/-- the byte that is not full yet has only its upper bits -/
theorem by8_dvd (b : List Nat) : 2 ^ (8 - b.length % 8) ∣ by8 b (b.length / 8) := by
  have hr : b.length = 8 * (b.length / 8) + b.length % 8 := by omega
  have h8 : b.length % 8 < 8 := Nat.mod_lt _ (by decide)
  generalize hj : b.length / 8 = j at hr
  generalize b.length % 8 = r at hr h8
  unfold by8
  have g : ∀ i, r ≤ i → b.getD (8 * j + i) 0 = 0 := fun i hi => getD_ge (by omega)
  have : r = 0 ∨ r = 1 ∨ r = 2 ∨ r = 3 ∨ r = 4 ∨ r = 5 ∨ r = 6 ∨ r = 7 := by omega
  have g0 := g 0; have g1 := g 1; have g2 := g 2; have g3 := g 3; have g4 := g 4; have g5 := g 5; have g6 := g 6; have g7 := g 7
  simp only [Nat.add_zero] at g0
  rcases this with rfl | rfl | rfl | rfl | rfl | rfl | rfl | rfl <;> simp only [Nat.reduceSub, Nat.reducePow] <;> omega
theorem or_bit8 {a r x : Nat} (hr : r < 8) (hd : 2 ^ (8 - r) ∣ a) (hx : x ≤ 1) : a ||| x * 2 ^ (7 - r) = a + x * 2 ^ (7 - r) := by
  obtain ⟨q, rfl⟩ := hd
  have hp : 2 ^ (8 - r) = 2 * 2 ^ (7 - r) := by rw [show 8 - r = (7 - r) + 1 by omega, Nat.pow_succ, Nat.mul_comm]
  have hpos := Nat.two_pow_pos (7 - r)
  refine (Nat.two_pow_add_eq_or_of_lt (i := 8 - r) ?_ q).symm
  have : x = 0 ∨ x = 1 := by omega
  rcases this with rfl | rfl <;> omega
/-- the bytes with room for one bit more -/
def room (b : List Nat) : List Nat := packTo b (b.length / 8 + 1)
theorem room_eq (b : List Nat) : room b = if b.length % 8 = 0 then pack b ++ [0] else pack b := by
  unfold room pack
  split
  · rename_i h
    rw [show (b.length + 7) / 8 = b.length / 8 by omega]
    unfold packTo
    rw [List.range_succ, List.map_append]
    congr 1
    simp only [List.map_cons, List.map_nil]
    rw [by8_top (by omega)]
  · rename_i h
    rw [show (b.length + 7) / 8 = b.length / 8 + 1 by omega]
theorem pack_snoc (b : List Nat) (x : Nat) : pack (b ++ [x]) = (room b).set (b.length / 8) (by8 b (b.length / 8) + x * 2 ^ (7 - b.length % 8)) := by
  unfold pack room
  rw [List.length_append, List.length_singleton, show (b.length + 1 + 7) / 8 = b.length / 8 + 1 by omega]
  refine List.ext_getElem? fun i => ?_
  unfold packTo
  rw [List.getElem?_set]
  simp only [List.getElem?_map, List.length_map, List.length_range]
  by_cases hi : i < b.length / 8 + 1
  · rw [List.getElem?_range hi]
    simp only [Option.map_some]
    rw [by8_snoc]
    by_cases e : b.length / 8 = i
    · subst e; rw [if_pos rfl, if_pos rfl, if_pos hi]
    · rw [if_neg (Ne.symm e), if_neg e, Nat.add_zero]
  · rw [List.getElem?_eq_none (by simpa using hi)]
    simp only [Option.map_none]
    rw [if_neg (by omega)]
theorem bitAt_packTo {b : List Nat} (h : Bits b) {m i : Nat} (hi : i < 8 * m) : bitAt (packTo b m) i = b.getD i 0 := by
  unfold bitAt
  rw [packTo_get (by omega)]
  have hr : i = 8 * (i / 8) + i % 8 := by omega
  have h8 : i % 8 < 8 := Nat.mod_lt _ (by decide)
  generalize i / 8 = j at hr
  generalize i % 8 = r at hr h8
  subst hr
  unfold by8
  have h0 := h.getD (8 * j); have h1 := h.getD (8 * j + 1); have h2 := h.getD (8 * j + 2); have h3 := h.getD (8 * j + 3)
  have h4 := h.getD (8 * j + 4); have h5 := h.getD (8 * j + 5); have h6 := h.getD (8 * j + 6); have h7 := h.getD (8 * j + 7)
  have : r = 0 ∨ r = 1 ∨ r = 2 ∨ r = 3 ∨ r = 4 ∨ r = 5 ∨ r = 6 ∨ r = 7 := by omega
  rcases this with rfl | rfl | rfl | rfl | rfl | rfl | rfl | rfl <;> simp only [Nat.reduceSub, Nat.reducePow, Nat.add_zero] <;> omega
theorem pack_len (b : List Nat) : (pack b).length = (b.length + 7) / 8 := packTo_len _ _
theorem bitAt_pack {b : List Nat} (h : Bits b) {i : Nat} (hi : i < b.length) : bitAt (pack b) i = b.getD i 0 := bitAt_packTo h (by omega)
theorem pack_lt {b : List Nat} (h : Bits b) : ∀ y ∈ pack b, y < 256 := packTo_lt h _
end Go.Srt
/- Enc -/
namespace Go.Srt
open Go.Bits
/-- the n lower bits of a number, the highest first -/
def bn : Nat → Nat → List Nat
  | 0, _ => []
  | n + 1, v => bn n (v / 2) ++ [v % 2]
theorem bn_len : ∀ n v, (bn n v).length = n
  | 0, _ => rfl
  | n + 1, v => by rw [bn, List.length_append, bn_len n]; rfl
theorem bn_bits : ∀ n v, Bits (bn n v)
  | 0, _ => fun x hx => by cases hx
  | n + 1, v => (bn_bits n _).app fun x hx => by have : x = v % 2 := by simpa using hx
                                                 omega
theorem bn_get : ∀ n v i, i < n → (bn n v).getD i 0 = v / 2 ^ (n - 1 - i) % 2
  | 0, _, _, h => by omega
  | n + 1, v, i, h => by
    rw [bn, getD_snoc, bn_len]
    by_cases e : i = n
    · subst e
      rw [if_pos rfl, getD_ge (by rw [bn_len]; exact Nat.le_refl _), show i + 1 - 1 - i = 0 by omega]; simp
    · rw [if_neg e, bn_get n _ i (by omega), Nat.add_zero, Nat.div_div_eq_div_mul]
      congr 2
      rw [show n + 1 - 1 - i = (n - 1 - i) + 1 by omega, Nat.pow_succ, Nat.mul_comm]
theorem bn_snoc (n c x : Nat) (hx : x ≤ 1) : bn (n + 1) (2 * c + x) = bn n c ++ [x] := by
  rw [bn, show (2 * c + x) / 2 = c by omega, show (2 * c + x) % 2 = x by omega]
def goodS (l : List Nat) (s : Nat) : Prop := s < 258 ∧ 0 < l.getD s 0
def encB (l : List Nat) (s : Nat) : List Nat := bn (l.getD s 0) (code l s)
def enc (l : List Nat) (ss : List Nat) : List Nat := ss.flatMap (encB l)
theorem enc_bits (l : List Nat) (ss : List Nat) : Bits (enc l ss) := fun x hx => by
  obtain ⟨s, _, h⟩ := List.mem_flatMap.1 hx
  exact bn_bits _ _ x h
theorem enc_app (l a b : List Nat) : enc l (a ++ b) = enc l a ++ enc l b := List.flatMap_append
theorem enc_cons (l : List Nat) (s : Nat) (b : List Nat) : enc l (s :: b) = encB l s ++ enc l b := List.flatMap_cons
def findS (l : List Nat) (c n : Nat) : Option Nat := (List.range 258).find? fun s => decide (0 < l.getD s 0) && (l.getD s 0 == n) && (code l s == c)
theorem findS_some {l : List Nat} {c n s : Nat} (h : findS l c n = some s) : goodS l s ∧ l.getD s 0 = n ∧ code l s = c := by
  unfold findS at h
  have h1 := List.find?_some h
  have h2 := List.mem_of_find?_eq_some h
  simp only [Bool.and_eq_true, decide_eq_true_eq, beq_iff_eq] at h1
  exact ⟨⟨by simpa using h2, h1.1.1⟩, h1.1.2, h1.2⟩
theorem findS_none {l : List Nat} {c n : Nat} (h : findS l c n = none) {s : Nat} (hs : goodS l s) : ¬ (l.getD s 0 = n ∧ code l s = c) := by
  unfold findS at h
  have := List.find?_eq_none.1 h s (by simpa using hs.1)
  simp only [Bool.and_eq_true, decide_eq_true_eq, beq_iff_eq] at this
  exact fun hh => this ⟨⟨hs.2, hh.1⟩, hh.2⟩
theorem code_inj {l : List Nat} (hl : l.length = 258) {s t : Nat} (hs : goodS l s) (ht : goodS l t) (h1 : l.getD s 0 = l.getD t 0) (h2 : code l s = code l t) : s = t := by
  have h3 := hs.1; have h4 := ht.1
  refine rank_inj (by omega) (by omega) h1 ?_
  unfold code at h2
  rw [h1] at h2
  omega
theorem findS_self {l : List Nat} (hl : l.length = 258) {s : Nat} (hs : goodS l s) : findS l (code l s) (l.getD s 0) = some s := by
  cases h : findS l (code l s) (l.getD s 0) with
  | none => exact absurd ⟨rfl, rfl⟩ (findS_none h hs)
  | some t =>
    obtain ⟨h1, h2, h3⟩ := findS_some h
    rw [code_inj hl h1 hs h2 h3]
/-- no code is the beginning of another -/
theorem findS_pre {l : List Nat} (hl : l.length = 258) (hv : ksum l ≤ 32768) {s m : Nat} (hs : goodS l s) (hm : m < l.getD s 0) : findS l (code l s / 2 ^ (l.getD s 0 - m)) m = none := by
  cases h : findS l (code l s / 2 ^ (l.getD s 0 - m)) m with
  | none => rfl
  | some t =>
    exfalso
    obtain ⟨h1, h2, h3⟩ := findS_some h
    have h15 := len15 hv s
    have p1 := code_pos hv s
    have p2 := code_pos hv t
    rw [h2, h3] at p2
    have e : 2 ^ (15 - m) = 2 ^ (l.getD s 0 - m) * 2 ^ (15 - l.getD s 0) := by rw [← Nat.pow_add]; congr 1; omega
    have hq := Nat.div_mul_le_self (code l s) (2 ^ (l.getD s 0 - m))
    have hr := Nat.lt_div_mul_add (a := code l s) (b := 2 ^ (l.getD s 0 - m)) (Nat.two_pow_pos _)
    have ha : pos l t ≤ pos l s := by
      rw [← p1, ← p2, e, ← Nat.mul_assoc]; exact Nat.mul_le_mul_right _ hq
    have hb : pos l s < pos l t + 2 ^ (15 - l.getD t 0) := by
      rw [h2, ← p1, ← p2, e, ← Nat.mul_assoc, ← Nat.add_mul]
      exact Nat.mul_lt_mul_of_pos_right hr (Nat.two_pow_pos _)
    have h4 := hs.1; have h5 := h1.1
    have : s = t := pos_uniq (x := pos l s) (by omega) (by omega) hs.2 h1.2 (Nat.le_refl _) (by have := Nat.two_pow_pos (15 - l.getD s 0); omega) ha hb
    subst this
    omega
/-- the symbols that bits spell -/
def rdS (l : List Nat) : List Nat → Nat → Nat → List Nat → Option (List Nat)
  | [], _, n, acc => if n = 0 then some acc else none
  | x :: bs, c, n, acc => match findS l (2 * c + x) (n + 1) with
    | some s => rdS l bs 0 0 (acc ++ [s])
    | none => if 15 < n + 1 then none else rdS l bs (2 * c + x) (n + 1) acc
theorem rdS_tail {l : List Nat} (hl : l.length = 258) (hv : ksum l ≤ 32768) {s : Nat} (hs : goodS l s) (rest acc : List Nat) : ∀ k m, m + k = l.getD s 0 → 0 < k → rdS l ((bn (l.getD s 0) (code l s)).drop m ++ rest) (code l s / 2 ^ (l.getD s 0 - m)) m acc = rdS l rest 0 0 (acc ++ [s])
  | 0, _, _, h => by omega
  | k + 1, m, hm, _ => by
    have h15 := len15 hv s
    have hlen := bn_len (l.getD s 0) (code l s)
    have hlt : m < (bn (l.getD s 0) (code l s)).length := by omega
    rw [List.drop_eq_getElem_cons hlt, List.cons_append, rdS]
    have hx : (bn (l.getD s 0) (code l s))[m] = code l s / 2 ^ (l.getD s 0 - 1 - m) % 2 := by
      rw [← bn_get _ _ _ (by omega), getD_get hlt]
    have hc : 2 * (code l s / 2 ^ (l.getD s 0 - m)) + (bn (l.getD s 0) (code l s))[m] = code l s / 2 ^ (l.getD s 0 - (m + 1)) := by
      rw [hx, show l.getD s 0 - m = (l.getD s 0 - 1 - m) + 1 by omega, Nat.pow_succ, ← Nat.div_div_eq_div_mul, show l.getD s 0 - (m + 1) = l.getD s 0 - 1 - m by omega]
      omega
    rw [hc]
    by_cases e : k = 0
    · subst e
      have e1 : m + 1 = l.getD s 0 := by omega
      rw [e1, Nat.sub_self, Nat.pow_zero, Nat.div_one, findS_self hl hs]
      simp only
      rw [List.drop_of_length_le (by omega), List.nil_append]
    · rw [findS_pre hl hv hs (by omega)]
      simp only
      rw [if_neg (by omega)]
      exact rdS_tail hl hv hs rest acc k (m + 1) (by omega) (by omega)
theorem rdS_one {l : List Nat} (hl : l.length = 258) (hv : ksum l ≤ 32768) {s : Nat} (hs : goodS l s) (rest acc : List Nat) : rdS l (encB l s ++ rest) 0 0 acc = rdS l rest 0 0 (acc ++ [s]) := by
  have h := rdS_tail hl hv hs rest acc (l.getD s 0) 0 (by omega) hs.2
  have hc := code_lt hl hv hs.1 hs.2
  rw [Nat.sub_zero, Nat.div_eq_of_lt hc, List.drop_zero] at h
  exact h
theorem rdS_enc {l : List Nat} (hl : l.length = 258) (hv : ksum l ≤ 32768) : ∀ (ss rest acc : List Nat), (∀ s ∈ ss, goodS l s) → rdS l (enc l ss ++ rest) 0 0 acc = rdS l rest 0 0 (acc ++ ss)
  | [], rest, acc, _ => by simp [enc]
  | s :: ss, rest, acc, h => by
    rw [enc_cons, List.append_assoc, rdS_one hl hv (h s (by simp)), rdS_enc hl hv ss rest _ (fun t ht => h t (by simp [ht]))]
    simp
theorem rdS_back {l : List Nat} : ∀ (bs : List Nat) (c n : Nat) (acc out : List Nat), Bits bs → rdS l bs c n acc = some out → ∃ ss, out = acc ++ ss ∧ (∀ s ∈ ss, goodS l s) ∧ bn n c ++ bs = enc l ss
  | [], c, n, acc, out, _, h => by
    rw [rdS] at h
    split at h
    · rename_i hn
      subst hn
      exact ⟨[], by simpa using (Option.some.inj h).symm, by simp, by simp [bn, enc]⟩
    · cases h
  | x :: bs, c, n, acc, out, hb, h => by
    have hx := hb x (by simp)
    have hb' : Bits bs := fun y hy => hb y (by simp [hy])
    rw [rdS] at h
    have hs := bn_snoc n c x hx
    split at h
    · rename_i s hf
      obtain ⟨h1, h2, h3⟩ := findS_some hf
      obtain ⟨ss, e1, e2, e3⟩ := rdS_back bs 0 0 _ out hb' h
      refine ⟨s :: ss, by rw [e1]; simp, fun t ht => ?_, ?_⟩
      · rcases List.mem_cons.1 ht with rfl | ht
        · exact h1
        · exact e2 t ht
      · rw [enc_cons, ← e3]
        unfold encB
        rw [h2, h3, hs]
        simp [bn]
    · split at h
      · cases h
      · obtain ⟨ss, e1, e2, e3⟩ := rdS_back bs _ _ _ out hb' h
        refine ⟨ss, e1, e2, ?_⟩
        rw [← e3, hs]
        simp
/-- the first bits of some bytes -/
def bitsOf (b : List Nat) (n : Nat) : List Nat := (List.range n).map (bitAt b)
theorem bitsOf_len (b : List Nat) (n : Nat) : (bitsOf b n).length = n := by simp [bitsOf]
theorem bitsOf_bits (b : List Nat) (n : Nat) : Bits (bitsOf b n) := fun x hx => by
  obtain ⟨i, _, rfl⟩ := List.mem_map.1 hx
  have := bitAt_lt b i
  omega
theorem bitsOf_pack {b : List Nat} (h : Bits b) : bitsOf (pack b) b.length = b := by
  refine List.ext_getElem? fun i => ?_
  unfold bitsOf
  rw [List.getElem?_map]
  by_cases hi : i < b.length
  · rw [List.getElem?_range hi, List.getElem?_eq_getElem hi, Option.map_some, bitAt_pack h hi, getD_get hi]
  · rw [List.getElem?_eq_none (by simpa using hi), List.getElem?_eq_none (by omega)]; rfl
theorem bitsOf_take (b : List Nat) {m n : Nat} (h : m ≤ n) : (bitsOf b n).take m = bitsOf b m := by
  unfold bitsOf
  rw [← List.map_take, List.take_range, Nat.min_eq_left h]
end Go.Srt
/- ColP -/
namespace Go.Blk
open Go.Inc Go.Srt Go.Sym Go.Bits
/-- the bits of a code so far and their number, the state of the symbols, the bytes so far -/
structure CS where
  c : Nat
  n : Nat
  d : DS
  acc : List Nat
def cstep (l : List Nat) (s : CS) (x : Nat) : Stp CS (List Nat) Nat := match findS l (2 * s.c + x) (s.n + 1) with
  | none => .more ⟨2 * s.c + x, s.n + 1, s.d, s.acc⟩
  | some y => match dsym s.d y with
    | none => .bad 160
    | some (_, t, true) => .fin (s.acc ++ t)
    | some (d', t, false) => .more ⟨0, 0, d', s.acc ++ t⟩
theorem cs_none {l : List Nat} {s : CS} {x : Nat} (h : findS l (2 * s.c + x) (s.n + 1) = none) : cstep l s x = .more ⟨2 * s.c + x, s.n + 1, s.d, s.acc⟩ := by unfold cstep; rw [h]
theorem cs_some {l : List Nat} {s : CS} {x y : Nat} (h : findS l (2 * s.c + x) (s.n + 1) = some y) : cstep l s x = match dsym s.d y with
    | none => .bad 160
    | some (_, t, true) => .fin (s.acc ++ t)
    | some (d', t, false) => .more ⟨0, 0, d', s.acc ++ t⟩ := by unfold cstep; rw [h]
section
variable {l : List Nat}
theorem cs_tail (hl : l.length = 258) (hv : ksum l ≤ 32768) {s : Nat} (hs : goodS l s) (rest acc : List Nat) (d : DS) : ∀ k m, m + k = l.getD s 0 → 0 < k →
    run (cstep l) ⟨code l s / 2 ^ (l.getD s 0 - m), m, d, acc⟩ ((bn (l.getD s 0) (code l s)).drop m ++ rest) = match dsym d s with
      | none => .bad 160
      | some (_, t, true) => .fin (acc ++ t) rest
      | some (d', t, false) => run (cstep l) ⟨0, 0, d', acc ++ t⟩ rest
  | 0, _, _, h => by omega
  | k + 1, m, hm, _ => by
    have h15 := len15 hv s
    have hlen := bn_len (l.getD s 0) (code l s)
    have hlt : m < (bn (l.getD s 0) (code l s)).length := by omega
    rw [List.drop_eq_getElem_cons hlt, List.cons_append]
    have hx : (bn (l.getD s 0) (code l s))[m] = code l s / 2 ^ (l.getD s 0 - 1 - m) % 2 := by
      rw [← bn_get _ _ _ (by omega), getD_get hlt]
    have hc : 2 * (code l s / 2 ^ (l.getD s 0 - m)) + (bn (l.getD s 0) (code l s))[m] = code l s / 2 ^ (l.getD s 0 - (m + 1)) := by
      rw [hx, show l.getD s 0 - m = (l.getD s 0 - 1 - m) + 1 by omega, Nat.pow_succ, ← Nat.div_div_eq_div_mul, show l.getD s 0 - (m + 1) = l.getD s 0 - 1 - m by omega]
      omega
    by_cases e : k = 0
    · subst e
      have e1 : m + 1 = l.getD s 0 := by omega
      have hf : findS l (2 * (code l s / 2 ^ (l.getD s 0 - m)) + (bn (l.getD s 0) (code l s))[m]) (m + 1) = some s := by
        rw [hc, e1, Nat.sub_self, Nat.pow_zero, Nat.div_one, findS_self hl hs]
      have hcs := cs_some (s := ⟨code l s / 2 ^ (l.getD s 0 - m), m, d, acc⟩) hf
      rw [run_cons, hcs, List.drop_of_length_le (by omega), List.nil_append]
      cases hd : dsym d s with
      | none => rfl
      | some p =>
        obtain ⟨d', t, b⟩ := p
        cases b <;> rfl
    · have hf : findS l (2 * (code l s / 2 ^ (l.getD s 0 - m)) + (bn (l.getD s 0) (code l s))[m]) (m + 1) = none := by
        rw [hc, findS_pre hl hv hs (by omega)]
      have hcs := cs_none (s := ⟨code l s / 2 ^ (l.getD s 0 - m), m, d, acc⟩) hf
      rw [run_more hcs]
      simp only
      rw [hc]
      exact cs_tail hl hv hs rest acc d k (m + 1) (by omega) (by omega)
theorem cs_one (hl : l.length = 258) (hv : ksum l ≤ 32768) {s : Nat} (hs : goodS l s) (rest acc : List Nat) (d : DS) : run (cstep l) ⟨0, 0, d, acc⟩ (encB l s ++ rest) = match dsym d s with
      | none => .bad 160
      | some (_, t, true) => .fin (acc ++ t) rest
      | some (d', t, false) => run (cstep l) ⟨0, 0, d', acc ++ t⟩ rest := by
  have h := cs_tail hl hv hs rest acc d (l.getD s 0) 0 (by omega) hs.2
  have hc := code_lt hl hv hs.1 hs.2
  rw [Nat.sub_zero, Nat.div_eq_of_lt hc, List.drop_zero] at h
  exact h
/-- the codes of symbols are read as the symbols -/
theorem cs_enc (hl : l.length = 258) (hv : ksum l ≤ 32768) : ∀ (ss rest acc : List Nat) (d : DS), (∀ s ∈ ss, goodS l s) → run (cstep l) ⟨0, 0, d, acc⟩ (enc l ss ++ rest) = match run sstep (d, acc) ss with
      | .bad e => .bad e
      | .fin t r => .fin t (enc l r ++ rest)
      | .short (d', acc') => run (cstep l) ⟨0, 0, d', acc'⟩ rest
  | [], rest, acc, d, _ => rfl
  | s :: ss, rest, acc, d, h => by
    rw [enc_cons, List.append_assoc, cs_one hl hv (h s (by simp)), run_cons]
    cases hd : dsym d s with
    | none => rw [sst_bad hd]
    | some p =>
      obtain ⟨d', t, b⟩ := p
      cases b with
      | true => rw [sst_fin hd]
      | false =>
        rw [sst_more hd]
        exact cs_enc hl hv ss rest _ d' fun t ht => h t (by simp [ht])
end
end Go.Blk
/- CrcP -/
namespace Go.Crc
def half (c : Nat) : Nat := (c / 2) ^^^ (if c % 2 = 1 then 3988292384 else 0)
def row (c : Nat) : Nat := half (half (half (half (half (half (half (half c)))))))
def step (c b : Nat) : Nat := row ((c % 256) ^^^ b) ^^^ (c / 256)
def feed (c : Nat) (b : List Nat) : Nat := b.foldl step c
/-- the checksum of bytes -/
def crc (b : List Nat) : Nat := feed 4294967295 b ^^^ 4294967295
theorem half_lt {c : Nat} (h : c < 4294967296) : half c < 4294967296 := by
  unfold half
  exact Nat.xor_lt_two_pow (n := 32) (by omega) (by split <;> decide)
theorem row_lt {c : Nat} (h : c < 4294967296) : row c < 4294967296 := half_lt (half_lt (half_lt (half_lt (half_lt (half_lt (half_lt (half_lt h)))))))
theorem step_lt {c b : Nat} (h : c < 4294967296) (hb : b < 256) : step c b < 4294967296 := by
  unfold step
  have h1 : (c % 256) ^^^ b < 256 := Nat.xor_lt_two_pow (n := 8) (by omega) hb
  exact Nat.xor_lt_two_pow (n := 32) (row_lt (by omega)) (by omega)
theorem feed_lt : ∀ (b : List Nat) (c : Nat), c < 4294967296 → (∀ x ∈ b, x < 256) → feed c b < 4294967296
  | [], _, h, _ => h
  | x :: b, c, h, hb => by
    rw [feed, List.foldl_cons]
    exact feed_lt b _ (step_lt h (hb x List.mem_cons_self)) fun y hy => hb y (List.mem_cons_of_mem _ hy)
theorem feed_app (a b : List Nat) (c : Nat) : feed c (a ++ b) = feed (feed c a) b := List.foldl_append
theorem crc_lt {b : List Nat} (hb : ∀ x ∈ b, x < 256) : crc b < 4294967296 := Nat.xor_lt_two_pow (n := 32) (feed_lt b _ (by decide) hb) (by decide)
end Go.Crc
