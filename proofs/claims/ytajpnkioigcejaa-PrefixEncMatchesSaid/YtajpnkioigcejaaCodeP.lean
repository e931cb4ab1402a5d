/-
  The plain law of canonical codes: with the symbols in order, the code of the symbol number i is the sum of the shares ahead of it, divided by its own share. Conditions: as each theorem states.
-/
import Derived.Test.YtajpnkioigcejaaCan
namespace Go.Srt
def sh (l : List Nat) (s : Nat) : Nat := 2 ^ (15 - l.getD s 0)
def start (l ys : List Nat) (i : Nat) : Nat := ((ys.take i).map (sh l)).sum
theorem start_succ {l ys : List Nat} {i : Nat} (h : i < ys.length) : start l ys (i + 1) = start l ys i + sh l ys[i] := by
  unfold start
  rw [List.take_add_one, List.map_append, List.sum_append, List.getElem?_eq_getElem h]
  simp only [Option.toList, List.map_cons, List.map_nil, List.sum_cons, List.sum_nil, Nat.add_zero]
theorem sh_pos (l : List Nat) (s : Nat) : 0 < sh l s := Nat.two_pow_pos _
theorem start_mono {l ys : List Nat} {i j : Nat} (h : i ≤ j) : start l ys i ≤ start l ys j := by
  unfold start
  have := List.take_append_drop i (ys.take j)
  rw [List.take_take, Nat.min_eq_left h] at this
  have h2 := congrArg (fun l' => (l'.map (sh l)).sum) this
  simp only [List.map_append, List.sum_append] at h2
  omega
theorem used_mem {l : List Nat} {s : Nat} : s ∈ used l ↔ s < l.length ∧ 0 < l.getD s 0 := by
  unfold used
  rw [List.mem_filter, List.mem_range]; simp
theorem ksum_used (l : List Nat) : ksum l = ((used l).map fun s => wt (l.getD s 0)).sum := by
  have key : ∀ k, k ≤ l.length → ksum (l.take k) = (((List.range k).filter fun s => decide (0 < l.getD s 0)).map fun s => wt (l.getD s 0)).sum := by
    intro k
    induction k with
    | zero => intro _; simp [ksum]
    | succ k ih =>
      intro hk
      rw [ksum_succ (by omega), ih (by omega), List.range_succ, List.filter_append, List.map_append, List.sum_append]
      have hg : l.getD k 0 = l[k] := by rw [List.getD_eq_getElem?_getD, List.getElem?_eq_getElem (by omega)]; rfl
      by_cases h : 0 < l.getD k 0
      · rw [List.filter_cons_of_pos (by simpa using h)]; simp only [List.filter_nil, List.map_cons, List.map_nil, List.sum_cons, List.sum_nil, hg]; rfl
      · rw [List.filter_cons_of_neg (by simpa using h)]
        have : l[k] = 0 := by omega
        rw [this]; rfl
  have := key l.length (Nat.le_refl _)
  rw [List.take_length] at this
  exact this
/-- valid lengths are at most 15 -/
theorem len15 {l : List Nat} (hv : ksum l ≤ 32768) (s : Nat) : l.getD s 0 ≤ 15 := by
  rw [List.getD_eq_getElem?_getD]
  cases h : l[s]? with
  | none => simp
  | some x =>
    have := wt_mem (List.mem_of_getElem? h)
    unfold wt at this
    simp only [Option.getD_some]
    rcases Nat.lt_or_ge 15 x with hx | hx
    · rw [if_neg (by omega), if_pos (by omega)] at this; omega
    · exact hx
theorem start_all {l ys : List Nat} (hv : ksum l ≤ 32768) (h : IsOrd l ys) : start l ys ys.length = ksum l := by
  unfold start
  rw [List.take_length, ksum_used, (h.1.map (sh l)).sum_nat]
  congr 1
  refine List.map_congr_left fun s hs => ?_
  have h1 := (used_mem.1 hs).2
  have h2 := len15 hv s
  unfold sh wt
  rw [if_neg (by omega), if_neg (by omega)]
theorem start_le {l ys : List Nat} (hv : ksum l ≤ 32768) (h : IsOrd l ys) {i : Nat} (hi : i ≤ ys.length) : start l ys i ≤ 32768 := by
  have := start_mono (l := l) (ys := ys) hi
  rw [start_all hv h] at this
  omega
theorem ord_len {l ys : List Nat} (h : IsOrd l ys) {i j : Nat} (hj : j < ys.length) (hij : i ≤ j) : l.getD (ys[i]'(by omega)) 0 ≤ l.getD ys[j] 0 := by
  by_cases e : i = j
  · subst e; exact Nat.le_refl _
  · have := (List.pairwise_iff_getElem.1 h.2) i j (by omega) hj (by omega)
    omega
theorem start_dvd {l ys : List Nat} (h : IsOrd l ys) {i : Nat} (hi : i < ys.length) : ∀ k, k ≤ i → sh l ys[i] ∣ start l ys k
  | 0, _ => by simp [start]
  | k + 1, hk => by
    rw [start_succ (by omega)]
    refine Nat.dvd_add (start_dvd h hi k (by omega)) ?_
    have := ord_len h hi (show k ≤ i by omega)
    unfold sh
    exact Nat.pow_dvd_pow 2 (by omega)
/-- the code of the symbol number i -/
def codeAt (l ys : List Nat) (i : Nat) : Nat := start l ys i / sh l (ys.getD i 0)
theorem getD_at {ys : List Nat} {i : Nat} (hi : i < ys.length) : ys.getD i 0 = ys[i] := by
  rw [List.getD_eq_getElem?_getD, List.getElem?_eq_getElem hi]; rfl
theorem codeAt_mul {l ys : List Nat} (h : IsOrd l ys) {i : Nat} (hi : i < ys.length) : codeAt l ys i * sh l ys[i] = start l ys i := by
  unfold codeAt
  rw [getD_at hi]
  exact Nat.div_mul_cancel (start_dvd h hi i (Nat.le_refl _))
theorem sh_mul {l : List Nat} (hv : ksum l ≤ 32768) (s : Nat) : 2 ^ l.getD s 0 * sh l s = 32768 := by
  unfold sh
  rw [← Nat.pow_add, show l.getD s 0 + (15 - l.getD s 0) = 15 by have := len15 hv s; omega]
theorem codeAt_lt {l ys : List Nat} (hv : ksum l ≤ 32768) (h : IsOrd l ys) {i : Nat} (hi : i < ys.length) : codeAt l ys i < 2 ^ l.getD ys[i] 0 := by
  have h1 := codeAt_mul h hi
  have h2 := start_le hv h (show i + 1 ≤ ys.length by omega)
  rw [start_succ hi] at h2
  have h3 := sh_mul hv ys[i]
  have h4 := sh_pos l ys[i]
  have h5 : (codeAt l ys i + 1) * sh l ys[i] ≤ 2 ^ l.getD ys[i] 0 * sh l ys[i] := by rw [Nat.succ_mul]; omega
  exact Nat.le_of_mul_le_mul_right h5 h4
end Go.Srt
