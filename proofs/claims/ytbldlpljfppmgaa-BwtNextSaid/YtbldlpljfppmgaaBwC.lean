/-
  The transform: counting. Conditions: as each theorem states.
-/
import Derived.Test.YtbldlpljfppmgaaBwR
namespace Go.Bw
open Go.Rk
def cntL (last : List Nat) (c : Nat) : Nat := last.countP fun x => decide (x < c)
theorem cntL_zero (last : List Nat) : cntL last 0 = 0 := by unfold cntL; rw [List.countP_eq_zero]; intro x _; simp
theorem cntL_succ (c : Nat) : ∀ last : List Nat, cntL last (c + 1) = cntL last c + last.count c
  | [] => rfl
  | x :: last => by
    have ih := cntL_succ c last
    unfold cntL at ih ⊢
    rw [List.countP_cons, List.countP_cons, List.count_cons, ih]
    by_cases h1 : x < c
    · rw [if_pos (by simp; omega), if_pos (by simp [h1]), if_neg (by simp; omega)]; omega
    · by_cases h2 : x = c
      · rw [if_pos (by simp; omega), if_neg (by simp [h1]), if_pos (by simp [h2])]; omega
      · rw [if_neg (by simp; omega), if_neg (by simp [h1]), if_neg (by simp [h2])]; omega
theorem list_range (l : List Nat) : l = (List.range l.length).map fun i => l.getD i 0 := by
  apply List.ext_getElem (by simp)
  intro i h1 h2
  simp [List.getD, h1]
theorem countP_get (l : List Nat) (p : Nat → Bool) : (List.range l.length).countP (fun i => p (l.getD i 0)) = l.countP p := by
  conv => rhs; rw [list_range l, List.countP_map]
  rfl
theorem countP_upto (q : Nat → Bool) (a : Nat) : ∀ n, a ≤ n → (List.range n).countP (fun i => q i && decide (i < a)) = (List.range a).countP q
  | n, h => by
    induction n with
    | zero => obtain rfl : a = 0 := by omega
              rfl
    | succ n ih =>
      rw [List.range_succ, List.countP_append, List.countP_cons, List.countP_nil]
      by_cases e : a = n + 1
      · subst e
        rw [List.range_succ, List.countP_append, List.countP_cons, List.countP_nil]
        congr 1
        · refine List.countP_congr fun i hi => ?_
          rw [List.mem_range] at hi
          simp; omega
        · congr 1; simp
      · rw [ih (by omega)]; simp; omega
theorem count_take (l : List Nat) (c a : Nat) (h : a ≤ l.length) : (l.take a).count c = (List.range a).countP fun i => l.getD i 0 == c := by
  have := countP_get (l.take a) (fun x => x == c)
  rw [List.length_take, Nat.min_eq_left h] at this
  show (l.take a).countP (· == c) = _
  rw [← this]
  refine List.countP_congr fun i hi => ?_
  rw [List.mem_range] at hi
  simp only [List.getD, List.getElem?_take_of_lt hi]
/-- as many as the places ahead so far -/
def plN (last : List Nat) (a k : Nat) : Nat := (List.range k).countP fun i => pl last i a
theorem plN_succ (last : List Nat) (a k : Nat) : plN last a (k + 1) = plN last a k + if pl last k a then 1 else 0 := by
  unfold plN
  rw [List.range_succ, List.countP_append, List.countP_cons, List.countP_nil]; simp
theorem plN_le (last : List Nat) (a k : Nat) : plN last a k ≤ k := by
  unfold plN
  refine Nat.le_trans List.countP_le_length ?_
  rw [List.length_range]; exact Nat.le_refl _
theorem nx_pl (last : List Nat) (a : Nat) : nx last a = 1 + plN last a last.length := rfl
theorem countP_or {α : Type} (p q : α → Bool) (h : ∀ x, p x = true → q x = false) : ∀ l : List α, l.countP (fun x => p x || q x) = l.countP p + l.countP q
  | [] => rfl
  | x :: l => by
    rw [List.countP_cons, List.countP_cons, List.countP_cons, countP_or p q h l]
    cases hp : p x with
    | true => rw [h x hp]; simp; omega
    | false => simp; omega
theorem nx_cnt {last : List Nat} {a : Nat} (ha : a < last.length) : nx last a = cntL last (last.getD a 0) + (last.take a).count (last.getD a 0) + 1 := by
  have e1 : plN last a last.length = cntL last (last.getD a 0) + (last.take a).count (last.getD a 0) := by
    unfold plN
    have : (List.range last.length).countP (fun i => pl last i a) = (List.range last.length).countP fun i => (decide (last.getD i 0 < last.getD a 0) || (last.getD i 0 == last.getD a 0 && decide (i < a))) := rfl
    rw [this, countP_or (fun i => decide (last.getD i 0 < last.getD a 0)) (fun i => (last.getD i 0 == last.getD a 0 && decide (i < a))) fun i h => by
      have := of_decide_eq_true h
      rw [show (last.getD i 0 == last.getD a 0) = false from beq_eq_false_iff_ne.2 (by omega)]; rfl]
    rw [countP_upto (fun i => last.getD i 0 == last.getD a 0) a _ (by omega), ← count_take _ _ _ (by omega)]
    congr 1
    exact countP_get last fun x => decide (x < last.getD a 0)
  rw [nx_pl, e1]; omega
theorem atB_succ {index row : Nat} (hne : row ≠ index) : atB index (row + 1) = atB index row + 1 := by unfold atB; split <;> split <;> omega
theorem atB_same (index : Nat) : atB index (index + 1) = atB index index := by unfold atB; rw [if_pos (by omega), if_neg (by omega)]; omega
/-- an error, or the text -/
theorem textB_eq {last T : List Nat} {index : Nat} (hl : T.length = last.length) (h : ∀ k, k < last.length → T.getD (last.length - 1 - k) 0 = last.getD (atB index (wk last index k)) 0) : T = textB last index := by
  apply List.ext_getElem (by rw [textB_len, hl])
  intro i h1 h2
  have e1 := h (last.length - 1 - i) (by omega)
  have e2 := textB_get (last := last) (index := index) (k := last.length - 1 - i) (by omega)
  rw [show last.length - 1 - (last.length - 1 - i) = i by omega] at e1 e2
  rw [← e2] at e1
  simpa [List.getD, h1, h2] using e1
theorem okB_zero {last : List Nat} (h : 0 < last.length) : ¬ okB last 0 := fun ⟨_, h2, _⟩ => h2 0 h rfl
end Go.Bw
