/-
  The plain law of package-merge, third part: the rows with labels, as the reference has them, and what its items cover. Conditions: as each theorem states.
-/
import Derived.Test.YtcidpcahgkngjaaPmQ
namespace Go.Pm
structure RIt where
  w : Nat
  sym : Int
  one : Nat
  two : Nat
/-- the items of a row with their symbols and the numbers of the items that they hold -/
def lab (ys : List Nat) : List It → Nat → Nat → List RIt
  | [], _, _ => []
  | (w, true) :: l, a, b => ⟨w, (ys.getD a 0 : Int), 0, 0⟩ :: lab ys l (a + 1) b
  | (w, false) :: l, a, b => ⟨w, -1, 2 * b, 2 * b + 1⟩ :: lab ys l a (b + 1)
def packs (l : List It) : Nat := (l.filter fun x => !x.2).length
theorem leafs_packs : ∀ l : List It, leafs l + packs l = l.length
  | [] => rfl
  | (w, true) :: l => by
    have := leafs_packs l
    simp only [leafs, packs, List.filter_cons] at *
    simp; omega
  | (w, false) :: l => by
    have := leafs_packs l
    simp only [leafs, packs, List.filter_cons] at *
    simp; omega
theorem lab_len (ys : List Nat) : ∀ (l : List It) (a b : Nat), (lab ys l a b).length = l.length
  | [], _, _ => rfl
  | (w, true) :: l, a, b => by rw [lab, List.length_cons, lab_len ys l, List.length_cons]
  | (w, false) :: l, a, b => by rw [lab, List.length_cons, lab_len ys l, List.length_cons]
theorem lab_app (ys : List Nat) : ∀ (l l' : List It) (a b : Nat), lab ys (l ++ l') a b = lab ys l a b ++ lab ys l' (a + leafs l) (b + packs l)
  | [], l', a, b => rfl
  | (w, true) :: l, l', a, b => by
    rw [List.cons_append, lab, lab, lab_app ys l, List.cons_append]
    have e1 : leafs ((w, true) :: l) = leafs l + 1 := by simp [leafs]
    have e2 : packs ((w, true) :: l) = packs l := by simp [packs]
    rw [e1, e2, show a + 1 + leafs l = a + (leafs l + 1) by omega]
  | (w, false) :: l, l', a, b => by
    rw [List.cons_append, lab, lab, lab_app ys l, List.cons_append]
    have e1 : leafs ((w, false) :: l) = leafs l := by simp [leafs]
    have e2 : packs ((w, false) :: l) = packs l + 1 := by simp [packs]
    rw [e1, e2, show b + 1 + packs l = b + (packs l + 1) by omega]
theorem lab_leaves (ys : List Nat) : ∀ (l : List It) (a b c : Nat), (∀ x ∈ l, x.2 = true) → lab ys l a b = lab ys l a c
  | [], _, _, _, _ => rfl
  | (w, true) :: l, a, b, c, h => by rw [lab, lab, lab_leaves ys l (a + 1) b c fun x hx => h x (List.mem_cons_of_mem _ hx)]
  | (w, false) :: l, a, b, c, h => by have := h (w, false) (by simp); cases this
theorem lab_get (ys : List Nat) (l : List It) {i : Nat} (hi : i < l.length) : (lab ys l 0 0)[i]'(by rw [lab_len]; exact hi) =
    if l[i].2 = true then ⟨l[i].1, (ys.getD (leafs (l.take i)) 0 : Int), 0, 0⟩ else ⟨l[i].1, -1, 2 * (i - leafs (l.take i)), 2 * (i - leafs (l.take i)) + 1⟩ := by
  have e : l = l.take i ++ l[i] :: l.drop (i + 1) := by rw [List.getElem_cons_drop, List.take_append_drop]
  have hp := leafs_packs (l.take i)
  rw [List.length_take] at hp
  have hl : (lab ys (l.take i) 0 0).length = i := by rw [lab_len, List.length_take]; omega
  have key : (lab ys l 0 0)[i]? = some (if l[i].2 = true then ⟨l[i].1, (ys.getD (leafs (l.take i)) 0 : Int), 0, 0⟩ else ⟨l[i].1, -1, 2 * (i - leafs (l.take i)), 2 * (i - leafs (l.take i)) + 1⟩) := by
    have e2 : lab ys l 0 0 = lab ys (l.take i) 0 0 ++ lab ys (l[i] :: l.drop (i + 1)) (0 + leafs (l.take i)) (0 + packs (l.take i)) := by
      rw [← lab_app, ← e]
    rw [e2, List.getElem?_append_right (by omega), hl, Nat.sub_self, Nat.zero_add, Nat.zero_add, show packs (l.take i) = i - leafs (l.take i) by omega]
    generalize l[i] = x
    obtain ⟨w, b⟩ := x
    cases b <;> rfl
  rw [List.getElem?_eq_getElem (by rw [lab_len]; exact hi)] at key
  exact Option.some.inj key
theorem lab_w (ys : List Nat) (l : List It) {i : Nat} (hi : i < l.length) : ((lab ys l 0 0)[i]'(by rw [lab_len]; exact hi)).w = l[i].1 := by
  rw [lab_get ys l hi]
  split <;> rfl
/-- an item put into a row -/
def insW (l : List It) (p : It) : List It := l.takeWhile (fun a => decide (a.1 ≤ p.1)) ++ p :: l.dropWhile fun a => decide (a.1 ≤ p.1)
theorem tw_all {q : It → Bool} : ∀ {l : List It}, (∀ x ∈ l, q x = true) → l.takeWhile q = l ∧ l.dropWhile q = []
  | [], _ => ⟨rfl, rfl⟩
  | x :: l, h => by
    obtain ⟨h1, h2⟩ := tw_all fun y hy => h y (List.mem_cons_of_mem x hy)
    have := h x (by simp)
    exact ⟨by rw [List.takeWhile_cons_of_pos this, h1], by rw [List.dropWhile_cons_of_pos this, h2]⟩
theorem insW_mrg (p : It) : ∀ A B, (∀ q ∈ B, q.1 ≤ p.1) → insW (mrg A B) p = mrg A (B ++ [p]) := by
  refine mrg_ind (fun B hB => ?_) (fun a A hB => ?_) (fun a A q B h ih hB => ?_) (fun a A q B h ih hB => ?_)
  · rw [nil_mrg, nil_mrg]
    unfold insW
    obtain ⟨h1, h2⟩ := tw_all (q := fun a => decide (a.1 ≤ p.1)) (l := B) (fun x hx => by simpa using hB x hx)
    rw [h1, h2]
  · rw [mrg_nil, List.nil_append]; rfl
  · rw [mrg_le h, List.cons_append, mrg_le h, ← List.cons_append, ← ih hB]
    have : a.1 ≤ p.1 := Nat.le_trans h (hB q (by simp))
    simp [insW, this]
  · rw [mrg_gt h, List.cons_append, mrg_gt h, ← ih fun x hx => hB x (List.mem_cons_of_mem _ hx)]
    have : q.1 ≤ p.1 := hB q (by simp)
    simp [insW, this]
theorem insW_at {p : It} : ∀ {l : List It} {k : Nat}, Up l → k ≤ l.length → (∀ j (hj : j < l.length), k ≤ j → p.1 < l[j].1) → (k = 0 ∨ ∃ h : k - 1 < l.length, l[k - 1].1 ≤ p.1) → insW l p = l.take k ++ p :: l.drop k
  | [], k, _, hk, _, _ => by
    have : k = 0 := by simpa using hk
    subst this; rfl
  | x :: l, 0, _, _, h1, _ => by
    have := h1 0 (by simp) (Nat.le_refl _)
    have h : ¬ x.1 ≤ p.1 := by simp only [List.getElem_cons_zero] at this; omega
    simp [insW, h]
  | x :: l, k + 1, hu, hk, h1, h2 => by
    obtain ⟨u1, u2⟩ := List.pairwise_cons.1 hu
    have hkl : k ≤ l.length := by simpa using hk
    have h2' : ∃ h : k < (x :: l).length, (x :: l)[k].1 ≤ p.1 := by
      rcases h2 with h2 | h2
      · omega
      · simpa using h2
    obtain ⟨hk1, h2'⟩ := h2'
    have hx : x.1 ≤ p.1 := by
      cases k with
      | zero => exact h2'
      | succ k => exact Nat.le_trans (u1 _ (List.getElem_mem (by simp at hk1; omega))) h2'
    have ih := insW_at (p := p) (l := l) (k := k) u2 hkl (fun j hj hkj => by have := h1 (j + 1) (by simp; omega) (by omega); simpa using this) (by
      cases k with
      | zero => exact .inl rfl
      | succ k => exact .inr ⟨by simp at hk1; omega, by simpa using h2'⟩)
    have e : insW (x :: l) p = x :: insW l p := by simp [insW, hx]
    rw [e, ih, List.take_succ_cons, List.drop_succ_cons, List.cons_append]
/-- what an item of a row covers -/
def cov (ws : List Nat) : Nat → Nat → Nat → Nat
  | 0, i, j => if j = i then 1 else 0
  | k + 1, i, j => if ((row ws (k + 1)).getD i (0, true)).2 = true then (if j = leafs ((row ws (k + 1)).take i) then 1 else 0) else
      cov ws k (2 * (i - leafs ((row ws (k + 1)).take i))) j + cov ws k (2 * (i - leafs ((row ws (k + 1)).take i)) + 1) j
theorem cov_succ (ws : List Nat) (k i j : Nat) : cov ws (k + 1) i j = if ((row ws (k + 1)).getD i (0, true)).2 = true then (if j = leafs ((row ws (k + 1)).take i) then 1 else 0) else
      cov ws k (2 * (i - leafs ((row ws (k + 1)).take i))) j + cov ws k (2 * (i - leafs ((row ws (k + 1)).take i)) + 1) j := rfl
theorem leafs_le (l : List It) : leafs l ≤ l.length := by have := leafs_packs l; omega
theorem leafs_next {l : List It} {j : Nat} (h : j < l.length) : leafs (l.take (j + 1)) = leafs (l.take j) + if l[j].2 = true then 1 else 0 := by
  unfold leafs
  rw [List.take_add_one, List.filter_append, List.length_append, List.getElem?_eq_getElem h]
  congr 1
  by_cases e : l[j].2 = true
  · rw [if_pos e]; simp [e]
  · rw [if_neg e]; simp [e]
theorem over_cov {ws : List Nat} (h : Asc ws) (j : Nat) : ∀ (k m : Nat), m ≤ (row ws k).length → over m (fun i => cov ws k i j) = lv ws k m j
  | 0, m, hm => by
    have hm' : m ≤ ws.length := by rw [row, lv0_len] at hm; exact hm
    unfold lv whole
    rw [(row_cut0 m hm').1]
    have key : ∀ m, over m (fun i => cov ws 0 i j) = if j < m then 1 else 0 := by
      intro m
      induction m with
      | zero => simp [over]
      | succ m ih =>
        rw [over_succ, ih]
        unfold cov
        by_cases h1 : j < m
        · rw [if_pos h1, if_neg (by omega), if_pos (by omega)]
        · by_cases h2 : j = m
          · rw [if_neg h1, if_pos h2, if_pos (by omega)]
          · rw [if_neg h1, if_neg h2, if_neg (by omega)]
    exact key m
  | k + 1, m, hm => by
    have key : ∀ m, m ≤ (row ws (k + 1)).length → over m (fun i => cov ws (k + 1) i j) = (if j < leafs ((row ws (k + 1)).take m) then 1 else 0) + over (2 * (m - leafs ((row ws (k + 1)).take m))) (fun i => cov ws k i j) := by
      intro m
      induction m with
      | zero => intro _; simp [over, leafs]
      | succ m ih =>
        intro hm
        have hlt : m < (row ws (k + 1)).length := by omega
        have hl := leafs_le ((row ws (k + 1)).take m)
        rw [List.length_take] at hl
        have hg : (row ws (k + 1)).getD m (0, true) = (row ws (k + 1))[m] := by rw [List.getD_eq_getElem?_getD, List.getElem?_eq_getElem hlt]; rfl
        rw [over_succ, ih (by omega), leafs_next hlt, cov_succ ws k m j, hg]
        generalize hq : leafs ((row ws (k + 1)).take m) = q at hl
        by_cases e : (row ws (k + 1))[m].2 = true
        · rw [if_pos e, if_pos e, show m + 1 - (q + 1) = m - q by omega]
          by_cases h1 : j < q
          · rw [if_pos h1, if_neg (by omega), if_pos (by omega)]; rfl
          · by_cases h2 : j = q
            · rw [if_neg h1, if_pos h2, if_pos (by omega)]; omega
            · rw [if_neg h1, if_neg h2, if_neg (by omega)]; omega
        · rw [if_neg e, if_neg e, show q + 0 = q from rfl, show 2 * (m + 1 - q) = 2 * (m - q) + 1 + 1 by omega, over_succ, over_succ]
          omega
    have c3 := (row_cut h k m hm).2.2.1
    rw [key m hm, over_cov h j k _ c3, lv]
    rfl
end Go.Pm
