/-
  The plain law of package-merge, first part: rows, their first items, and what these come to. Conditions: as each theorem states.
-/
namespace Go.Pm
/-- an item of a row: its weight, and whether it is a leaf -/
abbrev It := Nat × Bool
def wts (l : List It) : Nat := (l.map (·.1)).sum
def leafs (l : List It) : Nat := (l.filter (·.2)).length
def Up (l : List It) : Prop := l.Pairwise fun a b => a.1 ≤ b.1
def pairs : List It → List It
  | a :: b :: l => (a.1 + b.1, false) :: pairs l
  | _ => []
def mrg (A : List It) : List It → List It
  | [] => A
  | p :: B => A.takeWhile (fun a => decide (a.1 ≤ p.1)) ++ p :: mrg (A.dropWhile fun a => decide (a.1 ≤ p.1)) B
theorem mrg_nil {A : List It} : mrg A [] = A := rfl
theorem nil_mrg : ∀ {B : List It}, mrg [] B = B
  | [] => rfl
  | p :: B => by simp [mrg, nil_mrg]
theorem mrg_le {a p : It} {A B : List It} (h : a.1 ≤ p.1) : mrg (a :: A) (p :: B) = a :: mrg A (p :: B) := by simp [mrg, h]
theorem mrg_gt {a p : It} {A B : List It} (h : ¬ a.1 ≤ p.1) : mrg (a :: A) (p :: B) = p :: mrg (a :: A) B := by simp [mrg, h]
theorem mrg_ind {P : List It → List It → Prop} (h1 : ∀ B, P [] B) (h2 : ∀ a A, P (a :: A) []) (h3 : ∀ a A p B, a.1 ≤ p.1 → P A (p :: B) → P (a :: A) (p :: B)) (h4 : ∀ a A p B, ¬ a.1 ≤ p.1 → P (a :: A) B → P (a :: A) (p :: B)) :
    ∀ A B, P A B
  | [], B => h1 B
  | a :: A, [] => h2 a A
  | a :: A, p :: B => if h : a.1 ≤ p.1 then h3 a A p B h (mrg_ind h1 h2 h3 h4 A (p :: B)) else h4 a A p B h (mrg_ind h1 h2 h3 h4 (a :: A) B)
theorem mrg_perm : ∀ A B, (mrg A B).Perm (A ++ B) := by
  refine mrg_ind (fun B => by rw [nil_mrg]; exact .refl _) (fun a A => by rw [mrg_nil]; simp) (fun a A p B h ih => ?_) (fun a A p B h ih => ?_)
  · rw [mrg_le h]; exact ih.cons a
  · rw [mrg_gt h]
    exact (ih.cons p).trans (List.perm_middle.symm)
theorem mrg_len (A B : List It) : (mrg A B).length = A.length + B.length := by rw [(mrg_perm A B).length_eq, List.length_append]
theorem mrg_up : ∀ A B, Up A → Up B → Up (mrg A B) := by
  refine mrg_ind (fun B _ h => by rw [nil_mrg]; exact h) (fun a A h _ => by rw [mrg_nil]; exact h) (fun a A p B h ih hA hB => ?_) (fun a A p B h ih hA hB => ?_)
  · rw [mrg_le h]
    refine List.pairwise_cons.2 ⟨fun x hx => ?_, ih (List.pairwise_cons.1 hA).2 hB⟩
    rcases List.mem_append.1 ((mrg_perm _ _).mem_iff.1 hx) with hx | hx
    · exact (List.pairwise_cons.1 hA).1 x hx
    · rcases List.mem_cons.1 hx with rfl | hx
      · exact h
      · exact Nat.le_trans h ((List.pairwise_cons.1 hB).1 x hx)
  · rw [mrg_gt h]
    refine List.pairwise_cons.2 ⟨fun x hx => ?_, ih hA (List.pairwise_cons.1 hB).2⟩
    rcases List.mem_append.1 ((mrg_perm _ _).mem_iff.1 hx) with hx | hx
    · rcases List.mem_cons.1 hx with rfl | hx
      · omega
      · have := (List.pairwise_cons.1 hA).1 x hx; omega
    · exact (List.pairwise_cons.1 hB).1 x hx
/-- the first m of a merge are the first a and the first b of its parts -/
theorem mrg_cut : ∀ A B, Up A → ∀ m, m ≤ A.length + B.length → ∃ a b, a + b = m ∧ a ≤ A.length ∧ b ≤ B.length ∧ ((mrg A B).take m).Perm (A.take a ++ B.take b) ∧ ∀ x ∈ B.take b, ∀ y ∈ A.drop a, x.1 < y.1 := by
  refine mrg_ind (fun B _ m hm => ?_) (fun a A _ m hm => ?_) (fun a A p B h ih hA m hm => ?_) (fun a A p B h ih hA m hm => ?_)
  · exact ⟨0, m, by omega, Nat.le_refl _, by simpa using hm, by rw [nil_mrg]; simp, by simp⟩
  · exact ⟨m, 0, rfl, by simpa using hm, Nat.le_refl _, by rw [mrg_nil]; simp, by simp⟩
  · cases m with
    | zero => exact ⟨0, 0, rfl, Nat.zero_le _, Nat.zero_le _, by simp, by simp⟩
    | succ m =>
      obtain ⟨x, y, h1, h2, h3, h4, h5⟩ := ih (List.pairwise_cons.1 hA).2 m (by simp at hm ⊢; omega)
      refine ⟨x + 1, y, by omega, by simpa using h2, h3, ?_, by simpa using h5⟩
      rw [mrg_le h, List.take_succ_cons, List.take_succ_cons]
      exact h4.cons a
  · cases m with
    | zero => exact ⟨0, 0, rfl, Nat.zero_le _, Nat.zero_le _, by simp, by simp⟩
    | succ m =>
      obtain ⟨x, y, h1, h2, h3, h4, h5⟩ := ih hA m (by simp at hm ⊢; omega)
      refine ⟨x, y + 1, by omega, h2, by simpa using h3, ?_, ?_⟩
      · rw [mrg_gt h, List.take_succ_cons, List.take_succ_cons]
        exact (h4.cons p).trans List.perm_middle.symm
      · intro u hu v hv
        rw [List.take_succ_cons] at hu
        rcases List.mem_cons.1 hu with rfl | hu
        · have hv : v ∈ a :: A := List.mem_of_mem_drop hv
          rcases List.mem_cons.1 hv with rfl | hv
          · omega
          · have := (List.pairwise_cons.1 hA).1 v hv; omega
        · exact h5 u hu v hv
theorem wts_cons (a : It) (l : List It) : wts (a :: l) = a.1 + wts l := by simp [wts]
theorem wts_append (l l' : List It) : wts (l ++ l') = wts l + wts l' := by simp [wts]
theorem wts_perm {l l' : List It} (h : l.Perm l') : wts l = wts l' := (h.map _).sum_nat
theorem leafs_append (l l' : List It) : leafs (l ++ l') = leafs l + leafs l' := by simp [leafs]
theorem leafs_perm {l l' : List It} (h : l.Perm l') : leafs l = leafs l' := (h.filter _).length_eq
theorem up_le {x : Nat} : ∀ {l : List It} (m : Nat), Up l → (∀ y ∈ l, x ≤ y.1) → m < l.length → x + wts (l.take m) ≤ wts (l.take (m + 1))
  | l, m, hu, hx, hm => by
    rw [List.take_add_one, wts_append, List.getElem?_eq_getElem hm]
    have := hx _ (List.getElem_mem hm)
    simp only [Option.toList, wts, List.map_cons, List.map_nil, List.sum_cons, List.sum_nil]
    omega
/-- no choice of a and b items of the parts comes to less than the first of the merge -/
theorem mrg_least : ∀ A B, Up A → Up B → ∀ a b, a ≤ A.length → b ≤ B.length → wts ((mrg A B).take (a + b)) ≤ wts (A.take a) + wts (B.take b) := by
  refine mrg_ind (fun B _ _ a b ha hb => ?_) (fun a A _ _ x y hx hy => ?_) (fun a A p B h ih hA hB x y hx hy => ?_) (fun a A p B h ih hA hB x y hx hy => ?_)
  · have : a = 0 := by simpa using ha
    subst this
    rw [nil_mrg]; simp [wts]
  · have : y = 0 := by simpa using hy
    subst this
    rw [mrg_nil]; simp [wts]
  · have hA' := (List.pairwise_cons.1 hA).2
    rw [mrg_le h]
    cases x with
    | succ x =>
      rw [show x + 1 + y = (x + y) + 1 by omega, List.take_succ_cons, List.take_succ_cons, wts_cons, wts_cons]
      have := ih hA' hB x y (by simpa using hx) hy
      omega
    | zero =>
      cases y with
      | zero => simp [wts]
      | succ y =>
        rw [Nat.zero_add, List.take_succ_cons, wts_cons]
        have h1 := ih hA' hB 0 y (Nat.zero_le _) (by omega)
        rw [Nat.zero_add] at h1
        have h2 := up_le (x := a.1) (l := p :: B) y hB (fun z hz => by
          rcases List.mem_cons.1 hz with rfl | hz
          · exact h
          · exact Nat.le_trans h ((List.pairwise_cons.1 hB).1 z hz)) (by omega)
        have e0 : wts (List.take 0 A) = 0 := by simp [wts]
        omega
  · have hB' := (List.pairwise_cons.1 hB).2
    rw [mrg_gt h]
    cases y with
    | succ y =>
      rw [← Nat.add_assoc, List.take_succ_cons, List.take_succ_cons, wts_cons, wts_cons]
      have := ih hA hB' x y hx (by simpa using hy)
      omega
    | zero =>
      cases x with
      | zero => simp [wts]
      | succ x =>
        rw [Nat.add_zero, List.take_succ_cons, wts_cons]
        have h1 := ih hA hB' x 0 (by omega) (Nat.zero_le _)
        rw [Nat.add_zero] at h1
        have h2 := up_le (x := p.1) (l := a :: A) x hA (fun z hz => by
          rcases List.mem_cons.1 hz with rfl | hz
          · omega
          · have := (List.pairwise_cons.1 hA).1 z hz; omega) (by omega)
        have e0 : wts (List.take 0 B) = 0 := by simp [wts]
        omega
/-! pairs -/
theorem pairs_len : ∀ l : List It, (pairs l).length = l.length / 2
  | [] => rfl
  | [_] => by simp [pairs]
  | _ :: _ :: l => by
    simp only [pairs, List.length_cons, pairs_len l]; omega
theorem pairs_leaf : ∀ (l : List It) (x : It), x ∈ pairs l → x.2 = false
  | [], _, h => by simp [pairs] at h
  | [_], _, h => by simp [pairs] at h
  | a :: b :: l, x, h => by
    rw [pairs] at h
    rcases List.mem_cons.1 h with rfl | h
    · rfl
    · exact pairs_leaf l x h
theorem pairs_take : ∀ (l : List It) (b : Nat), 2 * b ≤ l.length → wts ((pairs l).take b) = wts (l.take (2 * b))
  | _, 0, _ => by simp [wts]
  | [], b + 1, h => by simp at h
  | [_], b + 1, h => by simp only [List.length_singleton] at h; omega
  | x :: y :: l, b + 1, h => by
    rw [pairs, List.take_succ_cons, wts_cons, show 2 * (b + 1) = (2 * b + 1) + 1 by omega, List.take_succ_cons, List.take_succ_cons, wts_cons, wts_cons, pairs_take l b (by simp only [List.length_cons] at h; omega)]
    omega
theorem pairs_in : ∀ (l : List It) (b : Nat) (x : It), 2 * b ≤ l.length → x ∈ l.take (2 * b) → ∃ p ∈ (pairs l).take b, x.1 ≤ p.1
  | _, 0, _, _, h => by simp at h
  | [], b + 1, _, h, _ => by simp at h
  | [_], b + 1, _, h, _ => by simp only [List.length_singleton] at h; omega
  | u :: v :: l, b + 1, x, h, hx => by
    rw [show 2 * (b + 1) = (2 * b + 1) + 1 by omega, List.take_succ_cons, List.take_succ_cons] at hx
    rw [pairs, List.take_succ_cons]
    rcases List.mem_cons.1 hx with rfl | hx
    · exact ⟨_, List.mem_cons_self, by simp⟩
    · rcases List.mem_cons.1 hx with rfl | hx
      · exact ⟨_, List.mem_cons_self, by simp⟩
      · obtain ⟨p, hp, hl⟩ := pairs_in l b x (by simp only [List.length_cons] at h; omega) hx
        exact ⟨p, List.mem_cons_of_mem _ hp, hl⟩
theorem pairs_up : ∀ l : List It, Up l → Up (pairs l)
  | [], _ => List.Pairwise.nil
  | [_], _ => List.Pairwise.nil
  | a :: b :: l, h => by
    obtain ⟨h1, h2⟩ := List.pairwise_cons.1 h
    obtain ⟨h3, h4⟩ := List.pairwise_cons.1 h2
    refine List.pairwise_cons.2 ⟨fun p hp => ?_, pairs_up l h4⟩
    have : ∀ (l : List It), (∀ x ∈ l, a.1 ≤ x.1 ∧ b.1 ≤ x.1) → ∀ p ∈ pairs l, a.1 + b.1 ≤ p.1 := by
      intro l
      induction l using pairs.induct with
      | case1 u v l ih =>
        intro hx p hp
        rw [pairs] at hp
        rcases List.mem_cons.1 hp with rfl | hp
        · have := hx u (by simp); have := hx v (by simp); simp only; omega
        · exact ih (fun x hx' => hx x (by simp [hx'])) p hp
      | case2 l hl => intro _ p hp; rw [pairs] at hp
                      · simp at hp
                      · exact hl
    exact this l (fun x hx => ⟨h1 x (List.mem_cons_of_mem _ hx), h3 x hx⟩) p hp
/-! rows -/
def lv0 (ws : List Nat) : List It := ws.map fun w => (w, true)
def row (ws : List Nat) : Nat → List It
  | 0 => lv0 ws
  | k + 1 => mrg (lv0 ws) (pairs (row ws k))
def Asc (ws : List Nat) : Prop := ws.Pairwise (· ≤ ·)
theorem lv0_up {ws : List Nat} (h : Asc ws) : Up (lv0 ws) := List.Pairwise.map _ (fun _ _ h => h) h
theorem row_up {ws : List Nat} (h : Asc ws) : ∀ k, Up (row ws k)
  | 0 => lv0_up h
  | k + 1 => mrg_up _ _ (lv0_up h) (pairs_up _ (row_up h k))
theorem lv0_len (ws : List Nat) : (lv0 ws).length = ws.length := List.length_map _
theorem row_len (ws : List Nat) (k : Nat) : (row ws (k + 1)).length = ws.length + (row ws k).length / 2 := by rw [row, mrg_len, lv0_len, pairs_len]
theorem lv0_wts (ws : List Nat) : wts (lv0 ws) = ws.sum := by
  unfold wts lv0
  rw [List.map_map]
  congr 1
  exact List.map_id _
theorem lv0_take (ws : List Nat) (a : Nat) : (lv0 ws).take a = lv0 (ws.take a) := List.map_take.symm
theorem lv0_leafs (ws : List Nat) : leafs (lv0 ws) = ws.length := by
  unfold leafs lv0
  rw [List.filter_eq_self.2]
  · simp
  · intro x hx; obtain ⟨w, _, rfl⟩ := List.mem_map.1 hx; rfl
theorem pk_leafs {l : List It} (h : ∀ x ∈ l, x.2 = false) : leafs l = 0 := by
  unfold leafs
  rw [List.length_eq_zero_iff, List.filter_eq_nil_iff]
  intro x hx; simp [h x hx]
/-- the rows are long enough -/
theorem row_enough {ws : List Nat} : ∀ k, ws.length ≤ 2 ^ (k + 1) → 2 * ws.length - 2 ≤ (row ws k).length := by
  have key : ∀ k c, 2 ^ k * c ≥ ws.length → 1 ≤ c → 2 * ws.length ≤ (row ws k).length + c := by
    intro k
    induction k with
    | zero => intro c h _; simp only [row, lv0_len]; omega
    | succ k ih =>
      intro c h hc
      have := ih (2 * c) (by rw [Nat.pow_succ] at h; rw [← Nat.mul_assoc]; exact h) (by omega)
      rw [row_len]; omega
  intro k h
  have := key k 2 (by rw [Nat.pow_succ] at h; exact h) (by omega)
  omega
/-- the leaves among the first m of a row, and what follows -/
theorem row_cut {ws : List Nat} (h : Asc ws) (k m : Nat) (hm : m ≤ (row ws (k + 1)).length) : leafs ((row ws (k + 1)).take m) ≤ m ∧ leafs ((row ws (k + 1)).take m) ≤ ws.length ∧ 2 * (m - leafs ((row ws (k + 1)).take m)) ≤ (row ws k).length ∧
    wts ((row ws (k + 1)).take m) = (ws.take (leafs ((row ws (k + 1)).take m))).sum + wts ((row ws k).take (2 * (m - leafs ((row ws (k + 1)).take m)))) ∧
    (∀ x ∈ (row ws k).take (2 * (m - leafs ((row ws (k + 1)).take m))), ∀ y ∈ ws.drop (leafs ((row ws (k + 1)).take m)), x.1 < y) := by
  have hl := row_len ws k
  obtain ⟨a, b, h1, h2, h3, h4, h5⟩ := mrg_cut (lv0 ws) (pairs (row ws k)) (lv0_up h) m (by rw [lv0_len, pairs_len, ← hl]; exact hm)
  rw [lv0_len] at h2
  rw [pairs_len] at h3
  have hlf : leafs ((row ws (k + 1)).take m) = a := by
    rw [row, leafs_perm h4, leafs_append, lv0_take, lv0_leafs, pk_leafs fun x hx => pairs_leaf _ x (List.mem_of_mem_take hx), List.length_take]
    omega
  rw [hlf]
  have hb : m - a = b := by omega
  rw [hb]
  refine ⟨by omega, h2, by omega, ?_, ?_⟩
  · rw [row, wts_perm h4, wts_append, lv0_take, lv0_wts, pairs_take _ _ (by omega)]
  · intro x hx y hy
    obtain ⟨p, hp, hxp⟩ := pairs_in _ _ _ (by omega) hx
    have := h5 p hp (y, true) (by
      unfold lv0
      rw [← List.map_drop]
      exact List.mem_map_of_mem hy)
    exact Nat.lt_of_le_of_lt hxp this
theorem row_cut0 {ws : List Nat} (m : Nat) (hm : m ≤ ws.length) : leafs ((row ws 0).take m) = m ∧ wts ((row ws 0).take m) = (ws.take m).sum := by
  rw [row, lv0_take]
  exact ⟨by rw [lv0_leafs, List.length_take]; omega, lv0_wts _⟩
/-! the lengths that the rows give -/
def whole (ws : List Nat) (k m : Nat) : Nat := leafs ((row ws k).take m)
/-- at how many levels up to k the leaf number i is taken, m items of row k being wanted -/
def lv (ws : List Nat) : Nat → Nat → Nat → Nat
  | 0, m, i => if i < whole ws 0 m then 1 else 0
  | k + 1, m, i => (if i < whole ws (k + 1) m then 1 else 0) + lv ws k (2 * (m - whole ws (k + 1) m)) i
/-- the leaves at the level below are also at this one -/
theorem nested {ws : List Nat} (h : Asc ws) (k m : Nat) (hm : m ≤ (row ws (k + 1)).length) : whole ws k (2 * (m - whole ws (k + 1) m)) ≤ whole ws (k + 1) m := by
  obtain ⟨c1, c2, c3, c4, c5⟩ := row_cut h k m hm
  generalize hq : whole ws (k + 1) m = a
  unfold whole at hq
  rw [hq] at c1 c2 c3 c4 c5
  rcases Nat.lt_or_ge a (whole ws k (2 * (m - a))) with hlt | hge
  · exfalso
    have hmem : ∀ i, i < whole ws k (2 * (m - a)) → ∃ (hi : i < ws.length), (ws[i], true) ∈ (row ws k).take (2 * (m - a)) := by
      cases k with
      | zero =>
        intro i hi
        have e0 := row_cut0 (ws := ws) (2 * (m - a)) (by rw [row, lv0_len] at c3; exact c3)
        unfold whole at hi
        rw [e0.1] at hi
        rw [row, lv0_len] at c3
        refine ⟨by omega, ?_⟩
        rw [row, lv0_take]
        unfold lv0
        refine List.mem_map_of_mem ?_
        rw [List.mem_iff_getElem]
        exact ⟨i, by rw [List.length_take]; omega, by simp⟩
      | succ k =>
        intro i hi
        obtain ⟨a', b', h1, h2, h3, h4, h5⟩ := mrg_cut (lv0 ws) (pairs (row ws k)) (lv0_up h) (2 * (m - a)) (by rw [lv0_len, pairs_len, ← row_len]; exact c3)
        rw [lv0_len] at h2
        have hlf : whole ws (k + 1) (2 * (m - a)) = a' := by
          unfold whole
          rw [row, leafs_perm h4, leafs_append, lv0_take, lv0_leafs, pk_leafs fun x hx => pairs_leaf _ x (List.mem_of_mem_take hx), List.length_take]
          omega
        rw [hlf] at hi
        refine ⟨by omega, ?_⟩
        rw [row, h4.mem_iff, List.mem_append]
        left
        rw [lv0_take]
        unfold lv0
        refine List.mem_map_of_mem ?_
        rw [List.mem_iff_getElem]
        exact ⟨i, by rw [List.length_take]; omega, by simp⟩
    obtain ⟨hi, hx⟩ := hmem a hlt
    have := c5 _ hx ws[a] (by rw [List.mem_iff_getElem]; exact ⟨0, by rw [List.length_drop]; omega, by simp⟩)
    simp at this
  · exact hge
theorem lv_zero {ws : List Nat} (h : Asc ws) : ∀ (k m i : Nat), m ≤ (row ws k).length → whole ws k m ≤ i → lv ws k m i = 0
  | 0, m, i, _, hi => by unfold lv; rw [if_neg (by omega)]
  | k + 1, m, i, hm, hi => by
    have hn := nested h k m hm
    unfold lv
    rw [if_neg (by omega), Nat.zero_add]
    exact lv_zero h k _ i (row_cut h k m hm).2.2.1 (by omega)
theorem lv_le (ws : List Nat) : ∀ (k m i : Nat), lv ws k m i ≤ k + 1
  | 0, m, i => by unfold lv; split <;> omega
  | k + 1, m, i => by
    have := lv_le ws k (2 * (m - whole ws (k + 1) m)) i
    unfold lv; split <;> omega
theorem lv_mono (ws : List Nat) : ∀ (k m i j : Nat), i ≤ j → lv ws k m j ≤ lv ws k m i
  | 0, m, i, j, h => by unfold lv; split <;> split <;> omega
  | k + 1, m, i, j, h => by
    have := lv_mono ws k (2 * (m - whole ws (k + 1) m)) i j h
    unfold lv; split <;> split <;> omega
/-- sums over the leaves -/
def over (n : Nat) (f : Nat → Nat) : Nat := ((List.range n).map f).sum
theorem over_succ (n : Nat) (f : Nat → Nat) : over (n + 1) f = over n f + f n := by
  unfold over
  rw [List.range_succ, List.map_append, List.sum_append]; simp
theorem over_add (n : Nat) (f g : Nat → Nat) : over n (fun i => f i + g i) = over n f + over n g := by
  induction n with
  | zero => rfl
  | succ n ih => rw [over_succ, over_succ, over_succ, ih]; omega
theorem over_congr {n : Nat} {f g : Nat → Nat} (h : ∀ i, i < n → f i = g i) : over n f = over n g := by
  unfold over
  congr 1
  exact List.map_congr_left fun i hi => h i (List.mem_range.1 hi)
theorem over_const (n c : Nat) : over n (fun _ => c) = n * c := by
  induction n with
  | zero => simp [over]
  | succ n ih => rw [over_succ, ih, Nat.succ_mul]
theorem over_mul (n c : Nat) (f : Nat → Nat) : over n (fun i => c * f i) = c * over n f := by
  induction n with
  | zero => rfl
  | succ n ih => rw [over_succ, over_succ, ih, Nat.mul_add]
theorem over_take (ws : List Nat) (a : Nat) (ha : a ≤ ws.length) : over ws.length (fun i => (if i < a then 1 else 0) * ws.getD i 0) = (ws.take a).sum := by
  have key : ∀ n, n ≤ ws.length → over n (fun i => (if i < a then 1 else 0) * ws.getD i 0) = (ws.take (min n a)).sum := by
    intro n
    induction n with
    | zero => intro _; simp [over]
    | succ n ih =>
      intro hn
      rw [over_succ, ih (by omega)]
      by_cases hna : n < a
      · rw [if_pos hna, Nat.one_mul, Nat.min_eq_left (by omega), Nat.min_eq_left (by omega), List.take_add_one, List.sum_append, List.getElem?_eq_getElem (by omega), List.getD_eq_getElem?_getD, List.getElem?_eq_getElem (by omega)]
        simp
      · rw [if_neg hna, Nat.zero_mul, Nat.min_eq_right (by omega), Nat.min_eq_right (by omega)]; rfl
  have := key ws.length (Nat.le_refl _)
  rwa [Nat.min_eq_right ha] at this
theorem over_below (n a : Nat) (ha : a ≤ n) (c : Nat) : over n (fun i => (if i < a then 1 else 0) * c) = a * c := by
  have key : ∀ n, over n (fun i => (if i < a then 1 else 0) * c) = min n a * c := by
    intro n
    induction n with
    | zero => simp [over]
    | succ n ih =>
      rw [over_succ, ih]
      by_cases hna : n < a
      · rw [if_pos hna, Nat.min_eq_left (by omega), Nat.min_eq_left (by omega), Nat.one_mul, Nat.succ_mul]
      · rw [if_neg hna, Nat.min_eq_right (by omega), Nat.min_eq_right (by omega)]; simp
  rw [key, Nat.min_eq_right ha]
/-- the total of the lengths is the weight of the first items -/
theorem lv_total {ws : List Nat} (h : Asc ws) : ∀ (k m : Nat), m ≤ (row ws k).length → over ws.length (fun i => lv ws k m i * ws.getD i 0) = wts ((row ws k).take m)
  | 0, m, hm => by
    have hm' : m ≤ ws.length := by rw [row, lv0_len] at hm; exact hm
    have e := row_cut0 (ws := ws) m hm'
    unfold lv whole
    rw [e.1, e.2]
    exact over_take ws m hm'
  | k + 1, m, hm => by
    obtain ⟨c1, c2, c3, c4, c5⟩ := row_cut h k m hm
    have ih := lv_total h k (2 * (m - whole ws (k + 1) m)) c3
    have c2' : whole ws (k + 1) m ≤ ws.length := c2
    have c4' : wts ((row ws (k + 1)).take m) = (ws.take (whole ws (k + 1) m)).sum + wts ((row ws k).take (2 * (m - whole ws (k + 1) m))) := c4
    rw [c4']
    unfold lv
    rw [over_congr (g := fun i => (if i < whole ws (k + 1) m then 1 else 0) * ws.getD i 0 + lv ws k (2 * (m - whole ws (k + 1) m)) i * ws.getD i 0) fun i _ => Nat.add_mul .., over_add, ih, over_take ws _ c2']
/-- widths -/
def lw (ws : List Nat) : Nat → Nat → Nat → Nat
  | 0, m, i => if i < whole ws 0 m then 1 else 0
  | k + 1, m, i => (if i < whole ws (k + 1) m then 1 else 0) * 2 ^ (k + 1) + lw ws k (2 * (m - whole ws (k + 1) m)) i
theorem lw_sum {ws : List Nat} (h : Asc ws) : ∀ (k m : Nat), m ≤ (row ws k).length → over ws.length (lw ws k m) = m * 2 ^ k
  | 0, m, hm => by
    have hm' : m ≤ ws.length := by rw [row, lv0_len] at hm; exact hm
    have e := row_cut0 (ws := ws) m hm'
    have := over_below ws.length m hm' 1
    have e2 : over ws.length (lw ws 0 m) = over ws.length (fun i => (if i < m then 1 else 0) * 1) := over_congr fun i _ => by
      unfold lw whole
      rw [e.1, Nat.mul_one]
    rw [e2, this]
  | k + 1, m, hm => by
    obtain ⟨c1, c2, c3, c4, c5⟩ := row_cut h k m hm
    have ih := lw_sum h k (2 * (m - whole ws (k + 1) m)) c3
    have e : over ws.length (lw ws (k + 1) m) = over ws.length (fun i => (if i < whole ws (k + 1) m then 1 else 0) * 2 ^ (k + 1) + lw ws k (2 * (m - whole ws (k + 1) m)) i) := rfl
    have c1' : whole ws (k + 1) m ≤ m := c1
    have c2' : whole ws (k + 1) m ≤ ws.length := c2
    rw [e, over_add, over_below _ _ c2', ih, Nat.mul_comm 2, Nat.mul_assoc, ← Nat.pow_succ', ← Nat.add_mul]
    congr 1; omega
theorem lw_lv {ws : List Nat} (h : Asc ws) : ∀ (k m i : Nat), m ≤ (row ws k).length → lw ws k m i + 2 ^ (k + 1 - lv ws k m i) = 2 ^ (k + 1)
  | 0, m, i, _ => by unfold lw lv; split <;> rfl
  | k + 1, m, i, hm => by
    have c3 := (row_cut h k m hm).2.2.1
    have ih := lw_lv h k (2 * (m - whole ws (k + 1) m)) i c3
    have hle := lv_le ws k (2 * (m - whole ws (k + 1) m)) i
    have hp := Nat.pow_succ (n := 2) (m := k + 1)
    unfold lw lv
    by_cases hi : i < whole ws (k + 1) m
    · rw [if_pos hi, Nat.one_mul, show k + 1 + 1 - (1 + lv ws k (2 * (m - whole ws (k + 1) m)) i) = k + 1 - lv ws k (2 * (m - whole ws (k + 1) m)) i by omega]
      omega
    · have hn := nested h k m hm
      have hz := lv_zero h k (2 * (m - whole ws (k + 1) m)) i c3 (by omega)
      rw [hz] at ih ⊢
      rw [if_neg hi]
      simp only [Nat.zero_mul, Nat.zero_add, Nat.sub_zero] at ih ⊢
      omega
/-- Kraft's sum of the lengths -/
theorem lv_kraft {ws : List Nat} (h : Asc ws) (k : Nat) (hn : 2 ≤ ws.length) (hk : ws.length ≤ 2 ^ (k + 1)) : over ws.length (fun i => 2 ^ (k + 1 - lv ws k (2 * ws.length - 2) i)) = 2 ^ (k + 1) := by
  have hm := row_enough (ws := ws) k hk
  have h1 := lw_sum h k _ hm
  have h2 := over_add ws.length (lw ws k (2 * ws.length - 2)) (fun i => 2 ^ (k + 1 - lv ws k (2 * ws.length - 2) i))
  rw [over_congr (g := fun _ => 2 ^ (k + 1)) fun i _ => lw_lv h k _ i hm, over_const, h1] at h2
  have e1 : (2 * ws.length - 2) * 2 ^ k + 2 ^ (k + 1) = ws.length * 2 ^ (k + 1) := by
    have : 2 * ws.length - 2 = 2 * (ws.length - 1) := by omega
    rw [this, Nat.mul_comm 2, Nat.mul_assoc, ← Nat.pow_succ']
    have : ws.length = ws.length - 1 + 1 := by omega
    conv => rhs; rw [this, Nat.succ_mul]
  omega
theorem over_single {n : Nat} {f : Nat → Nat} {i : Nat} (hi : i < n) : f i ≤ over n f := by
  induction n with
  | zero => omega
  | succ n ih =>
    rw [over_succ]
    by_cases h : i = n
    · subst h; omega
    · have := ih (by omega); omega
theorem over_two {n : Nat} {f : Nat → Nat} {i j : Nat} (hi : i < n) (hj : j < n) (hij : i < j) : f i + f j ≤ over n f := by
  induction n with
  | zero => omega
  | succ n ih =>
    rw [over_succ]
    by_cases h : j = n
    · subst h
      have := over_single (f := f) hij
      omega
    · have := ih (by omega) (by omega); omega
/-- every leaf has a length -/
theorem lv_pos {ws : List Nat} (h : Asc ws) (k : Nat) (hn : 2 ≤ ws.length) (hk : ws.length ≤ 2 ^ (k + 1)) {i : Nat} (hi : i < ws.length) : 1 ≤ lv ws k (2 * ws.length - 2) i := by
  have h1 := lv_kraft h k hn hk
  rcases Nat.eq_zero_or_pos (lv ws k (2 * ws.length - 2) i) with h0 | h0
  · exfalso
    have hp : ∀ j, 0 < 2 ^ (k + 1 - lv ws k (2 * ws.length - 2) j) := fun j => Nat.two_pow_pos _
    have e : 2 ^ (k + 1 - lv ws k (2 * ws.length - 2) i) = 2 ^ (k + 1) := by rw [h0, Nat.sub_zero]
    by_cases hi0 : i = 0
    · subst hi0
      have := over_two (f := fun i => 2 ^ (k + 1 - lv ws k (2 * ws.length - 2) i)) hi (show 1 < ws.length by omega) (by omega)
      have := hp 1
      omega
    · have := over_two (f := fun i => 2 ^ (k + 1 - lv ws k (2 * ws.length - 2) i)) (show 0 < ws.length by omega) hi (by omega)
      have := hp 0
      omega
  · exact h0
end Go.Pm
