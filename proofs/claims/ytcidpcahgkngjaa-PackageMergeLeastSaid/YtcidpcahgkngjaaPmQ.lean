/-
  The plain law of package-merge, second part: no other lengths have a smaller total. Conditions: as each theorem states.
-/
import Derived.Test.YtcidpcahgkngjaaPmP
namespace Go.Pm
theorem take_cons_le {a : Nat} {ws : List Nat} (h : Asc (a :: ws)) : ∀ m, m ≤ ws.length → ((a :: ws).take m).sum ≤ (ws.take m).sum
  | 0, _ => by simp
  | m + 1, hm => by
    rw [List.take_succ_cons, List.sum_cons, List.take_add_one, List.sum_append, List.getElem?_eq_getElem (by omega)]
    have := (List.pairwise_cons.1 h).1 ws[m] (List.getElem_mem _)
    simp only [Option.toList, List.sum_cons, List.sum_nil]
    omega
theorem sub_least {ss ws : List Nat} (hs : ss.Sublist ws) (h : Asc ws) : (ws.take ss.length).sum ≤ ss.sum := by
  induction hs with
  | slnil => simp
  | cons a hs ih =>
    have h2 := (List.pairwise_cons.1 h).2
    exact Nat.le_trans (take_cons_le h _ hs.length_le) (ih h2)
  | cons_cons a hs ih =>
    rw [List.length_cons, List.take_succ_cons, List.sum_cons, List.sum_cons]
    have := ih (List.pairwise_cons.1 h).2
    omega
theorem take_sum_mono {ws : List Nat} {a b : Nat} (h : a ≤ b) : (ws.take a).sum ≤ (ws.take b).sum := by
  have := List.take_append_drop a (ws.take b)
  rw [List.take_take, Nat.min_eq_left h] at this
  have h2 := congrArg List.sum this
  rw [List.sum_append] at h2
  omega
def width (S : Nat → List Nat) : Nat → Nat
  | 0 => (S 0).length
  | k + 1 => (S (k + 1)).length * 2 ^ (k + 1) + width S k
def weight (S : Nat → List Nat) : Nat → Nat
  | 0 => (S 0).sum
  | k + 1 => (S (k + 1)).sum + weight S k
/-- no choice of leaves whose width is that of m items weighs less than the first m items -/
theorem least {ws : List Nat} (h : Asc ws) {S : Nat → List Nat} (hS : ∀ j, (S j).Sublist ws) : ∀ k m, m * 2 ^ k ≤ width S k → m ≤ (row ws k).length ∧ wts ((row ws k).take m) ≤ weight S k
  | 0, m, hm => by
    have hm : m ≤ (S 0).length := by simpa [width] using hm
    have h1 := (hS 0).length_le
    rw [row]
    refine ⟨by rw [lv0_len]; omega, ?_⟩
    rw [lv0_take, lv0_wts]
    exact Nat.le_trans (take_sum_mono hm) (sub_least (hS 0) h)
  | k + 1, m, hm => by
    have h1 := (hS (k + 1)).length_le
    rw [width] at hm
    obtain ⟨a, ha⟩ : ∃ a, a = min (S (k + 1)).length m := ⟨_, rfl⟩
    have ha1 : a ≤ (S (k + 1)).length := by omega
    have ha2 : a ≤ m := by omega
    have hw : (2 * (m - a)) * 2 ^ k ≤ width S k := by
      rcases Nat.lt_or_ge (S (k + 1)).length m with hlt | hge
      · have e : a = (S (k + 1)).length := by omega
        subst e
        have e2 : 2 * (m - (S (k + 1)).length) * 2 ^ k = (m - (S (k + 1)).length) * 2 ^ (k + 1) := by rw [Nat.mul_comm 2, Nat.mul_assoc, ← Nat.pow_succ']
        rw [e2, Nat.sub_mul]; omega
      · have : m - a = 0 := by omega
        rw [this]; simp
    obtain ⟨h2, h3⟩ := least h hS k _ hw
    refine ⟨by rw [row_len]; omega, ?_⟩
    have h4 := mrg_least (lv0 ws) (pairs (row ws k)) (lv0_up h) (pairs_up _ (row_up h k)) a (m - a) (by rw [lv0_len]; omega) (by rw [pairs_len]; omega)
    rw [show a + (m - a) = m by omega, lv0_take, lv0_wts, pairs_take _ _ (by omega)] at h4
    rw [row, weight]
    have h5 := Nat.le_trans (take_sum_mono (ws := ws) ha1) (sub_least (hS (k + 1)) h)
    omega
/-! lengths of leaves: pairs of a weight and a length -/
def costZ (z : List (Nat × Nat)) : Nat := (z.map fun p => p.2 * p.1).sum
def kraftZ (L : Nat) (z : List (Nat × Nat)) : Nat := (z.map fun p => 2 ^ (L - p.2)).sum
def FitsZ (L : Nat) (z : List (Nat × Nat)) : Prop := (∀ p ∈ z, 1 ≤ p.2 ∧ p.2 ≤ L) ∧ kraftZ L z ≤ 2 ^ L
def SZ (L : Nat) (z : List (Nat × Nat)) (j : Nat) : List Nat := (z.filter fun p => decide (L - p.2 ≤ j)).map (·.1)
theorem SZ_sub (L : Nat) (z : List (Nat × Nat)) (j : Nat) : (SZ L z j).Sublist (z.map (·.1)) := (List.filter_sublist ..).map _
theorem SZ_cons (L : Nat) (p : Nat × Nat) (z : List (Nat × Nat)) (j : Nat) : SZ L (p :: z) j = if L - p.2 ≤ j then p.1 :: SZ L z j else SZ L z j := by
  unfold SZ
  by_cases h : L - p.2 ≤ j
  · rw [if_pos h, List.filter_cons_of_pos (by simpa using h)]; rfl
  · rw [if_neg h, List.filter_cons_of_neg (by simpa using h)]
theorem width_cons (L : Nat) (p : Nat × Nat) (z : List (Nat × Nat)) : ∀ j, width (SZ L (p :: z)) j = (if L - p.2 ≤ j then 2 ^ (j + 1) - 2 ^ (L - p.2) else 0) + width (SZ L z) j
  | 0 => by
    rw [width, width, SZ_cons]
    by_cases h : L - p.2 ≤ 0
    · rw [if_pos h, if_pos h, show L - p.2 = 0 by omega, List.length_cons]; simp; omega
    · rw [if_neg h, if_neg h]; simp
  | j + 1 => by
    rw [width, width, SZ_cons, width_cons L p z j]
    have hp := Nat.pow_succ (n := 2) (m := j + 1)
    by_cases h : L - p.2 ≤ j
    · have hq : 2 ^ (L - p.2) ≤ 2 ^ j := Nat.pow_le_pow_right (by decide) h
      have hr := Nat.pow_succ (n := 2) (m := j)
      rw [if_pos h, if_pos (by omega), if_pos (by omega), List.length_cons, Nat.succ_mul]
      omega
    · by_cases h2 : L - p.2 ≤ j + 1
      · have : L - p.2 = j + 1 := by omega
        rw [if_neg h, if_pos h2, if_pos h2, List.length_cons, Nat.succ_mul, this]
        omega
      · rw [if_neg h, if_neg h2, if_neg h2]; omega
theorem weight_cons (L : Nat) (p : Nat × Nat) (z : List (Nat × Nat)) : ∀ j, weight (SZ L (p :: z)) j = (if L - p.2 ≤ j then j + 1 - (L - p.2) else 0) * p.1 + weight (SZ L z) j
  | 0 => by
    rw [weight, weight, SZ_cons]
    by_cases h : L - p.2 ≤ 0
    · rw [if_pos h, if_pos h, show 0 + 1 - (L - p.2) = 1 by omega, List.sum_cons]; simp
    · rw [if_neg h, if_neg h]; simp
  | j + 1 => by
    rw [weight, weight, SZ_cons, weight_cons L p z j]
    by_cases h : L - p.2 ≤ j
    · rw [if_pos h, if_pos (by omega), if_pos (by omega), List.sum_cons, show j + 1 + 1 - (L - p.2) = (j + 1 - (L - p.2)) + 1 by omega, Nat.succ_mul]
      omega
    · by_cases h2 : L - p.2 ≤ j + 1
      · rw [if_neg h, if_pos h2, if_pos h2, List.sum_cons, show j + 1 + 1 - (L - p.2) = 1 by omega]
        omega
      · rw [if_neg h, if_neg h2, if_neg h2]; omega
theorem widthZ (K : Nat) : ∀ z : List (Nat × Nat), (∀ p ∈ z, 1 ≤ p.2 ∧ p.2 ≤ K + 1) → width (SZ (K + 1) z) K + kraftZ (K + 1) z = z.length * 2 ^ (K + 1)
  | [], _ => by
    have : ∀ j, width (SZ (K + 1) []) j = 0 := by
      intro j
      induction j with
      | zero => rfl
      | succ j ih => rw [width, ih]; simp [SZ]
    rw [this]; simp [kraftZ]
  | p :: z, h => by
    have ih := widthZ K z fun q hq => h q (List.mem_cons_of_mem _ hq)
    have hp := h p (by simp)
    have hq : 2 ^ (K + 1 - p.2) ≤ 2 ^ (K + 1) := Nat.pow_le_pow_right (by decide) (by omega)
    rw [width_cons, if_pos (by omega), List.length_cons, Nat.succ_mul]
    have e : kraftZ (K + 1) (p :: z) = 2 ^ (K + 1 - p.2) + kraftZ (K + 1) z := by simp [kraftZ]
    rw [e]
    omega
theorem weightZ (K : Nat) : ∀ z : List (Nat × Nat), (∀ p ∈ z, 1 ≤ p.2 ∧ p.2 ≤ K + 1) → weight (SZ (K + 1) z) K = costZ z
  | [], _ => by
    have : ∀ j, weight (SZ (K + 1) []) j = 0 := by
      intro j
      induction j with
      | zero => rfl
      | succ j ih => rw [weight, ih]; simp [SZ]
    rw [this]; simp [costZ]
  | p :: z, h => by
    have ih := weightZ K z fun q hq => h q (List.mem_cons_of_mem _ hq)
    have hp := h p (by simp)
    have e : costZ (p :: z) = p.2 * p.1 + costZ z := by simp [costZ]
    rw [weight_cons, if_pos (by omega), e, ih, show K + 1 - (K + 1 - p.2) = p.2 by omega]
/-- the least total -/
def best (ws : List Nat) (L : Nat) : Nat := if ws.length ≤ 1 then ws.sum else wts ((row ws (L - 1)).take (2 * ws.length - 2))
theorem cost_ge : ∀ z : List (Nat × Nat), (∀ p ∈ z, 1 ≤ p.2) → (z.map (·.1)).sum ≤ costZ z
  | [], _ => by simp [costZ]
  | p :: z, h => by
    have ih := cost_ge z fun q hq => h q (List.mem_cons_of_mem _ hq)
    have e : costZ (p :: z) = p.2 * p.1 + costZ z := by simp [costZ]
    have := Nat.mul_le_mul_right p.1 (h p (by simp))
    rw [e, List.map_cons, List.sum_cons]
    omega
theorem best_le {L : Nat} {z : List (Nat × Nat)} (hL : 1 ≤ L) (ha : Asc (z.map (·.1))) (hf : FitsZ L z) : best (z.map (·.1)) L ≤ costZ z := by
  unfold best
  split
  · exact cost_ge z fun p hp => (hf.1 p hp).1
  · rename_i hn
    obtain ⟨K, rfl⟩ : ∃ K, L = K + 1 := ⟨L - 1, by omega⟩
    have h1 := widthZ K z hf.1
    have h2 := hf.2
    rw [List.length_map] at hn ⊢
    have e1 : (2 * z.length - 2) * 2 ^ K + 2 ^ (K + 1) = z.length * 2 ^ (K + 1) := by
      have : 2 * z.length - 2 = 2 * (z.length - 1) := by omega
      rw [this, Nat.mul_comm 2, Nat.mul_assoc, ← Nat.pow_succ']
      have : z.length = z.length - 1 + 1 := by omega
      conv => rhs; rw [this, Nat.succ_mul]
    have h3 := (least ha (SZ_sub (K + 1) z) K (2 * z.length - 2) (by omega)).2
    rw [weightZ K z hf.1] at h3
    exact h3
theorem perm_lift {α β : Type} (f : α → β) : ∀ {l l' : List β}, l.Perm l' → ∀ z : List α, z.map f = l' → ∃ z' : List α, z'.Perm z ∧ z'.map f = l := by
  intro l l' h
  induction h with
  | nil => intro z hz; exact ⟨z, .refl _, hz⟩
  | cons x _ ih =>
    intro z hz
    cases z with
    | nil => simp at hz
    | cons p z =>
      simp only [List.map_cons, List.cons.injEq] at hz
      obtain ⟨z', h1, h2⟩ := ih z hz.2
      exact ⟨p :: z', h1.cons p, by simp [h2, hz.1]⟩
  | swap x y l =>
    intro z hz
    match z, hz with
    | p :: q :: z, hz =>
      simp only [List.map_cons, List.cons.injEq] at hz
      exact ⟨q :: p :: z, .swap .., by simp [hz.1, hz.2.1, hz.2.2]⟩
  | trans _ _ ih1 ih2 =>
    intro z hz
    obtain ⟨z1, h1, h2⟩ := ih2 z hz
    obtain ⟨z2, h3, h4⟩ := ih1 z1 h2
    exact ⟨z2, h3.trans h1, h4⟩
theorem costZ_perm {z z' : List (Nat × Nat)} (h : z.Perm z') : costZ z = costZ z' := (h.map _).sum_nat
theorem kraftZ_perm {L : Nat} {z z' : List (Nat × Nat)} (h : z.Perm z') : kraftZ L z = kraftZ L z' := (h.map _).sum_nat
theorem FitsZ.perm {L : Nat} {z z' : List (Nat × Nat)} (hf : FitsZ L z) (h : z'.Perm z) : FitsZ L z' := ⟨fun p hp => hf.1 p (h.mem_iff.1 hp), by rw [kraftZ_perm h]; exact hf.2⟩
/-- whatever the order of the leaves -/
theorem best_least {L : Nat} {ws : List Nat} {z : List (Nat × Nat)} (hL : 1 ≤ L) (ha : Asc ws) (hp : ws.Perm (z.map (·.1))) (hf : FitsZ L z) : best ws L ≤ costZ z := by
  obtain ⟨z', h1, h2⟩ := perm_lift (·.1) hp z rfl
  subst h2
  rw [← costZ_perm h1]
  exact best_le hL ha (hf.perm h1)
/-- the lengths of the leaves -/
def lenOf (ws : List Nat) (L i : Nat) : Nat := if ws.length = 1 then 1 else lv ws (L - 1) (2 * ws.length - 2) i
def zOf (ws : List Nat) (L : Nat) : List (Nat × Nat) := (List.range ws.length).map fun i => (ws.getD i 0, lenOf ws L i)
theorem zOf_fst (ws : List Nat) (L : Nat) : (zOf ws L).map (·.1) = ws := by
  unfold zOf
  rw [List.map_map]
  refine List.ext_getElem (by simp) fun i h1 h2 => ?_
  simp [h2]
theorem zOf_cost (ws : List Nat) (L : Nat) : costZ (zOf ws L) = over ws.length fun i => lenOf ws L i * ws.getD i 0 := by
  unfold costZ zOf over
  rw [List.map_map]; rfl
theorem zOf_kraft (ws : List Nat) (L : Nat) : kraftZ L (zOf ws L) = over ws.length fun i => 2 ^ (L - lenOf ws L i) := by
  unfold kraftZ zOf over
  rw [List.map_map]; rfl
theorem lenOf_in {ws : List Nat} {L : Nat} (ha : Asc ws) (hL : 1 ≤ L) (hn : ws.length ≤ 2 ^ L) {i : Nat} (hi : i < ws.length) : 1 ≤ lenOf ws L i ∧ lenOf ws L i ≤ L := by
  unfold lenOf
  split
  · exact ⟨Nat.le_refl _, hL⟩
  · obtain ⟨K, rfl⟩ : ∃ K, L = K + 1 := ⟨L - 1, by omega⟩
    exact ⟨lv_pos ha K (by omega) hn hi, lv_le ..⟩
theorem zOf_fits {ws : List Nat} {L : Nat} (ha : Asc ws) (hL : 1 ≤ L) (hn : ws.length ≤ 2 ^ L) : FitsZ L (zOf ws L) := by
  refine ⟨fun p hp => ?_, ?_⟩
  · obtain ⟨i, hi, rfl⟩ := List.mem_map.1 hp
    exact lenOf_in ha hL hn (List.mem_range.1 hi)
  · rw [zOf_kraft]
    obtain ⟨K, rfl⟩ : ∃ K, L = K + 1 := ⟨L - 1, by omega⟩
    rcases Nat.lt_or_ge 1 ws.length with h1 | h1
    · have := lv_kraft ha K h1 hn
      unfold lenOf
      rw [over_congr (g := fun i => 2 ^ (K + 1 - lv ws K (2 * ws.length - 2) i)) fun i _ => by rw [if_neg (by omega)]; rfl, this]
      exact Nat.le_refl _
    · rcases Nat.eq_zero_or_pos ws.length with h0 | h0
      · rw [h0]; simp [over]
      · have h1 : ws.length = 1 := by omega
        rw [h1, over_succ]
        unfold lenOf
        rw [if_pos h1]
        have := Nat.pow_le_pow_right (n := 2) (by decide) (show K + 1 - 1 ≤ K + 1 by omega)
        simpa [over] using this
theorem zOf_best {ws : List Nat} {L : Nat} (ha : Asc ws) (hL : 1 ≤ L) (hn : ws.length ≤ 2 ^ L) : costZ (zOf ws L) = best ws L := by
  rw [zOf_cost]
  unfold best lenOf
  obtain ⟨K, rfl⟩ : ∃ K, L = K + 1 := ⟨L - 1, by omega⟩
  rcases Nat.lt_or_ge 1 ws.length with h1 | h1
  · rw [if_neg (by omega), over_congr (g := fun i => lv ws K (2 * ws.length - 2) i * ws.getD i 0) fun i _ => by rw [if_neg (by omega)]; rfl]
    exact lv_total ha K _ (row_enough K hn)
  · rw [if_pos h1]
    match ws, h1 with
    | [], _ => rfl
    | [w], _ => simp [over]
/-- a greater limit -/
theorem fits_more {a b : Nat} {z : List (Nat × Nat)} (hab : a ≤ b) (hf : FitsZ a z) : FitsZ b z := by
  refine ⟨fun p hp => ⟨(hf.1 p hp).1, Nat.le_trans (hf.1 p hp).2 hab⟩, ?_⟩
  have e : ∀ z : List (Nat × Nat), (∀ p ∈ z, p.2 ≤ a) → kraftZ b z = 2 ^ (b - a) * kraftZ a z := by
    intro z
    induction z with
    | nil => intro _; simp [kraftZ]
    | cons p z ih =>
      intro h
      have e1 : ∀ L, kraftZ L (p :: z) = 2 ^ (L - p.2) + kraftZ L z := by intro L; simp [kraftZ]
      have hp := h p (by simp)
      rw [e1, e1, ih fun q hq => h q (List.mem_cons_of_mem _ hq), Nat.mul_add, ← Nat.pow_add, show b - a + (a - p.2) = b - p.2 by omega]
  rw [e z fun p hp => (hf.1 p hp).2, show b = (b - a) + a by omega, Nat.pow_add, show b - a + a - a = b - a by omega]
  exact Nat.mul_le_mul_left _ hf.2
theorem best_limit {ws : List Nat} {a b : Nat} (ha : Asc ws) (h1 : 1 ≤ a) (hab : a ≤ b) (hn : ws.length ≤ 2 ^ a) : best ws b ≤ best ws a := by
  rw [← zOf_best ha h1 hn]
  have := best_le (L := b) (z := zOf ws a) (by omega) (by rw [zOf_fst]; exact ha) (fits_more hab (zOf_fits ha h1 hn))
  rwa [zOf_fst] at this
theorem asc_eq {l l' : List Nat} (h : l.Perm l') (h1 : Asc l) (h2 : Asc l') : l = l' :=
  List.Perm.eq_of_pairwise (le := fun a b : Nat => a ≤ b) (fun a b _ _ h3 h4 => Nat.le_antisymm h3 h4) h1 h2 h
/-- one more leaf -/
theorem best_more {ws ws' : List Nat} {c L : Nat} (ha : Asc ws) (ha' : Asc ws') (hp : ws'.Perm (c :: ws)) (hL : 1 ≤ L) (hn : ws'.length ≤ 2 ^ L) : best ws L ≤ best ws' L := by
  have hf := zOf_fits ha' hL hn
  rw [← zOf_best ha' hL hn]
  obtain ⟨z', h1, h2⟩ := perm_lift (·.1) hp.symm (zOf ws' L) (zOf_fst ws' L)
  cases z' with
  | nil => simp at h2
  | cons p z =>
    simp only [List.map_cons, List.cons.injEq] at h2
    obtain ⟨h3, h4⟩ := h2
    have hf' := hf.perm h1
    have e1 : kraftZ L (p :: z) = 2 ^ (L - p.2) + kraftZ L z := by simp [kraftZ]
    have e2 : costZ (p :: z) = p.2 * p.1 + costZ z := by simp [costZ]
    have hz : FitsZ L z := ⟨fun q hq => hf'.1 q (List.mem_cons_of_mem _ hq), by have := hf'.2; rw [e1] at this; exact Nat.le_trans (Nat.le_add_left ..) this⟩
    have := best_least (ws := ws) hL ha (by rw [h4]) hz
    have h5 := costZ_perm h1
    omega
/-! all weights doubled -/
def dbl (x : It) : It := (2 * x.1, x.2)
theorem mrg_dbl : ∀ A B, mrg (A.map dbl) (B.map dbl) = (mrg A B).map dbl := by
  refine mrg_ind (fun B => by rw [List.map_nil, nil_mrg, nil_mrg]) (fun a A => by rw [List.map_nil, mrg_nil, mrg_nil]) (fun a A p B h ih => ?_) (fun a A p B h ih => ?_)
  · rw [List.map_cons, List.map_cons, mrg_le (by simp only [dbl]; omega), mrg_le h, List.map_cons, ← ih, List.map_cons]
  · rw [List.map_cons, List.map_cons, mrg_gt (by simp only [dbl]; omega), mrg_gt h, List.map_cons, ← ih, List.map_cons]
theorem pairs_dbl : ∀ l, pairs (l.map dbl) = (pairs l).map dbl
  | [] => rfl
  | [_] => by simp [pairs]
  | a :: b :: l => by
    simp only [List.map_cons, pairs, pairs_dbl l]
    congr 1
    simp only [dbl, Prod.mk.injEq, and_true]; omega
theorem row_dbl (ws : List Nat) : ∀ k, row (ws.map (2 * ·)) k = (row ws k).map dbl
  | 0 => by simp only [row, lv0, List.map_map]; rfl
  | k + 1 => by
    have e : lv0 (ws.map (2 * ·)) = (lv0 ws).map dbl := by simp only [lv0, List.map_map]; rfl
    rw [row, row, row_dbl ws k, e, pairs_dbl, mrg_dbl]
theorem whole_dbl (ws : List Nat) (k m : Nat) : whole (ws.map (2 * ·)) k m = whole ws k m := by
  unfold whole leafs
  rw [row_dbl, ← List.map_take, List.filter_map, List.length_map]
  rfl
theorem lv_dbl (ws : List Nat) : ∀ k m i, lv (ws.map (2 * ·)) k m i = lv ws k m i
  | 0, m, i => by unfold lv; rw [whole_dbl]
  | k + 1, m, i => by unfold lv; rw [whole_dbl, lv_dbl ws k]
theorem lenOf_dbl (ws : List Nat) (L i : Nat) : lenOf (ws.map (2 * ·)) L i = lenOf ws L i := by
  unfold lenOf
  rw [List.length_map, lv_dbl]
end Go.Pm
