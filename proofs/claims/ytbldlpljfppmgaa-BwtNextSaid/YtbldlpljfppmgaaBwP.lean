/-
  The transform: plain law. Conditions: as each theorem states.
-/
import Derived.Test.YtbldlpljfppmgaaRk
import Derived.Test.YtbldlpljfppmgaaStr
namespace Go.Bw
open Go.Rk
abbrev lx : List Nat → List Nat → Bool := Go.Vc.lxb
theorem lx_nil (x : List Nat) : lx x [] = false := by cases x <;> rfl
theorem lx_cons (a b : Nat) (x y : List Nat) : lx (a :: x) (b :: y) = (decide (a < b) || (a == b && lx x y)) := rfl
theorem lx_irr : ∀ x, lx x x = false
  | [] => rfl
  | a :: x => by rw [lx_cons, lx_irr x]; simp
theorem lx_trans : ∀ x y z, lx x y = true → lx y z = true → lx x z = true
  | _, [], _, h, _ => by rw [lx_nil] at h; cases h
  | _, _ :: _, [], _, h => by rw [lx_nil] at h; cases h
  | [], _ :: _, _ :: _, _, _ => rfl
  | a :: x, b :: y, c :: z, h1, h2 => by
    rw [lx_cons] at *
    simp only [Bool.or_eq_true, Bool.and_eq_true, decide_eq_true_eq, beq_iff_eq] at *
    rcases h1 with h1 | ⟨h1, h3⟩ <;> rcases h2 with h2 | ⟨h2, h4⟩
    · left; omega
    · left; omega
    · left; omega
    · exact .inr ⟨by omega, lx_trans x y z h3 h4⟩
theorem lx_total : ∀ x y, lx x y = false → lx y x = false → x = y
  | [], [], _, _ => rfl
  | [], _ :: _, h, _ => by cases h
  | _ :: _, [], _, h => by cases h
  | a :: x, b :: y, h1, h2 => by
    rw [lx_cons] at *
    simp only [Bool.or_eq_false_iff, Bool.and_eq_false_iff, decide_eq_false_iff_not, beq_eq_false_iff_ne] at *
    have hab : a = b := by omega
    subst hab
    rw [lx_total x y (by rcases h1.2 with h | h; exact absurd rfl h; exact h) (by rcases h2.2 with h | h; exact absurd rfl h; exact h)]
theorem lx_ntrans (x y z : List Nat) (h1 : lx x y = false) (h2 : lx y z = false) : lx x z = false := by
  cases h : lx x z with
  | false => rfl
  | true =>
    by_cases e : x = y
    · subst e; rw [h] at h2; cases h2
    · have hyx : lx y x = true := by
        cases hh : lx y x with
        | true => rfl
        | false => exact absurd (lx_total x y h1 hh) e
      have := lx_trans _ _ _ hyx h
      rw [h2] at this; cases this
theorem lx_app : ∀ (k c d : List Nat), lx (k ++ c) (k ++ d) = lx c d
  | [], _, _ => rfl
  | a :: k, c, d => by rw [List.cons_append, List.cons_append, lx_cons, lx_app k]; simp
/-- beginnings that differ decide -/
theorem lx_pre : ∀ (a b c d : List Nat), a ≠ b → (a.length < b.length → c = []) → (b.length < a.length → d = []) → lx (a ++ c) (b ++ d) = lx a b
  | [], [], _, _, h, _, _ => absurd rfl h
  | [], y :: b, c, d, _, h1, _ => by rw [h1 (by simp)]; rfl
  | x :: a, [], c, d, _, _, h2 => by rw [h2 (by simp)]; rfl
  | x :: a, y :: b, c, d, h, h1, h2 => by
    rw [List.cons_append, List.cons_append, lx_cons, lx_cons]
    by_cases e : x = y
    · subst e
      rw [lx_pre a b c d (fun e => h (by rw [e])) (fun hl => h1 (by simpa using hl)) (fun hl => h2 (by simpa using hl))]
    · rw [beq_eq_false_iff_ne.2 e, Bool.false_and, Bool.false_and]
/-! suffixes -/
def sl (t : List Nat) (i k : Nat) : Bool := lx (t.drop i) (t.drop k)
theorem sl_so (t : List Nat) : SO (sl t) := ⟨fun _ => lx_irr _, fun _ _ _ => lx_trans _ _ _, fun _ _ _ => lx_ntrans _ _ _⟩
theorem drop_inj {t : List Nat} {i k : Nat} (hi : i ≤ t.length) (hk : k ≤ t.length) (h : t.drop i = t.drop k) : i = k := by
  have := congrArg List.length h
  simp only [List.length_drop] at this
  omega
def rows (t : List Nat) : List Nat := List.range (t.length + 1)
theorem rows_mem {t : List Nat} {i : Nat} : i ∈ rows t ↔ i ≤ t.length := by unfold rows; rw [List.mem_range]; omega
theorem rows_nodup (t : List Nat) : (rows t).Nodup := List.nodup_range
theorem rows_len (t : List Nat) : (rows t).length = t.length + 1 := List.length_range
theorem sl_tot (t : List Nat) : Tot (sl t) (rows t) := fun x hx y hy e => by
  rw [rows_mem] at hx hy
  cases h1 : sl t x y with
  | true => exact .inl rfl
  | false =>
    right
    cases h2 : sl t y x with
    | true => rfl
    | false => exact absurd (drop_inj hx hy (lx_total _ _ h1 h2)) e
def ordB (t : List Nat) : List Nat := srt (sl t) (rows t)
def rkB (t : List Nat) (i : Nat) : Nat := rk (sl t) (rows t) i
theorem ordB_len (t : List Nat) : (ordB t).length = t.length + 1 := by unfold ordB; rw [srt_len, rows_len]
theorem ordB_mem {t : List Nat} {i : Nat} : i ∈ ordB t ↔ i ≤ t.length := by unfold ordB; rw [(srt_perm _).mem_iff, rows_mem]
theorem rkB_lt {t : List Nat} {i : Nat} (hi : i ≤ t.length) : rkB t i < t.length + 1 := by
  have := rk_lt_len (sl_so t) (rows_nodup t) (sl_tot t) (rows_mem.2 hi)
  rwa [rows_len] at this
theorem ordB_rk {t : List Nat} {i : Nat} (hi : i ≤ t.length) : ∃ h : rkB t i < (ordB t).length, (ordB t)[rkB t i] = i := srt_at (sl_so t) (rows_nodup t) (sl_tot t) (rows_mem.2 hi)
theorem rk_ordB {t : List Nat} {r : Nat} (hr : r < (ordB t).length) : rkB t (ordB t)[r] = r := rk_at (sl_so t) (rows_nodup t) (sl_tot t) hr
theorem rkB_iff {t : List Nat} {i k : Nat} (hi : i ≤ t.length) (hk : k ≤ t.length) : rkB t i < rkB t k ↔ sl t i k = true := rk_iff (sl_so t) (sl_tot t) (rows_mem.2 hi) (rows_mem.2 hk)
theorem rkB_inj {t : List Nat} {i k : Nat} (hi : i ≤ t.length) (hk : k ≤ t.length) (h : rkB t i = rkB t k) : i = k := rk_inj (sl_so t) (sl_tot t) (rows_mem.2 hi) (rows_mem.2 hk) h
theorem ordB_sorted (t : List Nat) : (ordB t).Pairwise fun a b => sl t a b = true := srt_sorted (sl_so t) (rows_nodup t) (sl_tot t)
theorem drop_get {t : List Nat} {j : Nat} (hj : j < t.length) : t.drop j = t.getD j 0 :: t.drop (j + 1) := by
  rw [List.drop_eq_getElem_cons hj]; simp [List.getD, hj]
theorem sl_step {t : List Nat} {i k : Nat} (hi : i < t.length) (hk : k < t.length) : sl t i k = (decide (t.getD i 0 < t.getD k 0) || (t.getD i 0 == t.getD k 0 && sl t (i + 1) (k + 1))) := by
  unfold sl
  rw [drop_get hi, drop_get hk, lx_cons]
theorem rkB_end (t : List Nat) : rkB t t.length = 0 := by
  unfold rkB rk
  rw [List.countP_eq_zero]
  intro x _
  unfold sl
  rw [List.drop_length, lx_nil]; decide
/-! last column, index -/
def idxB (t : List Nat) : Nat := rkB t 0
def colE (t : List Nat) : List Nat := (ordB t).filter fun i => i != 0
def lastB (t : List Nat) : List Nat := (colE t).map fun i => t.getD (i - 1) 0
/-- the place of a row in the column -/
def atB (index row : Nat) : Nat := if row > index then row - 1 else row
theorem atB_lt {index a b : Nat} (ha : a ≠ index) (hb : b ≠ index) : atB index a < atB index b ↔ a < b := by
  unfold atB; split <;> split <;> omega
theorem atB_inj {index a b : Nat} (ha : a ≠ index) (hb : b ≠ index) (h : atB index a = atB index b) : a = b := by
  unfold atB at h; split at h <;> split at h <;> omega
theorem idxB_le (t : List Nat) : idxB t ≤ t.length := by have := rkB_lt (t := t) (i := 0) (by omega); unfold idxB; omega
theorem ordB_idx (t : List Nat) {r : Nat} (hr : r < (ordB t).length) : (ordB t)[r] = 0 ↔ r = idxB t := by
  constructor
  · intro h
    have := rk_ordB hr
    rw [h] at this; exact this.symm
  · rintro rfl
    exact (ordB_rk (t := t) (i := 0) (by omega)).2
theorem filter_at : ∀ (l : List Nat) (ix : Nat), (∀ r (hr : r < l.length), l[r] = 0 ↔ r = ix) → ∀ r (hr : r < l.length), r ≠ ix → (l.filter fun i => i != 0)[atB ix r]? = some l[r]
  | [], _, _, r, hr, _ => by simp at hr
  | a :: l, 0, h, r, hr, hne => by
    have ha : a = 0 := (h 0 (by simp)).2 rfl
    subst ha
    have hall : ∀ x ∈ l, x ≠ 0 := fun x hx e => by
      obtain ⟨i, hi, rfl⟩ := List.getElem_of_mem hx
      have := (h (i + 1) (by simpa using hi)).1 (by simpa using e)
      omega
    obtain ⟨r, rfl⟩ : ∃ r', r = r' + 1 := ⟨r - 1, by omega⟩
    have hr' : r < l.length := by simpa using hr
    rw [List.filter_cons, if_neg (by simp), List.filter_eq_self.2 fun x hx => by simpa using hall x hx]
    unfold atB
    rw [if_pos (by omega)]
    simp [hr']
  | a :: l, ix + 1, h, r, hr, hne => by
    have ha : a ≠ 0 := fun e => by have := (h 0 (by simp)).1 e; omega
    have ih := filter_at l ix fun r hr => by
      have := h (r + 1) (by simpa using hr)
      simp only [List.getElem_cons_succ] at this
      omega
    rw [List.filter_cons, if_pos (by simpa using ha)]
    cases r with
    | zero =>
      have : atB (ix + 1) 0 = 0 := by unfold atB; rw [if_neg (by omega)]
      rw [this]; rfl
    | succ r =>
      have hr' : r < l.length := by simpa using hr
      have h2 := ih r hr' (by omega)
      have : atB (ix + 1) (r + 1) = atB ix r + 1 := by unfold atB; split <;> split <;> omega
      rw [this, List.getElem?_cons_succ, h2]; simp
theorem colE_at {t : List Nat} {r : Nat} (hr : r < (ordB t).length) (hne : r ≠ idxB t) : (colE t)[atB (idxB t) r]? = some (ordB t)[r] := filter_at _ _ (fun r hr => ordB_idx t hr) r hr hne
theorem colE_perm (t : List Nat) : (colE t).Perm ((List.range t.length).map (· + 1)) := by
  have h := (srt_perm (lt := sl t) (rows t)).filter fun i => i != 0
  have e : (rows t).filter (fun i => i != 0) = (List.range t.length).map (· + 1) := by
    unfold rows
    rw [List.range_succ_eq_map, List.filter_cons, if_neg (by simp), List.filter_eq_self.2 fun x hx => by obtain ⟨y, _, rfl⟩ := List.mem_map.1 hx; simp]
  rw [e] at h
  exact h
theorem colE_len (t : List Nat) : (colE t).length = t.length := by rw [(colE_perm t).length_eq]; simp
theorem lastB_len (t : List Nat) : (lastB t).length = t.length := by unfold lastB; rw [List.length_map, colE_len]
theorem colE_sorted (t : List Nat) : (colE t).Pairwise fun a b => sl t a b = true := (ordB_sorted t).filter _
theorem lastB_rk {t : List Nat} {j : Nat} (h0 : 0 < j) (hj : j ≤ t.length) : (lastB t).getD (atB (idxB t) (rkB t j)) 0 = t.getD (j - 1) 0 := by
  obtain ⟨h1, h2⟩ := ordB_rk hj
  have hne : rkB t j ≠ idxB t := fun e => by have := rkB_inj hj (by omega) e; omega
  have := colE_at h1 hne
  rw [h2] at this
  unfold lastB
  simp [List.getD, this]
/-! the row after a row -/
/-- one place of a column stands ahead of another in the first column -/
def pl (last : List Nat) (a b : Nat) : Bool := decide (last.getD a 0 < last.getD b 0) || (last.getD a 0 == last.getD b 0 && decide (a < b))
theorem pl_iff {last : List Nat} {a b : Nat} : pl last a b = true ↔ last.getD a 0 < last.getD b 0 ∨ (last.getD a 0 = last.getD b 0 ∧ a < b) := by simp [pl]
theorem pl_f {last : List Nat} {a b : Nat} : pl last a b = false ↔ ¬ (last.getD a 0 < last.getD b 0 ∨ (last.getD a 0 = last.getD b 0 ∧ a < b)) := by rw [← pl_iff, Bool.not_eq_true]
theorem pl_so (last : List Nat) : SO (pl last) := ⟨fun a => by rw [pl_f]; omega, fun a b c h1 h2 => by rw [pl_iff] at *; omega, fun a b c h1 h2 => by rw [pl_f] at *; omega⟩
theorem pl_tot (last dom : List Nat) : Tot (pl last) dom := fun x _ y _ e => by rw [pl_iff, pl_iff]; omega
def nx (last : List Nat) (a : Nat) : Nat := 1 + rk (pl last) (List.range last.length) a
theorem nx_le {last : List Nat} {a : Nat} (ha : a < last.length) : nx last a ≤ last.length := by
  have := rk_lt_len (pl_so last) List.nodup_range (pl_tot last _) (List.mem_range.2 ha)
  rw [List.length_range] at this
  unfold nx; omega
theorem nx_pos (last : List Nat) (a : Nat) : 1 ≤ nx last a := by unfold nx; omega
theorem nx_iff {last : List Nat} {a b : Nat} (ha : a < last.length) (hb : b < last.length) : nx last a < nx last b ↔ pl last a b = true := by
  have := rk_iff (pl_so last) (pl_tot last _) (List.mem_range.2 ha) (List.mem_range.2 hb)
  unfold nx
  rw [← this]; omega
theorem nx_inj {last : List Nat} {a b : Nat} (ha : a < last.length) (hb : b < last.length) (h : nx last a = nx last b) : a = b :=
  rk_inj (pl_so last) (pl_tot last _) (List.mem_range.2 ha) (List.mem_range.2 hb) (by unfold nx at h; omega)
/-- the row after the row of a suffix is that of the suffix one longer -/
theorem nx_rk {t : List Nat} {j : Nat} (h0 : 0 < j) (hj : j ≤ t.length) : nx (lastB t) (atB (idxB t) (rkB t j)) = rkB t (j - 1) := by
  obtain ⟨h1, h2⟩ := ordB_rk hj
  have hne : rkB t j ≠ idxB t := fun e => by have := rkB_inj hj (by omega) e; omega
  have hat := colE_at h1 hne
  rw [h2] at hat
  obtain ⟨k, hk⟩ : ∃ k, atB (idxB t) (rkB t j) = k := ⟨_, rfl⟩
  rw [hk] at hat ⊢
  obtain ⟨hkl, hke⟩ := List.getElem?_eq_some_iff.1 hat
  have hcl := colE_len t
  have hlast : ∀ i (hi : i < (colE t).length), (lastB t).getD i 0 = t.getD ((colE t)[i] - 1) 0 := fun i hi => by
    unfold lastB
    simp [List.getD, hi]
  have hin : ∀ i (hi : i < (colE t).length), 0 < (colE t)[i] ∧ (colE t)[i] ≤ t.length := fun i hi => by
    have := (colE_perm t).mem_iff.1 (List.getElem_mem hi)
    obtain ⟨x, hx, e⟩ := List.mem_map.1 this
    rw [List.mem_range] at hx
    omega
  -- the places that stand ahead, as elements of the column
  have e1 : rk (pl (lastB t)) (List.range (lastB t).length) k = (colE t).countP fun x => sl t (x - 1) (j - 1) := by
    have : (colE t) = (List.range (lastB t).length).map fun i => (colE t).getD i 0 := by
      apply List.ext_getElem
      · rw [List.length_map, List.length_range, lastB_len, hcl]
      · intro i h1 h2
        simp [List.getD, h1]
    unfold rk
    conv => rhs; rw [this, List.countP_map]
    apply List.countP_congr
    intro i hi
    have hi : i < (colE t).length := by rw [List.mem_range, lastB_len] at hi; omega
    obtain ⟨a1, a2⟩ := hin i hi
    have b1 := hin k hkl
    have hci : (colE t).getD i 0 = (colE t)[i] := by simp [List.getD, hi]
    have hs := sl_step (t := t) (i := (colE t)[i] - 1) (k := j - 1) (by omega) (by omega)
    rw [show (colE t)[i] - 1 + 1 = (colE t)[i] by omega, show j - 1 + 1 = j by omega] at hs
    simp only [Function.comp]
    rw [hci, hs]
    unfold pl
    rw [hlast i hi, hlast k hkl, hke]
    have hord : decide (i < k) = true ↔ sl t (colE t)[i] j = true := by
      rw [decide_eq_true_iff, ← hke]
      constructor
      · intro hik
        exact List.pairwise_iff_getElem.1 (colE_sorted t) i k hi hkl hik
      · intro hsl
        rcases Nat.lt_trichotomy i k with h | h | h
        · exact h
        · subst h; rw [(sl_so t).irr] at hsl; cases hsl
        · have := List.pairwise_iff_getElem.1 (colE_sorted t) k i hkl hi h
          rw [(sl_so t).asym hsl] at this; cases this
    simp only [Bool.or_eq_true, Bool.and_eq_true, hord]
  have e2 : (colE t).countP (fun x => sl t (x - 1) (j - 1)) = (List.range t.length).countP fun x => sl t x (j - 1) := by
    rw [(colE_perm t).countP_eq, List.countP_map]
    rfl
  have e3 : rkB t (j - 1) = 1 + (List.range t.length).countP fun x => sl t x (j - 1) := by
    unfold rkB rk rows
    rw [List.range_succ, List.countP_append, List.countP_cons, List.countP_nil]
    have : sl t t.length (j - 1) = true := by
      unfold sl
      rw [List.drop_length, drop_get (by omega)]; rfl
    rw [this]; simp; omega
  unfold nx
  rw [e1, e2, e3]
/-! back -/
/-- the row after k steps -/
def wk (last : List Nat) (index : Nat) : Nat → Nat
  | 0 => 0
  | k + 1 => nx last (atB index (wk last index k))
def okB (last : List Nat) (index : Nat) : Prop := index ≤ last.length ∧ (∀ k, k < last.length → wk last index k ≠ index) ∧ wk last index last.length = index
def textB (last : List Nat) (index : Nat) : List Nat := ((List.range last.length).map fun k => last.getD (atB index (wk last index k)) 0).reverse
theorem textB_len (last : List Nat) (index : Nat) : (textB last index).length = last.length := by simp [textB]
theorem textB_get {last : List Nat} {index k : Nat} (hk : k < last.length) : (textB last index).getD (last.length - 1 - k) 0 = last.getD (atB index (wk last index k)) 0 := by
  unfold textB
  rw [List.getD, List.getElem?_reverse (by simp; omega)]
  simp only [List.length_map, List.length_range]
  rw [show last.length - 1 - (last.length - 1 - k) = k by omega]
  simp [hk]
/-- back after the transform -/
theorem back_turn (t : List Nat) : okB (lastB t) (idxB t) ∧ textB (lastB t) (idxB t) = t := by
  have hw : ∀ k, k ≤ t.length → wk (lastB t) (idxB t) k = rkB t (t.length - k) := by
    intro k
    induction k with
    | zero => intro _; rw [wk, Nat.sub_zero, rkB_end]
    | succ k ih =>
      intro hk
      rw [wk, ih (by omega), nx_rk (by omega) (by omega)]
      congr 1
  have hl := lastB_len t
  refine ⟨⟨by rw [hl]; exact idxB_le t, fun k hk e => ?_, ?_⟩, ?_⟩
  · rw [hl] at hk
    rw [hw k (by omega)] at e
    have := rkB_inj (by omega) (by omega) e
    omega
  · rw [hl, hw _ (Nat.le_refl _), Nat.sub_self]; rfl
  · apply List.ext_getElem (by rw [textB_len, hl])
    intro i h1 h2
    have e := textB_get (last := lastB t) (index := idxB t) (k := t.length - 1 - i) (by rw [hl]; omega)
    rw [hl, show t.length - 1 - (t.length - 1 - i) = i by omega, hw _ (by omega), show t.length - (t.length - 1 - i) = i + 1 by omega, lastB_rk (by omega) (by omega)] at e
    rw [show i + 1 - 1 = i by omega] at e
    simpa [List.getD, h1, h2] using e
theorem atB_in {last : List Nat} {index row : Nat} (hi : index ≤ last.length) (hr : row ≤ last.length) (hne : row ≠ index) : atB index row < last.length := by unfold atB; split <;> omega
theorem wk_le {last : List Nat} {index : Nat} (hi : index ≤ last.length) : ∀ k, (∀ j, j < k → wk last index j ≠ index) → wk last index k ≤ last.length
  | 0, _ => by rw [wk]; omega
  | k + 1, h => by
    rw [wk]
    exact nx_le (atB_in hi (wk_le hi k fun j hj => h j (by omega)) (h k (by omega)))
/-- the rows of a walk that has not met the index are different -/
theorem wk_inj {last : List Nat} {index : Nat} (hi : index ≤ last.length) : ∀ a b, (∀ j, j < b → wk last index j ≠ index) → a < b → wk last index a ≠ wk last index b
  | 0, 0, _, h => by omega
  | 0, b + 1, _, _ => by
    intro e
    rw [wk, wk] at e
    have := nx_pos last (atB index (wk last index b))
    omega
  | a + 1, 0, _, h => by omega
  | a + 1, b + 1, hn, hab => by
    intro e
    rw [wk, wk] at e
    have ha := hn a (by omega)
    have hb := hn b (by omega)
    have h1 := wk_le hi a fun j hj => hn j (by omega)
    have h2 := wk_le hi b fun j hj => hn j (by omega)
    have := nx_inj (atB_in hi h1 ha) (atB_in hi h2 hb) e
    exact wk_inj hi a b (fun j hj => hn j (by omega)) (by omega) (atB_inj ha hb this)
/-- a right pair is the transform of its text -/
theorem turn_back {last : List Nat} {index : Nat} (h : okB last index) : lastB (textB last index) = last ∧ idxB (textB last index) = index := by
  obtain ⟨hi, hne, hend⟩ := h
  obtain ⟨m, hm⟩ : ∃ m, m = last.length := ⟨_, rfl⟩
  have hT : (textB last index).length = m := by rw [textB_len, hm]
  obtain ⟨T, hTe⟩ : ∃ T, T = textB last index := ⟨_, rfl⟩
  rw [← hTe] at hT ⊢
  have hget : ∀ k, k < m → T.getD (m - 1 - k) 0 = last.getD (atB index (wk last index k)) 0 := fun k hk => by rw [hTe, hm]; exact textB_get (by omega)
  have hat : ∀ k, k < m → atB index (wk last index k) < last.length := fun k hk => atB_in hi (wk_le hi k fun j hj => hne j (by omega)) (hne k (by omega))
  have claim : ∀ k l, k ≤ m → l ≤ m → (wk last index k < wk last index l ↔ sl T (m - k) (m - l) = true) := by
    intro k
    induction k with
    | zero =>
      intro l _ hl
      rw [wk]
      cases l with
      | zero => rw [wk, Nat.sub_zero, (sl_so T).irr]; simp
      | succ l =>
        rw [wk]
        have := nx_pos last (atB index (wk last index l))
        have e : sl T (m - 0) (m - (l + 1)) = true := by
          unfold sl
          rw [Nat.sub_zero, ← hT, List.drop_length, drop_get (by omega)]; rfl
        rw [e]; simp; omega
    | succ k ih =>
      intro l hk hl
      cases l with
      | zero =>
        have e : sl T (m - (k + 1)) (m - 0) = false := by
          unfold sl
          rw [Nat.sub_zero, ← hT, List.drop_length, lx_nil]
        rw [e]; simp [wk]
      | succ l =>
        have h1 := ih l (by omega) (by omega)
        have hs := sl_step (t := T) (i := m - (k + 1)) (k := m - (l + 1)) (by omega) (by omega)
        rw [show m - (k + 1) + 1 = m - k by omega, show m - (l + 1) + 1 = m - l by omega, show m - (k + 1) = m - 1 - k by omega, show m - (l + 1) = m - 1 - l by omega, hget k (by omega), hget l (by omega)] at hs
        rw [wk, wk, nx_iff (hat k (by omega)) (hat l (by omega)), pl_iff, show m - (k + 1) = m - 1 - k by omega, show m - (l + 1) = m - 1 - l by omega, hs]
        simp only [Bool.or_eq_true, Bool.and_eq_true, decide_eq_true_eq, beq_iff_eq]
        rw [atB_lt (hne k (by omega)) (hne l (by omega)), h1]
  -- the rows of the walk are all rows
  have hperm : ((List.range (m + 1)).map (wk last index)).Perm (List.range (m + 1)) := by
    have hn : ((List.range (m + 1)).map (wk last index)).Nodup := by
      refine List.pairwise_map.2 (List.Pairwise.imp_of_mem (fun {a b} ha hb hab => ?_) List.nodup_range)
      rw [List.mem_range] at ha hb
      rcases Nat.lt_or_ge a b with h | h
      · exact wk_inj hi a b (fun j hj => hne j (by omega)) h
      · exact fun e => wk_inj hi b a (fun j hj => hne j (by omega)) (by omega) e.symm
    have := perm_range hn (fun x hx => by
      obtain ⟨k, hk, rfl⟩ := List.mem_map.1 hx
      rw [List.mem_range] at hk
      rw [List.length_map, List.length_range]
      have := wk_le hi k fun j hj => hne j (by omega)
      omega)
    rwa [List.length_map, List.length_range] at this
  have hrk : ∀ k, k ≤ m → rkB T (m - k) = wk last index k := by
    intro k hk
    have e1 : (List.range (m + 1)).countP (fun x => decide (x < wk last index k)) = wk last index k := by
      have hle := wk_le hi k fun j hj => hne j (by omega)
      have key : ∀ n c, c ≤ n → (List.range n).countP (fun x => decide (x < c)) = c := by
        intro n
        induction n with
        | zero => intro c hc; simp; omega
        | succ n ih =>
          intro c hc
          rw [List.range_succ, List.countP_append, List.countP_cons, List.countP_nil]
          by_cases h : c ≤ n
          · rw [ih c h]; simp; omega
          · have : c = n + 1 := by omega
            subst this
            have h2 : (List.range n).countP (fun x => decide (x < n + 1)) = n := by
              have : (List.range n).countP (fun x => decide (x < n + 1)) = (List.range n).length := List.countP_eq_length.2 fun x hx => by rw [List.mem_range] at hx; simp; omega
              rw [this, List.length_range]
            rw [h2]; simp
      exact key _ _ (by omega)
    rw [← hperm.countP_eq, List.countP_map] at e1
    have e2 : rkB T (m - k) = (List.range (m + 1)).countP fun l => sl T (m - l) (m - k) := by
      unfold rkB rk rows
      rw [hT]
      have hp : ((List.range (m + 1)).map fun l => m - l).Perm (List.range (m + 1)) := by
        have := perm_range (l := (List.range (m + 1)).map fun l => m - l) (List.pairwise_map.2 (List.Pairwise.imp_of_mem (fun {a b} ha hb hab => by
          rw [List.mem_range] at ha hb; omega) List.nodup_range)) (fun x hx => by
          obtain ⟨l, hl, rfl⟩ := List.mem_map.1 hx
          rw [List.length_map, List.length_range]; omega)
        rwa [List.length_map, List.length_range] at this
      rw [← hp.countP_eq, List.countP_map]
      rfl
    rw [e2, ← e1]
    refine List.countP_congr fun l hl => ?_
    rw [List.mem_range] at hl
    have := claim l k (by omega) hk
    simp only [Function.comp, decide_eq_true_eq]
    exact this.symm
  have hidx : idxB T = index := by
    have := hrk m (Nat.le_refl _)
    rw [Nat.sub_self] at this
    unfold idxB
    rw [this, hm]; exact hend
  refine ⟨?_, hidx⟩
  apply List.ext_getElem (by rw [lastB_len, hT, hm])
  intro i h1 h2
  -- the row at place i, and its step
  obtain ⟨r, hr1, hr2, hr3⟩ : ∃ r, r ≤ m ∧ r ≠ index ∧ atB index r = i := by
    by_cases h : i < index
    · exact ⟨i, by omega, by omega, by unfold atB; rw [if_neg (by omega)]⟩
    · exact ⟨i + 1, by omega, by omega, by unfold atB; rw [if_pos (by omega)]; omega⟩
  have hrm : r ∈ (List.range (m + 1)).map (wk last index) := hperm.mem_iff.2 (List.mem_range.2 (by omega))
  obtain ⟨k, hk, rfl⟩ := List.mem_map.1 hrm
  rw [List.mem_range] at hk
  have hkm : k < m := by
    rcases Nat.lt_or_ge k m with h | h
    · exact h
    · have : k = last.length := by omega
      subst this
      exact absurd hend hr2
  have e1 := lastB_rk (t := T) (j := m - k) (by omega) (by omega)
  rw [hrk k (by omega), hidx, hr3, show m - k - 1 = m - 1 - k by omega, hget k hkm, hr3] at e1
  simpa [List.getD, h1, h2] using e1
end Go.Bw
