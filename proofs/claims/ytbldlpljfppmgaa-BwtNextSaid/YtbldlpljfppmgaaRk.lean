/-
  Ranks in strict orders: plain law. Conditions: as each theorem states.
-/
import Derived.Test.YtbldlpljfppmgaaMore
namespace Go.Rk
section
variable {α : Type} {lt : α → α → Bool}
/-- a strict weak order -/
structure SO (lt : α → α → Bool) : Prop where
  irr : ∀ a, lt a a = false
  trans : ∀ a b c, lt a b = true → lt b c = true → lt a c = true
  ntrans : ∀ a b c, lt a b = false → lt b c = false → lt a c = false
theorem SO.asym (h : SO lt) {a b : α} (hab : lt a b = true) : lt b a = false := by
  cases hb : lt b a with
  | false => rfl
  | true => have := h.trans _ _ _ hab hb; rw [h.irr] at this; cases this
theorem countP_lt {p q : α → Bool} : ∀ {l : List α}, (∀ z ∈ l, p z = true → q z = true) → (∃ x, x ∈ l ∧ q x = true ∧ p x = false) → l.countP p < l.countP q
  | [], _, ⟨x, hx, _⟩ => by cases hx
  | a :: l, h, ⟨x, hx, hq, hp⟩ => by
    have hle : l.countP p ≤ l.countP q := List.countP_mono_left fun z hz => h z (List.mem_cons_of_mem _ hz)
    rw [List.countP_cons, List.countP_cons]
    rcases List.mem_cons.1 hx with rfl | hx
    · rw [hq, hp]; simp; omega
    · have ih := countP_lt (fun z hz => h z (List.mem_cons_of_mem _ hz)) ⟨x, hx, hq, hp⟩
      cases hpa : p a with
      | false => simp; split <;> omega
      | true => rw [h a (by simp) hpa]; simp; omega
/-- in a strictly sorted list as many elements are less than one as stand ahead of it -/
theorem rank_at (h : SO lt) : ∀ {S : List α}, S.Pairwise (fun a b => lt a b = true) → ∀ (j : Nat) (hj : j < S.length), S.countP (fun x => lt x S[j]) = j
  | [], _, j, hj => by simp at hj
  | a :: S, hp, 0, _ => by
    rw [List.pairwise_cons] at hp
    rw [List.countP_cons, List.getElem_cons_zero, h.irr, List.countP_eq_zero.2 fun x hx => by rw [h.asym (hp.1 x hx)]; decide]
    rfl
  | a :: S, hp, j + 1, hj => by
    rw [List.pairwise_cons] at hp
    have hj' : j < S.length := by simpa using hj
    rw [List.countP_cons, List.getElem_cons_succ, rank_at h hp.2 j hj', hp.1 _ (List.getElem_mem hj')]
    rfl
theorem rank_of (h : SO lt) {S : List α} (hp : S.Pairwise (fun a b => lt a b = true)) {x : α} (hx : x ∈ S) : ∃ hj : S.countP (fun y => lt y x) < S.length, S[S.countP (fun y => lt y x)] = x := by
  obtain ⟨j, hj, rfl⟩ := List.getElem_of_mem hx
  have := rank_at h hp j hj
  exact ⟨by omega, by simp only [this]⟩
theorem sorted_eq (h : SO lt) {S T : List α} (hpm : S.Perm T) (hS : S.Pairwise (fun a b => lt a b = true)) (hT : T.Pairwise (fun a b => lt a b = true)) : S = T := by
  apply List.ext_getElem hpm.length_eq
  intro r h1 h3
  have hr := rank_at h hS r h1
  rw [hpm.countP_eq] at hr
  obtain ⟨h4, h5⟩ := rank_of h hT (hpm.mem_iff.1 (List.getElem_mem h1))
  rw [← h5]
  simp only [hr]
/-- the number of elements that are less -/
def rk (lt : α → α → Bool) (dom : List α) (x : α) : Nat := dom.countP fun y => lt y x
theorem rk_lt (h : SO lt) {dom : List α} {x y : α} (hx : x ∈ dom) (hl : lt x y = true) : rk lt dom x < rk lt dom y :=
  countP_lt (fun z _ hz => h.trans _ _ _ hz hl) ⟨x, hx, hl, h.irr x⟩
def Tot (lt : α → α → Bool) (dom : List α) : Prop := ∀ x ∈ dom, ∀ y ∈ dom, x ≠ y → lt x y = true ∨ lt y x = true
theorem rk_iff (h : SO lt) {dom : List α} (ht : Tot lt dom) {x y : α} (hx : x ∈ dom) (hy : y ∈ dom) : rk lt dom x < rk lt dom y ↔ lt x y = true := by
  constructor
  · intro hlt
    by_cases e : x = y
    · subst e; omega
    · rcases ht x hx y hy e with h1 | h1
      · exact h1
      · have := rk_lt h hy h1; omega
  · exact rk_lt h hx
theorem rk_inj (h : SO lt) {dom : List α} (ht : Tot lt dom) {x y : α} (hx : x ∈ dom) (hy : y ∈ dom) (he : rk lt dom x = rk lt dom y) : x = y := by
  by_cases e : x = y
  · exact e
  · rcases ht x hx y hy e with h1 | h1
    · have := rk_lt h hx h1; omega
    · have := rk_lt h hy h1; omega
theorem rk_le {dom : List α} (x : α) : rk lt dom x ≤ dom.length := List.countP_le_length
/-- the elements in order -/
def srt (lt : α → α → Bool) (dom : List α) : List α := dom.mergeSort fun a b => !lt b a
theorem srt_perm (dom : List α) : (srt lt dom).Perm dom := List.mergeSort_perm ..
theorem srt_len (dom : List α) : (srt lt dom).length = dom.length := (srt_perm dom).length_eq
theorem srt_sorted (h : SO lt) {dom : List α} (hn : dom.Nodup) (ht : Tot lt dom) : (srt lt dom).Pairwise fun a b => lt a b = true := by
  have h1 := List.pairwise_mergeSort (le := fun a b => !lt b a) (fun a b c h1 h2 => by
      simp only [Bool.not_eq_true'] at *; exact h.ntrans _ _ _ h2 h1) (fun a b => by
      cases hab : lt a b with
      | true => simp [h.asym hab]
      | false => simp) dom
  have h2 : (srt lt dom).Nodup := (srt_perm dom).nodup_iff.2 hn
  have h3 : (srt lt dom).Pairwise fun a b => a ∈ dom ∧ b ∈ dom := List.Pairwise.imp_of_mem (fun {a b} ha hb _ => ⟨(srt_perm dom).mem_iff.1 ha, (srt_perm dom).mem_iff.1 hb⟩) h2
  exact ((h1.and h2).and h3).imp fun {a b} hh => by
    rcases ht a hh.2.1 b hh.2.2 hh.1.2 with h4 | h4
    · exact h4
    · have := hh.1.1; simp [h4] at this
theorem srt_at (h : SO lt) {dom : List α} (hn : dom.Nodup) (ht : Tot lt dom) {x : α} (hx : x ∈ dom) : ∃ hj : rk lt dom x < (srt lt dom).length, (srt lt dom)[rk lt dom x] = x := by
  have := rank_of h (srt_sorted h hn ht) ((srt_perm dom).mem_iff.2 hx)
  rw [(srt_perm dom).countP_eq] at this
  exact this
theorem rk_at (h : SO lt) {dom : List α} (hn : dom.Nodup) (ht : Tot lt dom) {r : Nat} (hr : r < (srt lt dom).length) : rk lt dom (srt lt dom)[r] = r := by
  have := rank_at h (srt_sorted h hn ht) r hr
  rwa [(srt_perm dom).countP_eq] at this
theorem rk_lt_len (h : SO lt) {dom : List α} (hn : dom.Nodup) (ht : Tot lt dom) {x : α} (hx : x ∈ dom) : rk lt dom x < dom.length := by
  obtain ⟨hj, _⟩ := srt_at h hn ht hx
  rwa [srt_len] at hj
/-- a list that has each element at its rank is the sorted one -/
theorem placed_eq (h : SO lt) {dom out : List α} (hn : dom.Nodup) (ht : Tot lt dom) (hl : out.length = dom.length) (hp : ∀ x ∈ dom, out[rk lt dom x]? = some x) : out = srt lt dom := by
  apply List.ext_getElem (by rw [srt_len, hl])
  intro r h1 h2
  have hx := (srt_perm dom).mem_iff.1 (List.getElem_mem h2)
  have := hp _ hx
  rw [rk_at h hn ht h2, List.getElem?_eq_getElem h1] at this
  exact Option.some.inj this
end
/-- numbers below n, all of them different, n in number: all of them -/
theorem perm_range {l : List Nat} (hn : l.Nodup) (hb : ∀ x ∈ l, x < l.length) : l.Perm (List.range l.length) := by
  have hso : SO (fun a b : Nat => decide (a < b)) := ⟨fun a => by simp, fun a b c h1 h2 => by simp at *; omega, fun a b c h1 h2 => by simp at *; omega⟩
  have htot : Tot (fun a b : Nat => decide (a < b)) l := fun x _ y _ e => by simp; omega
  have hs := srt_sorted hso hn htot
  have hp := srt_perm (lt := fun a b : Nat => decide (a < b)) l
  generalize srt (fun a b : Nat => decide (a < b)) l = S at hs hp
  have hSl := hp.length_eq
  have low : ∀ i (hi : i < S.length), i ≤ S[i] := by
    intro i
    induction i with
    | zero => intro _; omega
    | succ i ih =>
      intro hi
      have h1 := ih (by omega)
      have h2 := List.pairwise_iff_getElem.1 hs i (i + 1) (by omega) hi (by omega)
      simp at h2; omega
  have high : ∀ d i (hi : i < S.length), S.length - 1 - i = d → S[i] ≤ i := by
    intro d
    induction d with
    | zero =>
      intro i hi hd
      have := hb S[i] (hp.mem_iff.1 (List.getElem_mem hi))
      omega
    | succ d ih =>
      intro i hi hd
      have h1 := ih (i + 1) (by omega) (by omega)
      have h2 := List.pairwise_iff_getElem.1 hs i (i + 1) hi (by omega) (by omega)
      simp at h2; omega
  have : S = List.range l.length := by
    apply List.ext_getElem (by simpa using hSl)
    intro i h1 h2
    have := low i h1
    have := high _ i h1 rfl
    simp; omega
  rw [← this]; exact hp.symm
end Go.Rk
