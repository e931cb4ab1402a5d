/-
  Ranks of suffixes by doubling: plain law. Conditions: as each theorem states.
-/
import Derived.Test.YtbldlpljfppmgaaBwP
import Derived.Test.YtbldlpljfppmgaaHistP
namespace Go.Bw
open Go Go.Vc Go.Rk Go.Hs
theorem lt2_so : SO lt2 := ⟨lt2_irr, fun a b c h1 h2 => by rw [lt2_iff] at *; omega, fun a b c h1 h2 => by
  rw [Bool.eq_false_iff] at *; simp only [ne_eq, lt2_iff] at *; omega⟩
theorem lt2_tot (dom : List (Int × Int)) : Tot lt2 dom := fun x _ y _ e => by
  rw [lt2_iff, lt2_iff]
  have : ¬ (x.1 = y.1 ∧ x.2 = y.2) := fun h => e (Prod.ext h.1 h.2)
  omega
/-- the different pairs in order -/
def dd (l : List (Int × Int)) : List (Int × Int) := firsts (sort2 l)
theorem firsts_take {S : List (Int × Int)} {k : Nat} (hk : k < S.length) : firsts (S.take (k + 1)) = fi (firsts (S.take k)) S[k] := by
  rw [List.take_add_one, List.getElem?_eq_getElem hk]
  exact firsts_snoc _ _
theorem firsts_sorted {S : List (Int × Int)} (hS : S.Pairwise fun a b => lt2 b a = false) : ∀ k, k ≤ S.length → (firsts (S.take k)).Pairwise fun a b => lt2 a b = true
  | 0, _ => List.Pairwise.nil
  | k + 1, hk => by
    have ih := firsts_sorted hS k (by omega)
    rw [firsts_take (by omega)]
    unfold fi
    split
    · exact ih
    · rename_i hn
      refine List.pairwise_append.2 ⟨ih, by simp, fun a ha b hb => ?_⟩
      rw [List.mem_singleton] at hb
      subst hb
      have ha2 := firsts_mem.1 ha
      obtain ⟨i, hi, e⟩ := List.getElem_of_mem ha2
      rw [List.length_take] at hi
      rw [List.getElem_take] at e
      have h1 := List.pairwise_iff_getElem.1 hS i k (by omega) (by omega) (by omega)
      rw [e] at h1
      exact lt2_total (fun e => hn (by rw [← e]; exact ha)) h1
theorem dd_sorted (l : List (Int × Int)) : (dd l).Pairwise fun a b => lt2 a b = true := by
  have := firsts_sorted (sort2_sorted l) (sort2 l).length (Nat.le_refl _)
  rwa [List.take_length] at this
theorem dd_mem {l : List (Int × Int)} {p : Int × Int} : p ∈ dd l ↔ p ∈ l := by unfold dd; rw [firsts_mem, (sort2_perm l).mem_iff]
def rkP (l : List (Int × Int)) (p : Int × Int) : Nat := rk lt2 (dd l) p
theorem rkP_iff {l : List (Int × Int)} {p q : Int × Int} (hp : p ∈ l) (hq : q ∈ l) : rkP l p < rkP l q ↔ lt2 p q = true := rk_iff lt2_so (lt2_tot _) (dd_mem.2 hp) (dd_mem.2 hq)
theorem rkP_inj {l : List (Int × Int)} {p q : Int × Int} (hp : p ∈ l) (hq : q ∈ l) (h : rkP l p = rkP l q) : p = q := rk_inj lt2_so (lt2_tot _) (dd_mem.2 hp) (dd_mem.2 hq) h
theorem dd_at {l : List (Int × Int)} {p : Int × Int} (hp : p ∈ l) : ∃ h : rkP l p < (dd l).length, (dd l)[rkP l p] = p := rank_of lt2_so (dd_sorted l) (dd_mem.2 hp)
theorem firsts_full {S : List (Int × Int)} : ∀ k, k ≤ S.length → (firsts (S.take k)).length ≤ k ∧ (k ≤ (firsts (S.take k)).length → (S.take k).Nodup)
  | 0, _ => ⟨by simp [firsts], fun _ => by simp⟩
  | k + 1, hk => by
    have ih := firsts_full k (by omega : k ≤ S.length)
    rw [firsts_take (by omega)]
    unfold fi
    split
    · exact ⟨by omega, fun h => by omega⟩
    · rename_i hn
      rw [List.length_append, List.length_singleton]
      refine ⟨by omega, fun h => ?_⟩
      rw [List.take_add_one, List.getElem?_eq_getElem (by omega)]
      refine List.nodup_append.2 ⟨ih.2 (by omega), by simp, fun a ha b hb => ?_⟩
      simp only [Option.toList_some, List.mem_singleton] at hb
      subst hb
      exact fun e => hn (by rw [firsts_mem, ← e]; exact ha)
theorem dd_le (l : List (Int × Int)) : (dd l).length ≤ l.length := by
  have := (firsts_full (S := sort2 l) (sort2 l).length (Nat.le_refl _)).1
  rw [List.take_length, sort2_len] at this
  exact this
theorem dd_full {l : List (Int × Int)} (h : l.length ≤ (dd l).length) : l.Nodup := by
  have := (firsts_full (S := sort2 l) (sort2 l).length (Nat.le_refl _)).2
  rw [List.take_length, sort2_len] at this
  exact (sort2_perm l).nodup_iff.1 (this h)
theorem dd_nodup {l : List (Int × Int)} (h : l.Nodup) : dd l = sort2 l := by
  have h2 : (dd l).Perm (sort2 l) := by
    have hdn : (dd l).Nodup := (dd_sorted l).imp fun {a b} hab e => by subst e; rw [lt2_irr] at hab; cases hab
    refine (List.perm_ext_iff_of_nodup hdn ((sort2_perm l).nodup_iff.2 h)).2 fun a => ?_
    rw [dd_mem, (sort2_perm l).mem_iff]
  exact sorted_eq lt2_so h2 (dd_sorted l) (sort2_strict h)
theorem rkP_nodup {l : List (Int × Int)} (h : l.Nodup) (p : Int × Int) : rkP l p = rk lt2 l p := by
  unfold rkP rk
  rw [dd_nodup h, (sort2_perm l).countP_eq]
/-! doubling -/
def key (t : List Nat) (h i : Nat) : List Nat := (t.drop i).take h
def PairOk (t : List Nat) (h : Nat) (f : Nat → Int × Int) : Prop := ∀ i j, i ≤ t.length → j ≤ t.length → (lt2 (f i) (f j) = true ↔ lx (key t h i) (key t h j) = true) ∧ (f i = f j ↔ key t h i = key t h j)
def Qr (t : List Nat) (h : Nat) (r : Nat → Int) : Prop := ∀ i j, i ≤ t.length → j ≤ t.length → (r i < r j ↔ lx (key t h i) (key t h j) = true) ∧ (r i = r j ↔ key t h i = key t h j)
def pairs (t : List Nat) (f : Nat → Int × Int) : List (Int × Int) := (List.range (t.length + 1)).map f
theorem pairs_mem {t : List Nat} {f : Nat → Int × Int} {i : Nat} (hi : i ≤ t.length) : f i ∈ pairs t f := List.mem_map.2 ⟨i, List.mem_range.2 (by omega), rfl⟩
theorem pairs_len (t : List Nat) (f : Nat → Int × Int) : (pairs t f).length = t.length + 1 := by simp [pairs]
def initF (t : List Nat) (i : Nat) : Int × Int := if i < t.length then (1 + (t.getD i 0 : Int), 0) else (0, 0)
theorem key_len {t : List Nat} {h i : Nat} : (key t h i).length = min h (t.length - i) := by unfold key; rw [List.length_take, List.length_drop]
theorem init_ok (t : List Nat) : PairOk t 1 (initF t) := by
  intro i j hi hj
  have e1 : ∀ i, i < t.length → key t 1 i = [t.getD i 0] := fun i hi => by
    unfold key
    rw [drop_get hi]; rfl
  have e0 : key t 1 t.length = [] := by unfold key; rw [List.drop_length]; rfl
  unfold initF
  rcases Nat.lt_or_ge i t.length with h1 | h1 <;> rcases Nat.lt_or_ge j t.length with h2 | h2
  · rw [if_pos h1, if_pos h2, e1 i h1, e1 j h2, lt2_iff, lx_cons]
    simp only [lx, Go.Vc.lxb, Bool.and_false, Bool.or_false, decide_eq_true_eq, Prod.mk.injEq, List.cons.injEq, and_true]
    omega
  · have : j = t.length := by omega
    subst this
    rw [if_pos h1, if_neg (by omega), e1 i h1, e0, lt2_iff, lx_nil]
    simp only [Prod.mk.injEq]
    refine ⟨?_, ?_⟩
    · simp; omega
    · simp; omega
  · have : i = t.length := by omega
    subst this
    rw [if_neg (by omega), if_pos h2, e1 j h2, e0, lt2_iff]
    simp only [Prod.mk.injEq]
    refine ⟨?_, ?_⟩
    · simp [lx, Go.Vc.lxb]; omega
    · simp; omega
  · have : i = t.length := by omega
    have : j = t.length := by omega
    subst this
    obtain rfl : i = t.length := by omega
    rw [if_neg (by omega), e0, lt2_iff, lx_nil]
    simp
def stepF (t : List Nat) (h : Nat) (r : Nat → Int) (i : Nat) : Int × Int := (r i, if i + h ≤ t.length then r (i + h) else -1)
theorem key_add (t : List Nat) (h i : Nat) : key t (h + h) i = key t h i ++ key t h (i + h) := by
  unfold key
  rw [List.take_add, List.drop_drop]
theorem key_short {t : List Nat} {h i j : Nat} (hi : i ≤ t.length) (hj : j ≤ t.length) (he : key t h i = key t h j) (hne : i ≠ j) : i + h ≤ t.length ∧ j + h ≤ t.length := by
  have := congrArg List.length he
  rw [key_len, key_len] at this
  omega
theorem key_end {t : List Nat} {h i : Nat} (hh : t.length ≤ i + h) : key t h (i + h) = [] := by
  unfold key
  rw [List.drop_eq_nil_of_le hh]; simp
theorem step_ok {t : List Nat} {h : Nat} {r : Nat → Int} (hr : Qr t h r) : PairOk t (h + h) (stepF t h r) := by
  intro i j hi hj
  obtain ⟨h1, h2⟩ := hr i j hi hj
  rw [key_add, key_add]
  by_cases hij : i = j
  · subst hij
    simp [lt2_irr, lx_irr]
  by_cases he : key t h i = key t h j
  · obtain ⟨g1, g2⟩ := key_short hi hj he hij
    obtain ⟨h3, h4⟩ := hr (i + h) (j + h) g1 g2
    have hre := h2.2 he
    rw [← he, lx_app]
    unfold stepF
    rw [if_pos g1, if_pos g2, lt2_iff]
    simp only [Prod.mk.injEq, List.append_cancel_left_eq]
    rw [← h3, ← h4]
    omega
  · have hre : r i ≠ r j := fun e => he (h2.1 e)
    have hl : ∀ {a b : Nat}, a ≤ t.length → (key t h a).length < (key t h b).length → key t h (a + h) = [] := fun {a b} ha hlt => by
      rw [key_len, key_len] at hlt
      exact key_end (by omega)
    rw [lx_pre _ _ _ _ he (hl hi) (hl hj), ← h1]
    unfold stepF
    rw [lt2_iff]
    simp only [Prod.mk.injEq]
    refine ⟨by omega, ⟨fun e => absurd e.1 hre, fun e => ?_⟩⟩
    exfalso
    have hlen := congrArg List.length e
    apply he
    have e1 : (key t h i ++ key t h (i + h)).take h = key t h i ∧ (key t h j ++ key t h (j + h)).take h = key t h j := by
      rw [← key_add, ← key_add]
      unfold key
      rw [List.take_take, List.take_take, Nat.min_eq_left (by omega)]
      exact ⟨rfl, rfl⟩
    rw [← e1.1, ← e1.2, e]
theorem rank_ok {t : List Nat} {h : Nat} {f : Nat → Int × Int} (hf : PairOk t h f) : Qr t h fun i => (rkP (pairs t f) (f i) : Int) := by
  intro i j hi hj
  obtain ⟨h1, h2⟩ := hf i j hi hj
  have h3 := rkP_iff (pairs_mem (f := f) hi) (pairs_mem (f := f) hj)
  rw [← h1, ← h2]
  dsimp only
  refine ⟨by rw [← h3]; omega, ⟨fun e => rkP_inj (pairs_mem (f := f) hi) (pairs_mem (f := f) hj) (by omega), fun e => by rw [e]⟩⟩
theorem pairs_nodup_iff {t : List Nat} {f : Nat → Int × Int} (hd : ∀ i j, i ≤ t.length → j ≤ t.length → f i = f j → i = j) : (pairs t f).Nodup := by
  refine List.pairwise_map.2 (List.Pairwise.imp_of_mem (fun {a b} ha hb hab e => ?_) List.nodup_range)
  rw [List.mem_range] at ha hb
  exact hab (hd a b (by omega) (by omega) e)
theorem not_done {t : List Nat} {h : Nat} {f : Nat → Int × Int} (hf : PairOk t h f) (hd : (dd (pairs t f)).length < t.length + 1) : h ≤ t.length := by
  rcases Nat.lt_or_ge t.length h with hh | hh
  · exfalso
    have hn : (pairs t f).Nodup := pairs_nodup_iff fun i j hi hj e => by
      have := ((hf i j hi hj).2).1 e
      have := congrArg List.length this
      rw [key_len, key_len] at this
      omega
    rw [dd_nodup hn, sort2_len, pairs_len] at hd
    omega
  · exact hh
theorem done {t : List Nat} {h : Nat} {f : Nat → Int × Int} (hf : PairOk t h f) (hd : t.length + 1 ≤ (dd (pairs t f)).length) {i : Nat} (hi : i ≤ t.length) : rkP (pairs t f) (f i) = rkB t i := by
  have hn : (pairs t f).Nodup := dd_full (by rw [pairs_len]; exact hd)
  have hinj : ∀ a b, a ≤ t.length → b ≤ t.length → key t h a = key t h b → a = b := fun a b ha hb e => by
    have hfe := ((hf a b ha hb).2).2 e
    have hp := List.pairwise_map.1 hn
    rcases Nat.lt_trichotomy a b with h1 | h1 | h1
    · have := List.pairwise_iff_getElem.1 hp a b (by simp; omega) (by simp; omega) h1
      simp only [List.getElem_range] at this
      exact absurd hfe this
    · exact h1
    · have := List.pairwise_iff_getElem.1 hp b a (by simp; omega) (by simp; omega) h1
      simp only [List.getElem_range] at this
      exact absurd hfe.symm this
  rw [rkP_nodup hn]
  unfold rk rkB rk pairs rows
  rw [List.countP_map]
  refine List.countP_congr fun j hj => ?_
  rw [List.mem_range] at hj
  simp only [Function.comp]
  rw [(hf j i (by omega) hi).1]
  unfold sl
  by_cases hij : j = i
  · subst hij; rw [lx_irr, lx_irr]
  · have hne : key t h j ≠ key t h i := fun e => hij (hinj j i (by omega) hi e)
    have hs : ∀ a, t.drop a = key t h a ++ t.drop (a + h) := fun a => by
      unfold key
      rw [← List.drop_drop, List.take_append_drop]
    rw [hs j, hs i, lx_pre _ _ _ _ hne]
    · intro hlt
      rw [key_len, key_len] at hlt
      exact List.drop_eq_nil_of_le (by omega)
    · intro hlt
      rw [key_len, key_len] at hlt
      exact List.drop_eq_nil_of_le (by omega)
end Go.Bw
