/-
  Tallies: plain law. Conditions: as each theorem states.
-/
import Derived.Test.YtbldlpljfppmgaaAT
import Derived.Test.YtbldlpljfppmgaaSortF
namespace Go.Hs
open Go Go.Vc
def validT (t : List Int) : Bool := t.all fun x => decide (0 ≤ x) && decide (x ≤ 2147483647)
theorem validT_iff {t : List Int} : validT t = true ↔ ∀ i, i < t.length → 0 ≤ t.getD i 0 ∧ t.getD i 0 ≤ 2147483647 := by
  unfold validT
  rw [List.all_eq_true]
  constructor
  · intro h i hi
    have := h t[i] (List.getElem_mem hi)
    simpa [List.getD, hi] using this
  · intro h x hx
    obtain ⟨i, hi, rfl⟩ := List.getElem_of_mem hx
    simpa [List.getD, hi] using h i hi
theorem validT_f {t : List Int} {i : Nat} (hi : i < t.length) (h : ¬ (0 ≤ t.getD i 0 ∧ t.getD i 0 ≤ 2147483647)) : validT t = false := by
  cases hv : validT t with
  | false => rfl
  | true => exact absurd (validT_iff.1 hv i hi) h
def isS (z : Int) : Bool := decide (0 ≤ z) && decide (z < 258)
theorem isS_iff {z : Int} : isS z = true ↔ 0 ≤ z ∧ z < 258 := by simp [isS]
def inc (t : List Int) (z : Int) : List Int := t.set z.toNat (t.getD z.toNat 0 + 1)
def cnt (t : List Int) (zs : List Int) : List Int := zs.foldl inc t
theorem inc_len (t : List Int) (z : Int) : (inc t z).length = t.length := List.length_set ..
theorem cnt_len : ∀ (zs t : List Int), (cnt t zs).length = t.length
  | [], _ => rfl
  | z :: zs, t => by
    show (cnt (inc t z) zs).length = _
    rw [cnt_len zs, inc_len]
theorem cnt_snoc (t zs : List Int) (z : Int) : cnt t (zs ++ [z]) = inc (cnt t zs) z := by simp [cnt]
theorem cnt_app (t a b : List Int) : cnt t (a ++ b) = cnt (cnt t a) b := List.foldl_append ..
theorem inc_get {t : List Int} {z : Int} (hz : isS z = true) (ht : t.length = 258) (i : Nat) : (inc t z).getD i 0 = t.getD i 0 + if z = (i : Int) then 1 else 0 := by
  rw [isS_iff] at hz
  unfold inc
  rw [getD_set (by omega)]
  by_cases h : z = (i : Int)
  · have : i = z.toNat := by omega
    rw [if_pos this, if_pos h, this]
  · rw [if_neg (by omega), if_neg h]; omega
theorem cnt_get : ∀ {zs t : List Int}, zs.all isS = true → t.length = 258 → ∀ i : Nat, (cnt t zs).getD i 0 = t.getD i 0 + (zs.count (i : Int) : Int)
  | [], t, _, _, i => by simp [cnt]
  | z :: zs, t, h, ht, i => by
    rw [List.all_cons, Bool.and_eq_true] at h
    show (cnt (inc t z) zs).getD i 0 = _
    rw [cnt_get h.2 (by rw [inc_len, ht]), inc_get h.1 ht, List.count_cons]
    by_cases e : z = (i : Int)
    · rw [if_pos e, if_pos (by simp [e])]; omega
    · rw [if_neg e, if_neg (by simp [e])]; omega
/-- what adding symbols comes to -/
def addT (t zs : List Int) : Option (List Int) := if validT t && zs.all isS && validT (cnt t zs) then some (cnt t zs) else none
def erO (o : Option (List Int)) : Int := if o.isSome then 0 else 2
theorem addT_invalid {t zs : List Int} (h : validT t = false) : addT t zs = none := by simp [addT, h]
theorem addT_bad {t zs : List Int} {k : Nat} (hk : k < zs.length) (h : isS (zs.getD k 0) = false) : addT t zs = none := by
  unfold addT
  rw [if_neg]
  intro hh
  simp only [Bool.and_eq_true] at hh
  have := List.all_eq_true.1 hh.1.2 zs[k] (List.getElem_mem hk)
  simp [List.getD, hk, this] at h
theorem count_take_le (zs : List Int) (z : Int) (k : Nat) : (zs.take k).count z ≤ zs.count z := by
  have : zs.count z = (zs.take k).count z + (zs.drop k).count z := by rw [← List.count_append, List.take_append_drop]
  omega
theorem addT_over {t zs : List Int} {k : Nat} (ht : t.length = 258) (hk : k < zs.length) (hg : (zs.take k).all isS = true) (hz : isS (zs.getD k 0) = true) (h : 2147483647 ≤ (cnt t (zs.take k)).getD (zs.getD k 0).toNat 0) : addT t zs = none := by
  unfold addT
  rw [if_neg]
  intro hh
  simp only [Bool.and_eq_true] at hh
  have hr := isS_iff.1 hz
  have hv := validT_iff.1 hh.2 (zs.getD k 0).toNat (by rw [cnt_len]; omega)
  rw [cnt_get hh.1.2 ht] at hv
  rw [cnt_get hg ht] at h
  have e : (((zs.getD k 0).toNat : Nat) : Int) = zs.getD k 0 := by omega
  rw [e] at hv h
  have h1 := count_take_le zs (zs.getD k 0) (k + 1)
  have h2 : (zs.take (k + 1)).count (zs.getD k 0) = (zs.take k).count (zs.getD k 0) + 1 := by
    rw [List.take_add_one, List.getElem?_eq_getElem hk, List.count_append]
    simp [List.getD, hk]
  omega
theorem take_snocD {zs : List Int} {k : Nat} (hk : k < zs.length) : zs.take (k + 1) = zs.take k ++ [zs.getD k 0] := by
  rw [List.take_add_one, List.getElem?_eq_getElem hk]
  simp [List.getD, hk]
theorem addT_all {t zs : List Int} (h1 : validT t = true) (h2 : zs.all isS = true) (h3 : validT (cnt t zs) = true) : addT t zs = some (cnt t zs) := by simp [addT, h1, h2, h3]
theorem addT_big {t zs : List Int} (h3 : validT (cnt t zs) = false) : addT t zs = none := by simp [addT, h3]
theorem addT_some {t zs u : List Int} (h : addT t zs = some u) : validT t = true ∧ zs.all isS = true ∧ u = cnt t zs ∧ validT u = true := by
  unfold addT at h
  split at h
  · rename_i hh
    simp only [Bool.and_eq_true] at hh
    obtain rfl := Option.some.inj h
    exact ⟨hh.1.1, hh.1.2, rfl, hh.2⟩
  · cases h
/-! sums -/
def sumTo (t : List Int) (k : Nat) : Int := (t.take k).sum
def sumT (t : List Int) : Int := if validT t then t.sum else 0
theorem sumTo_succ {t : List Int} {k : Nat} (hk : k < t.length) : sumTo t (k + 1) = sumTo t k + t.getD k 0 := by
  unfold sumTo
  rw [take_snocD hk, List.sum_append]
  simp
theorem sumTo_range {t : List Int} (hv : validT t = true) : ∀ k, k ≤ t.length → 0 ≤ sumTo t k ∧ sumTo t k ≤ 2147483647 * k
  | 0, _ => by simp [sumTo]
  | k + 1, hk => by
    have ih := sumTo_range hv k (by omega)
    have := validT_iff.1 hv k (by omega)
    rw [sumTo_succ (by omega)]
    omega
theorem sum_set : ∀ (t : List Int) (i : Nat) (x : Int), i < t.length → (t.set i x).sum = t.sum + x - t.getD i 0
  | [], _, _, h => by simp at h
  | y :: t, 0, x, _ => by simp; omega
  | y :: t, i + 1, x, h => by
    have := sum_set t i x (by simpa using h)
    simp only [List.set_cons_succ, List.sum_cons, List.getD_cons_succ, this]; omega
theorem sum_cnt : ∀ {zs t : List Int}, zs.all isS = true → t.length = 258 → (cnt t zs).sum = t.sum + zs.length
  | [], t, _, _ => by simp [cnt]
  | z :: zs, t, h, ht => by
    rw [List.all_cons, Bool.and_eq_true] at h
    have hz := isS_iff.1 h.1
    show (cnt (inc t z) zs).sum = _
    rw [sum_cnt h.2 (by rw [inc_len, ht])]
    unfold inc
    rw [sum_set _ _ _ (by omega), List.length_cons]; omega
/-! used symbols, ranks -/
def usedN (t : List Int) (k : Nat) : List Nat := (List.range k).filter fun s => decide (t.getD s 0 > 0)
def usedT (t : List Int) : List Int := if validT t then zl (usedN t 258) else []
theorem usedN_succ (t : List Int) (k : Nat) : usedN t (k + 1) = if t.getD k 0 > 0 then usedN t k ++ [k] else usedN t k := by
  unfold usedN
  rw [List.range_succ, List.filter_append]
  by_cases h : t.getD k 0 > 0
  · rw [if_pos h, List.filter_cons, if_pos (by simpa using h), List.filter_nil]
  · rw [if_neg h, List.filter_cons, if_neg (by simpa using h), List.filter_nil, List.append_nil]
theorem usedN_le (t : List Int) (k : Nat) : (usedN t k).length ≤ k := by
  have := List.length_filter_le (fun s => decide (t.getD s 0 > 0)) (List.range k)
  rwa [List.length_range] at this
theorem usedN_mem {t : List Int} {k s : Nat} : s ∈ usedN t k ↔ s < k ∧ 0 < t.getD s 0 := by simp [usedN]
theorem usedT_len (t : List Int) : (usedT t).length ≤ 258 := by
  unfold usedT; split
  · rw [zl_len]; exact usedN_le t 258
  · simp
theorem usedT_mem {t : List Int} {z : Int} (h : z ∈ usedT t) : 0 ≤ z ∧ z < 258 ∧ 0 < t.getD z.toNat 0 := by
  unfold usedT at h
  split at h
  · obtain ⟨s, hs, rfl⟩ := List.mem_map.1 h
    have := usedN_mem.1 hs
    exact ⟨by omega, by omega, by rw [Int.toNat_natCast]; exact this.2⟩
  · simp at h
def pairsT (t : List Int) : List (Int × Int) := (usedT t).map fun z => (t.getD z.toNat 0, z)
def ranksT (t : List Int) : List Int := (sort2 (pairsT t)).map (·.2)
theorem sort2_perm (xs : List (Int × Int)) : (sort2 xs).Perm xs := List.mergeSort_perm ..
theorem sort2_sorted (xs : List (Int × Int)) : (sort2 xs).Pairwise fun a b => lt2 b a = false := by
  have h := List.pairwise_mergeSort (le := fun x y : Int × Int => !lt2 y x) (fun a b c h1 h2 => by
      simp only [Bool.not_eq_true', Bool.eq_false_iff, ne_eq, lt2_iff] at *; omega) (fun a b => by
      simp only [Bool.or_eq_true, Bool.not_eq_true', Bool.eq_false_iff, ne_eq, lt2_iff]; omega) xs
  exact h.imp fun {a b} h => by simpa using h
theorem lt2_total {a b : Int × Int} (h : a ≠ b) (h2 : lt2 b a = false) : lt2 a b = true := by
  rw [lt2_iff]
  rw [Bool.eq_false_iff, ne_eq, lt2_iff] at h2
  have : ¬ (a.1 = b.1 ∧ a.2 = b.2) := fun e => h (Prod.ext e.1 e.2)
  omega
theorem sort2_strict {xs : List (Int × Int)} (hn : xs.Nodup) : (sort2 xs).Pairwise fun a b => lt2 a b = true := by
  have h1 := sort2_sorted xs
  have h2 : (sort2 xs).Nodup := (sort2_perm xs).nodup_iff.2 hn
  exact (h1.and h2).imp fun {a b} h => lt2_total h.2 h.1
theorem lt2_irr (a : Int × Int) : lt2 a a = false := by rw [Bool.eq_false_iff, ne_eq, lt2_iff]; omega
theorem lt2_asym {a b : Int × Int} (h : lt2 a b = true) : lt2 b a = false := by rw [Bool.eq_false_iff, ne_eq, lt2_iff]; rw [lt2_iff] at h; omega
/-- in a strictly sorted list as many elements are less than one as stand ahead of it -/
theorem rank_at : ∀ {S : List (Int × Int)}, S.Pairwise (fun a b => lt2 a b = true) → ∀ (j : Nat) (hj : j < S.length), S.countP (fun x => lt2 x S[j]) = j
  | [], _, j, hj => by simp at hj
  | a :: S, h, 0, _ => by
    rw [List.pairwise_cons] at h
    rw [List.countP_cons, List.getElem_cons_zero, lt2_irr, List.countP_eq_zero.2 fun x hx => by rw [lt2_asym (h.1 x hx)]; decide]
    rfl
  | a :: S, h, j + 1, hj => by
    rw [List.pairwise_cons] at h
    have hj' : j < S.length := by simpa using hj
    rw [List.countP_cons, List.getElem_cons_succ, rank_at h.2 j hj', h.1 _ (List.getElem_mem hj')]
    rfl
theorem rank_of {S : List (Int × Int)} (h : S.Pairwise (fun a b => lt2 a b = true)) {x : Int × Int} (hx : x ∈ S) : ∃ hj : S.countP (fun y => lt2 y x) < S.length, S[S.countP (fun y => lt2 y x)] = x := by
  obtain ⟨j, hj, rfl⟩ := List.getElem_of_mem hx
  have := rank_at h j hj
  exact ⟨by omega, by simp only [this]⟩
theorem nodup_map {α β : Type} {f : α → β} (hf : ∀ a b, f a = f b → a = b) {l : List α} (h : l.Nodup) : (l.map f).Nodup :=
  List.pairwise_map.2 (List.Pairwise.imp (fun hne e => hne (hf _ _ e)) h)
theorem pairs_nodup (t : List Int) : (pairsT t).Nodup := by
  unfold pairsT
  have hu : (usedT t).Nodup := by
    unfold usedT
    split
    · unfold zl
      refine nodup_map (fun a b h => by have h : (a : Int) = (b : Int) := h; omega) ?_
      exact List.Pairwise.filter _ List.nodup_range
    · exact List.nodup_nil
  exact nodup_map (fun a b h => (Prod.ext_iff.1 h).2) hu
/-! how many different ones -/
def fi {α : Type} [DecidableEq α] (acc : List α) (t : α) : List α := if t ∈ acc then acc else acc ++ [t]
def firsts {α : Type} [DecidableEq α] (l : List α) : List α := l.foldl fi []
theorem fi_mem {α : Type} [DecidableEq α] {acc : List α} {t x : α} : x ∈ fi acc t ↔ x ∈ acc ∨ x = t := by
  unfold fi
  split
  · rename_i h
    constructor
    · exact .inl
    · rintro (h1 | rfl)
      · exact h1
      · exact h
  · simp
theorem firsts_snoc {α : Type} [DecidableEq α] (l : List α) (t : α) : firsts (l ++ [t]) = fi (firsts l) t := by simp [firsts]
theorem foldl_fi_mem {α : Type} [DecidableEq α] : ∀ (l acc : List α) (x : α), x ∈ l.foldl fi acc ↔ x ∈ acc ∨ x ∈ l
  | [], acc, x => by simp
  | t :: l, acc, x => by
    rw [List.foldl_cons, foldl_fi_mem l, fi_mem, List.mem_cons, or_assoc]
theorem firsts_mem {α : Type} [DecidableEq α] {l : List α} {x : α} : x ∈ firsts l ↔ x ∈ l := by
  rw [firsts, foldl_fi_mem]; simp
end Go.Hs
