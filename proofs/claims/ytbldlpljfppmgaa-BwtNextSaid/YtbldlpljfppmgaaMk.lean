/-
  Slices that are made. Conditions: as each theorem states.
-/
import Derived.Test.YtbldlpljfppmgaaMore
import Derived.Laws.MakeOwn
namespace Go.Vc
open Go
/-- a slice is made, of elements of one cell -/
theorem run_mk1 {P : Program} {t e : TypeId} {z : Value} {n bytes : Nat} {E w : World} {F : List HP} {K : Sl → World → Prop} (ht : P.underlying t = some (.slice e)) (hi : ∃ i, P.info? e = some i ∧ i.zero = some z ∧ i.size = 1 ∧ i.bytes = bytes) (hz : z.cells = #[z])
    (hn : n ≤ 1000000) (hb : bytes ≤ 8) (h : Hp E w F) (hK : ∀ s w', s.len = n → Hp E w' (OwnS 1 s (List.replicate n z) :: F) → K s w') : Run P (Instr.makeSlice t (.int .i64 (n : Int)) (.int .i64 (n : Int))) kS w K := by
  obtain ⟨i, h1, h2, h3, h4⟩ := hi
  have hbn : bytes * n ≤ 8 * n := Nat.mul_le_mul_right _ hb
  have hbb : ((bytes : Int) * (n : Int)) ≤ 281474976710656 := by
    have : ((bytes : Int) * (n : Int)) = ((bytes * n : Nat) : Int) := by simp
    omega
  have hm := run_makeSlice (w := w) t e i z ht h1 h2 .i64 .i64 (n : Int) (n : Int) (by omega) (by omega) (by rw [h3, Int.toNat_natCast]; omega) (by rw [h4]; exact hbb) (by omega)
  unfold Run
  rw [hm]
  have hc : madeCells z.cells (n * 1) = ⟨List.replicate n z⟩ := by
    unfold madeCells
    rw [hz, Nat.mul_one]
    apply Array.ext
    · simp
    · intro j h1 h2
      simp [Nat.mod_one]
  rw [h3, Int.toNat_natCast, hc]
  refine hK ⟨some ⟨w.heap.size, 0, none⟩, n, n⟩ _ rfl ?_
  have := (h.alloc (.cells ⟨List.replicate n z⟩ e)).ownNew (n := n) (sz := 1) (by simp)
  exact this
/-- a slice is made, of elements of several cells -/
theorem run_mkK {P : Program} {t e : TypeId} {α : Type} {g : α → List Value} {x : α} {z : Value} {n sz bytes : Nat} {E w : World} {F : List HP} {K : Sl → World → Prop} (ht : P.underlying t = some (.slice e)) (hi : ∃ i, P.info? e = some i ∧ i.zero = some z ∧ i.size = sz ∧ i.bytes = bytes) (hz : z.cells = ⟨g x⟩) (hg : ∀ x, (g x).length = sz) (h0 : 0 < sz)
    (hn : n * sz ≤ 1000000) (hb : bytes ≤ 8 * sz) (h : Hp E w F) (hK : ∀ s w', s.len = n → Hp E w' (OwnS sz s ((List.replicate n x).flatMap g) :: F) → K s w') : Run P (Instr.makeSlice t (.int .i64 (n : Int)) (.int .i64 (n : Int))) kS w K := by
  obtain ⟨i, h1, h2, h3, h4⟩ := hi
  have hn1 : n ≤ n * sz := Nat.le_mul_of_pos_right _ h0
  have hbn : bytes * n ≤ 8 * sz * n := Nat.mul_le_mul_right _ hb
  have hbn2 : 8 * sz * n = 8 * (n * sz) := by rw [Nat.mul_assoc, Nat.mul_comm sz n]
  have hbb : ((bytes : Int) * (n : Int)) ≤ 281474976710656 := by
    have : ((bytes : Int) * (n : Int)) = ((bytes * n : Nat) : Int) := by simp
    omega
  have hm := run_makeSlice (w := w) t e i z ht h1 h2 .i64 .i64 (n : Int) (n : Int) (by omega) (by omega) (by rw [h3, Int.toNat_natCast]; omega) (by rw [h4]; exact hbb) (by omega)
  unfold Run
  rw [hm]
  have hc : madeCells z.cells (n * sz) = ⟨(List.replicate n x).flatMap g⟩ := by
    unfold madeCells
    rw [hz]
    apply Array.ext'
    apply List.ext_getElem?
    intro j
    have hfl := fm_len hg (List.replicate n x)
    rw [List.length_replicate] at hfl
    by_cases hj : j < n * sz
    · have hdj : j / sz < n := by rw [Nat.div_lt_iff_lt_mul h0]; exact hj
      have hmj : j / sz * sz + j % sz = j := Nat.div_add_mod' j sz
      have := fm_get hg (List.replicate n x) (j / sz) (j % sz) (by simpa using hdj) (Nat.mod_lt _ h0)
      rw [hmj] at this
      show _ = ((List.replicate n x).flatMap g)[j]?
      rw [this, List.getElem_replicate]
      have hm2 : j % sz < (g x).length := by rw [hg]; exact Nat.mod_lt _ h0
      simp only [Array.toList_map, Array.toList_range, List.getElem?_map, List.getElem?_range hj, Option.map_some, List.size_toArray, hg]
      rw [List.getElem?_eq_getElem hm2]
      simp [hm2]
    · rw [List.getElem?_eq_none (by simpa using hj), List.getElem?_eq_none (by simp only [hfl]; omega)]
  rw [h3, Int.toNat_natCast, hc]
  refine hK ⟨some ⟨w.heap.size, 0, none⟩, n, n⟩ _ rfl ?_
  exact (h.alloc (.cells ⟨(List.replicate n x).flatMap g⟩ e)).ownNew (n := n) (sz := sz) (by
    show ((List.replicate n x).flatMap g).length = _
    rw [fm_len hg, List.length_replicate])
end Go.Vc
