/-
  slices.SortFunc at structs of two numbers, by the shelf's contract. Conditions: as each theorem states.
-/
import Derived.Test.YtbldlpljfppmgaaMore
import Derived.Shelf.SlSortCmp.NoneTotal
namespace Go.Vc
open Go Go.Sort
set_option linter.unusedSectionVars false
def enc2 (x : Int × Int) : List Value := [.int .i64 x.1, .int .i64 x.2]
theorem enc2_len (x : Int × Int) : (enc2 x).length = 2 := rfl
theorem enc2_scalar (x : Int × Int) : ∀ y ∈ enc2 x, scalarB y = true := by
  intro y hy
  simp only [enc2, List.mem_cons, List.not_mem_nil, or_false] at hy
  rcases hy with rfl | rfl <;> rfl
def cmpI (a b : Int) : Int := if a < b then -1 else if a > b then 1 else 0
def cmp2 (x y : Int × Int) : Int := if cmpI x.1 y.1 != 0 then cmpI x.1 y.1 else cmpI x.2 y.2
def lt2 (x y : Int × Int) : Bool := decide (x.1 < y.1) || (decide (x.1 = y.1) && decide (x.2 < y.2))
theorem lt2_iff {x y : Int × Int} : lt2 x y = true ↔ x.1 < y.1 ∨ (x.1 = y.1 ∧ x.2 < y.2) := by simp [lt2]
theorem ltOf_cmp2 : Go.Proofs.ltOf cmp2 = lt2 := by
  funext x y
  rw [Bool.eq_iff_iff, lt2_iff]
  unfold Go.Proofs.ltOf cmp2 cmpI
  rw [decide_eq_true_iff]
  by_cases h1 : x.1 < y.1
  · simp [h1]
  · by_cases h2 : x.1 > y.1
    · simp [h1, h2]; omega
    · by_cases h3 : x.2 < y.2
      · simp [h1, h2, h3]; omega
      · by_cases h4 : x.2 > y.2
        · simp [h1, h2, h3, h4]
        · simp [h1, h2, h3, h4]
theorem lt2_swo : SWO (Go.Proofs.ltOf cmp2) := by
  rw [ltOf_cmp2]
  refine ⟨fun x => ?_, fun x y z h1 h2 => ?_, fun x y z h1 h2 => ?_⟩
  · rw [Bool.eq_false_iff]; intro h; rw [lt2_iff] at h; omega
  · rw [lt2_iff] at *; omega
  · rw [Bool.eq_false_iff] at *; simp only [ne_eq, lt2_iff] at *; omega
/-- the pairs, in order -/
def sort2 (xs : List (Int × Int)) : List (Int × Int) := xs.mergeSort fun x y => !lt2 y x
section
variable {E w : World} {F : List HP}
theorem Hp.grown {l : List HP} (h : Hp E w l) (os : Array Obj) : Hp E (grow w os) l := by
  obtain ⟨f, a, b⟩ := h.frag
  refine ⟨h.os, h.output, h.tape, f, fun r o hr => ?_, b⟩
  have := a r o hr
  show (w.heap ++ os)[r]? = some o
  have hlt : r < w.heap.size := by obtain ⟨hh, _⟩ := Array.getElem?_eq_some_iff.1 this; exact hh
  rw [Array.getElem?_append_left hlt, this]
theorem Hp.mapBlk {b : Nat} {c : Array Value} {t : TypeId} (h : Hp E w (Blk b (.cells c t (0, 0)) :: F)) (f : Array Value → Array Value) : Hp E (mapBlock w b f) (Blk b (.cells (f c) t (0, 0)) :: F) := by
  refine h.setObj ?_ rfl rfl rfl
  show w.heap.modify b (onCells f) = _
  have hb := h.blk
  apply Array.ext_getElem?
  intro k
  have hlt : b < w.heap.size := (Array.getElem?_eq_some_iff.1 hb).1
  simp only [Array.getElem?_modify, Array.set!_eq_setIfInBounds, Array.getElem?_setIfInBounds]
  by_cases hk : b = k
  · subst hk
    simp only [if_true, hlt, hb, Option.map_some, onCells]
  · simp [hk]
theorem flat2 (d : Array (Int × Int)) : (flatK enc2 2 d).toList = d.toList.flatMap enc2 := by
  apply List.ext_getElem?
  intro i
  by_cases hi : i < d.size * 2
  · have hm : i = i / 2 * 2 + i % 2 := by omega
    have hd : i / 2 < d.toList.length := by rw [Array.length_toList]; omega
    have := fm_get (g := enc2) (sz := 2) enc2_len d.toList (i / 2) (i % 2) hd (by omega)
    rw [← hm] at this
    rw [this]
    have h2 := get_flatK enc2 2 d i hi
    have hs : i < (flatK enc2 2 d).size := by simpa using hi
    rw [getElem!_pos (flatK enc2 2 d) i hs, getElem!_pos d (i / 2) (by omega)] at h2
    rw [List.getElem?_eq_getElem (by simpa using hi), Array.getElem_toList, h2]
    have : i % 2 = 0 ∨ i % 2 = 1 := by omega
    rcases this with e | e <;> rw [e] <;> simp [enc2]
  · rw [List.getElem?_eq_none (by simp; omega), List.getElem?_eq_none (by rw [fm_len enc2_len]; simp; omega)]
theorem sort2_len (xs : List (Int × Int)) : (sort2 xs).length = xs.length := List.length_mergeSort ..
theorem sortF_c {P : Program} {ρ : Go.Shelf.Ren} (L : Go.Proofs.SlLaysF0.n6 P ρ) (aE : ∀ w, (isAgg (ρ.t 24)).run P w = .ok true w) (zE : ∀ w, (Go.sizeOf (ρ.t 24)).run P w = .ok 2 w) {g : Nat} (eg : okCall P g = true)
    (hcl : ∀ (x y : Int × Int) (W : World), Calls P g #[.agg ⟨enc2 x⟩, .agg ⟨enc2 y⟩] W fun e w' => e = .returned (.int .i64 (cmp2 x y)) ∧ ∃ q os', w' = grow (W.drewN q) os')
    {s : Sl} {xs : List (Int × Int)} {K : World → Prop} (h : Hp E w (OwnS 2 s (xs.flatMap enc2) :: F)) (hsz : xs.length < 4611686018427387904) (hK : ∀ w', Hp E w' (OwnS 2 s ((sort2 xs).flatMap enc2) :: F) → K w') :
    Cl P [] (ρ.f 6) ⟨[.slice s.base s.len s.cap, .func (.func g) ⟨[]⟩ ⟨[]⟩]⟩ w K := by
  have hlen := SlT.len enc2_len (by decide) (h.tells Tells.own)
  unfold Cl
  by_cases h0 : xs.length = 0
  · obtain rfl : xs = [] := List.length_eq_zero_iff.1 h0
    have hs0 : s.len = 0 := hlen
    rw [hs0]
    refine (Go.Proofs.AnyF.slices_SortFunc_none { L with } s.base s.cap _ w).mono fun e w' he => ?_
    obtain ⟨rfl, rfl⟩ := he
    exact hK _ (by rw [show sort2 [] = [] from List.length_eq_zero_iff.1 (sort2_len [])]; exact h)
  rcases h.ownOpen with ⟨rfl, h1, _⟩ | ⟨b, off, arr, t, h1, h2, h3, h4, h5⟩
  · exact absurd (by simpa using hlen.symm) h0
  have hd : xs.toArray.size = s.len := by simp [hlen]
  have hH : HoldsK enc2 2 w b off xs.toArray := by
    intro j hj
    rw [size_flatK, hd] at hj
    have hfl : (xs.flatMap enc2).length = xs.length * 2 := fm_len enc2_len xs
    have e1 := h4 j (by rw [hfl, ← hlen]; exact hj)
    refine ⟨?_, ?_⟩
    · rw [h5.cell (i := off + j), e1]
      congr 1
      have e2 : (flatK enc2 2 xs.toArray)[j]! = (flatK enc2 2 xs.toArray)[j]'(by rw [size_flatK, hd]; exact hj) := getElem!_pos _ _ _
      show _ = (flatK enc2 2 xs.toArray)[j]!
      rw [e2, ← Array.getElem_toList]
      simp only [flat2]
    · have hb := h5.blk
      simp [World.frozen?, hb]
  have key := Go.Proofs.AnyQ.slices_SortFunc_total L 2 aE zE enc2 enc2_len (fun x v hv => by
      simp only [enc2, List.mem_cons, List.not_mem_nil, or_false] at hv
      rcases hv with rfl | rfl <;> rfl) cmp2 lt2_swo g ⟨[]⟩ b off s.cap xs.toArray w (okCall_run eg)
    (fun m os dk _ x y => hcl x y _) hH (by have := h5.blk; exact (Array.getElem?_eq_some_iff.1 this).1) (by rw [hd, hlen]; exact hsz)
    (fun x y h1 h2 => by
      rw [ltOf_cmp2, Bool.eq_false_iff] at h1 h2
      simp only [ne_eq, lt2_iff] at h1 h2
      exact Prod.ext (by omega) (by omega))
  rw [hd, ← h1] at key
  refine Calls.mono key fun e w' he => ?_
  obtain ⟨rfl, n, os, rfl⟩ := he
  rw [ltOf_cmp2]
  refine hK _ ?_
  unfold Go.Proofs.sortWorldK
  refine Hp.grown ?_ os
  have h6 : Hp E (Sort.ahead w n) (Blk b (.cells arr t (0, 0)) :: F) := h5.drew
  have h7 := h6.mapBlk (putCells id off (flatK enc2 2 (sort2 xs).toArray))
  have hl2 : ((sort2 xs).flatMap enc2).length = s.len * 2 := by rw [fm_len enc2_len, sort2_len, hlen]
  refine h7.ownShut (s := s) hl2 h1 h2 (by simpa [putCells] using h3) fun i hi => ?_
  have hi2 : i < s.len * 2 := by rw [← hl2]; exact hi
  have hb : off + i < arr.size := by
    have : s.len * 2 ≤ s.cap * 2 := Nat.mul_le_mul_right _ h2
    omega
  have hsF : i < (flatK enc2 2 (sort2 xs).toArray).size := by rw [size_flatK]; simp [sort2_len]; omega
  have e2 : (flatK enc2 2 (sort2 xs).toArray)[i]! = ((sort2 xs).flatMap enc2)[i] := by
    rw [getElem!_pos (flatK enc2 2 (sort2 xs).toArray) i hsF, ← Array.getElem_toList]
    simp only [flat2]
  unfold putCells
  rw [Array.getElem?_mapIdx, Array.getElem?_eq_getElem hb]
  simp only [Option.map_some]
  rw [if_pos ⟨by omega, by omega⟩, show off + i - off = i by omega, id, e2]
end
end Go.Vc
