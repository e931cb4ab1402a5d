/-
  Reading in regions whose order is open, parts of blocks, rows of small arrays, aggregates built of great parts. Conditions: none; every theorem here is about any program.
-/
import Derived.Test.YtbldlpljfppmgaaMore
import Derived.Test.YtbldlpljfppmgaaArr
namespace Go.Vc
open Go
section
variable {E w : World} {F : List HP} {A : HP}
theorem HasF.mem (h : HasF E F w) (hm : A ∈ F) : ∃ G, Hp E w (A :: G) := by
  obtain ⟨l, h⟩ := h
  obtain ⟨s, t, rfl⟩ := List.append_of_mem hm
  refine ⟨(l ++ s) ++ t, ?_⟩
  rw [← List.append_assoc] at h
  exact h.perm List.perm_middle
theorem HasF.front (h : HasF E (A :: F) w) : ∃ G, Hp E w (A :: G) := h.mem (by simp)
theorem HasF.front2 {B : HP} (h : HasF E (A :: B :: F) w) : ∃ G, Hp E w (B :: G) := h.mem (by simp)
theorem LdS.arrBlk {S : World → Prop} {b n : Nat} {cs : Array Value} {t : TypeId} {fr : Nat × Nat} {K : Array Value → Prop} (hS : ∀ w, S w → ∃ G, Hp E w (Blk b (.cells cs t fr) :: G)) (hn : cs.size = n) (hK : K cs) : LdS (.arr n) ⟨b, 0, none⟩ S K := by
  refine ⟨cs, hn, fun w' hw i hi => ?_, hK⟩
  obtain ⟨G, h⟩ := hS w' hw
  rw [add_mk, h.cell, Nat.zero_add]
  simp [hn, hi]
theorem LdS.blk {S : World → Prop} {s : Sc} {b i : Nat} {c : Array Value} {t : TypeId} {fr : Nat × Nat} {K : s.T → Prop} (hS : ∀ w, S w → ∃ G, Hp E w (Blk b (.cells c t fr) :: G)) (x : s.T) (hx : c[i]? = some (s.enc x)) (hk : K x) : LdS (.sc s) ⟨b, i, none⟩ S K := by
  refine LdS.sc x (fun w' hw => ?_) hk
  obtain ⟨G, h⟩ := hS w' hw
  rw [h.cell]; exact hx
/-- a part of a block is loaded -/
theorem LdS.sub {S : World → Prop} {b n off : Nat} {pre mid post : List Value} {t : TypeId} {fr : Nat × Nat} {K : Array Value → Prop} (hS : ∀ w, S w → ∃ G, Hp E w (Blk b (.cells ⟨pre ++ mid ++ post⟩ t fr) :: G)) (ho : pre.length = off) (hn : mid.length = n) (hK : K ⟨mid⟩) : LdS (.arr n) ⟨b, off, none⟩ S K := by
  refine ⟨⟨mid⟩, hn, fun w' hw i hi => ?_, hK⟩
  obtain ⟨G, h⟩ := hS w' hw
  rw [add_mk, h.cell]
  subst ho
  rw [List.getElem?_toArray, List.append_assoc, List.getElem?_append_right (by omega), List.getElem?_append_left (by omega), show pre.length + i - pre.length = i by omega]
  rw [List.getElem?_eq_getElem (by omega)]
  simp [show i < mid.length by omega]
theorem Ld.sub {b n off : Nat} {pre mid post : List Value} {t : TypeId} {fr : Nat × Nat} {K : Array Value → Prop} (h : Hp E w (Blk b (.cells ⟨pre ++ mid ++ post⟩ t fr) :: F)) (ho : pre.length = off) (hn : mid.length = n) (hK : K ⟨mid⟩) : Ld (.arr n) ⟨b, off, none⟩ w K :=
  LdS.sub (E := E) (fun w' hw => ⟨F, by rw [hw]; exact h⟩) ho hn hK
end
/-! a row of numbers in a block -/
def rowI (n : Nat) (f : Nat → Int) : Array Value := ⟨(List.range n).map fun j => .int .i64 (f j)⟩
theorem rowI_size {n : Nat} {f : Nat → Int} : (rowI n f).size = n := by simp [rowI]
theorem rowI_get {n : Nat} {f : Nat → Int} {i : Nat} (h : i < n) : (rowI n f)[i]? = some (Sc.enc (.int .i64) (f i)) := by
  unfold rowI
  rw [List.getElem?_toArray, List.getElem?_map, List.getElem?_range h]; rfl
theorem rowI_set {n : Nat} {f : Nat → Int} {i : Nat} {v : Int} : (rowI n f).setIfInBounds i (.int .i64 v) = rowI n fun j => if j = i then v else f j := by
  apply Array.ext_getElem?
  intro j
  rw [Array.getElem?_setIfInBounds]
  unfold rowI
  simp only [List.getElem?_toArray, List.getElem?_map, List.size_toArray, List.length_map, List.length_range]
  by_cases hj : j < n
  · rw [List.getElem?_range hj]
    by_cases e : i = j
    · subst e; simp [hj]
    · rw [if_neg e]; simp [Ne.symm e]
  · rw [List.getElem?_eq_none (by simpa using hj)]
    by_cases e : i = j
    · subst e; simp [hj]
    · simp [e]
theorem rowI_ext {n : Nat} {f g : Nat → Int} (h : ∀ i, i < n → f i = g i) : rowI n f = rowI n g := by
  unfold rowI
  congr 1
  exact List.map_congr_left fun j hj => by rw [h j (by simpa using hj)]
/-! built aggregates -/
theorem fold_put {off : Nat} : ∀ (vs : List Value) (k : Nat) (pre mid post : List Value), mid.length = vs.length → pre.length = off + k →
    (vs.zipIdx k).foldl (fun (cs : Array Value) (x : Value × Nat) => cs.setIfInBounds (off + x.2) x.1) ⟨pre ++ mid ++ post⟩ = ⟨pre ++ vs ++ post⟩
  | [], k, pre, mid, post, hm, _ => by
    have : mid = [] := List.length_eq_zero_iff.1 hm
    subst this; rfl
  | v :: vs, k, pre, mid, post, hm, hp => by
    obtain ⟨m, mid, rfl⟩ : ∃ m mid', mid = m :: mid' := by
      cases mid with
      | nil => simp at hm
      | cons m mid => exact ⟨m, mid, rfl⟩
    rw [List.zipIdx_cons, List.foldl_cons]
    have e : (⟨pre ++ m :: mid ++ post⟩ : Array Value).setIfInBounds (off + k) v = ⟨(pre ++ [v]) ++ mid ++ post⟩ := by
      rw [← hp]
      apply Array.ext'
      simp
    show ((vs.zipIdx (k + 1)).foldl _ ((⟨pre ++ m :: mid ++ post⟩ : Array Value).setIfInBounds (off + k) v)) = _
    rw [e, fold_put vs (k + 1) (pre ++ [v]) mid post (by simpa using hm) (by simp; omega)]
    simp
theorem fill_step {place : Nat → Option (Nat × Nat)} {i off size : Nat} {v : Value} {rest : List (Nat × Value)} {pre mid post : List Value} (hpl : place i = some (off, size)) (ho : pre.length = off) (hm : mid.length = size) (hv : v.cells.size = size) :
    Instr.fill place ⟨pre ++ mid ++ post⟩ ((i, v) :: rest) = Instr.fill place ⟨pre ++ v.cells.toList ++ post⟩ rest := by
  rw [Instr.fill, hpl]
  simp only
  rw [if_neg (by simp [hv]; omega)]
  congr 1
  rw [← Array.foldl_toList, Array.toList_zipIdx]
  exact fold_put (off := off) v.cells.toList 0 pre mid post (by simp [hm, hv]) (by omega)
end Go.Vc
