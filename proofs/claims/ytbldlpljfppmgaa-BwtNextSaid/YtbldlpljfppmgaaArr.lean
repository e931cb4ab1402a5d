/-
  Arrays in blocks: loaded whole, stored whole, read and written by place. Conditions: none; every theorem here is about any program.
-/
import Derived.Test.YtbldlpljfppmgaaLib
namespace Go.Vc
open Go
section
variable {E w : World} {F : List HP}
theorem Ld.arr {b n : Nat} {cs : Array Value} {t : TypeId} {fr : Nat × Nat} {K : Array Value → Prop} (h : Hp E w (Blk b (.cells cs t fr) :: F)) (hn : cs.size = n) (hK : K cs) : Ld (.arr n) ⟨b, 0, none⟩ w K := by
  refine ⟨cs, hn, fun w' hw i hi => ?_, hK⟩
  subst hw
  rw [add_mk, h.cell, Nat.zero_add]
  simp [hn, hi]
theorem StA.blk {b n : Nat} {c0 cs : Array Value} {t : TypeId} {K : World → Prop} (h : Hp E w (Blk b (.cells c0 t (0, 0)) :: F)) (h0 : c0.size = n) (hn : cs.size = n) (hs : ∀ v ∈ cs.toList, scalarB v = true)
    (hK : ∀ w', Hp E w' (Blk b (.cells cs t (0, 0)) :: F) → K w') : StA n ⟨b, 0, none⟩ cs w K := by
  refine ⟨hn, fun i hi => ⟨?_, ?_, ?_⟩, ?_⟩
  · have : cs.getD i undef ∈ cs.toList := by simp [hn, hi]
    exact hs _ this
  · rw [add_mk, h.cell]; simp [h0, hi]
  · rw [add_mk]; simp [World.frozen?, h.blk]
  · obtain ⟨arr', e1, e2, e3, h'⟩ := Hp.setRow (b := b) (off := 0) cs.toList 0 w c0 h (by simp; omega)
    have : arr' = cs := by
      apply Array.ext
      · omega
      · intro i hi1 hi2
        have := e2 i (by simpa using hi2)
        rw [show 0 + 0 + i = i by omega, Array.getElem?_eq_getElem hi1] at this
        simpa using this
    subst this
    exact hK _ h'
/-- an element of one cell is read -/
theorem IdxP.rd {b n : Nat} {cs : Array Value} {t : TypeId} {fr : Nat × Nat} {i : Int} {s : Sc} {K : s.T → Prop} (h : Hp E w (Blk b (.cells cs t fr) :: F)) (h0 : 0 ≤ i) (h1 : i < (n : Int)) (x : s.T) (hx : cs[i.toNat]? = some (s.enc x)) (hK : K x) :
    IdxP ⟨b, 0, none⟩ n i 1 fun q => Ld (.sc s) q w K := by
  refine ⟨h0, h1, ?_⟩
  rw [add_mk]
  exact Ld.blk h x (by simpa using hx) hK
/-- an element of one cell is written -/
theorem IdxP.wr {b n : Nat} {cs : Array Value} {t : TypeId} {i : Int} {v : Value} {K : World → Prop} (h : Hp E w (Blk b (.cells cs t (0, 0)) :: F)) (h0 : 0 ≤ i) (h1 : i < (n : Int)) (hn : cs.size = n) (hv : scalarB v = true)
    (hK : ∀ w', Hp E w' (Blk b (.cells (cs.setIfInBounds i.toNat v) t (0, 0)) :: F) → K w') : IdxP ⟨b, 0, none⟩ n i 1 fun q => St q v w K := by
  refine ⟨h0, h1, ?_⟩
  rw [add_mk]
  exact St.blk h (by omega) hv (by simpa using hK)
theorem IdxV.rd {s : Sc} {cs : Array Value} {n : Nat} {i : Int} {K : s.T → Prop} (h0 : 0 ≤ i) (h1 : i < (n : Int)) (x : s.T) (hx : cs[i.toNat]? = some (s.enc x)) (hK : K x) : IdxV s cs n i K := ⟨h0, h1, x, hx, hK⟩
end
/-- an array of numbers of one kind -/
def ai (k : IntKind) (l : List Nat) : Array Value := ⟨l.map fun (n : Nat) => .int k (n : Int)⟩
theorem ai_size {k : IntKind} {l : List Nat} : (ai k l).size = l.length := by simp [ai]
theorem ai_get {k : IntKind} {l : List Nat} {i : Nat} (h : i < l.length) : (ai k l)[i]? = some (Sc.enc (.int k) (l[i] : Int)) := by simp [ai, h]
theorem ai_scalar {k : IntKind} {l : List Nat} : ∀ v ∈ (ai k l).toList, scalarB v = true := by
  intro v hv
  simp only [ai, List.mem_map] at hv
  obtain ⟨x, _, rfl⟩ := hv
  rfl
theorem ai_set {k : IntKind} {l : List Nat} {i x : Nat} : (ai k l).setIfInBounds i (.int k (x : Int)) = ai k (l.set i x) := by
  unfold ai
  apply Array.ext'
  simp [List.map_set]
theorem ai_zero {k : IntKind} {n : Nat} : (⟨List.replicate n (.int k 0)⟩ : Array Value) = ai k (List.replicate n 0) := by
  unfold ai; simp
theorem EqA.mk {k : IntKind} {n : Nat} {a b : List Nat} {K : Bool → Prop} (ha : a.length = n) (hb : b.length = n) (h : K (a == b)) : EqA k n (ai k a) (ai k b) K := by
  refine ⟨a.map fun (x : Nat) => (x : Int), b.map fun (x : Nat) => (x : Int), by simp [ai], by simp [ai], by simpa using ha, by simpa using hb, ?_⟩
  have : ((a.map fun (x : Nat) => (x : Int)) == (b.map fun (x : Nat) => (x : Int))) = (a == b) := by
    rw [Bool.eq_iff_iff, beq_iff_eq, beq_iff_eq]
    constructor
    · intro h
      exact (List.map_inj_right (fun x y h => by have h : (x : Int) = (y : Int) := h; omega)).1 h
    · rintro rfl; rfl
  rw [this]; exact h
end Go.Vc
