/-
  Bytes and strings. Conditions: as each theorem states.
-/
import Derived.Test.YtbldlpljfppmgaaMore
import Derived.Laws.BytesArg
import Derived.Laws.IdiomStrings
import Derived.Laws.AppendOwn
import Derived.Lib.BytesEntry
namespace Go.Vc
open Go
/-- one row of bytes less than another -/
def lxb : List Nat → List Nat → Bool
  | _, [] => false
  | [], _ :: _ => true
  | a :: x, b :: y => decide (a < b) || (a == b && lxb x y)
/-- the string of some bytes -/
def strOf (b : List Nat) : ByteArray := strOfNums (b.map fun (x : Nat) => (x : Int))
theorem run_toStr {P : Program} {src e dst : TypeId} {s : Sl} {b : List Nat} {w : World} {K : ByteArray → World → Prop} (hs : P.underlying src = some (.slice e)) (he : P.underlying e = some (.int .u8)) (hd : P.underlying dst = some .string)
    (hh : SlT 1 s (b.map vB) w) (hK : K (strOf b) w) : Run P (convert src dst (.slice s.base s.len s.cap)) kStr w K := by
  have hl := hh.1
  simp only [List.length_map, Nat.mul_one] at hl
  have key : (convert src dst (.slice s.base s.len s.cap)).run P w = .ok (.string (strOf b)) w := by
    cases hb : s.base with
    | none =>
      have : b = [] := by
        cases b with
        | nil => rfl
        | cons x b =>
          obtain ⟨p, hp, _⟩ := hh.2 0 (by simp)
          rw [hb] at hp; cases hp
      subst this
      rw [run_convert_bytes_nil w src e hs he _ _ dst hd]; rfl
    | some p =>
      have hc : (loadCells p s.len).run P w = .ok ((b.map fun (x : Nat) => (x : Int)).map (Value.int .u8)).toArray w := by
        have := run_cells (P := P) (w := w) (vs := b.map vB) (p := p) (fun i hi => by
          obtain ⟨q, hq, hc⟩ := hh.2 i hi
          rw [hb] at hq
          cases hq
          exact hc)
        rw [List.length_map, hl] at this
        rw [this, List.map_map]; rfl
      rw [run_convert_bytes_string w src dst e _ _ _ hs he hd, run_bytesToString w _ _ _ _ hc, foldl_push_bytes]
      unfold strOf strOfNums
      simp [ByteArray.empty, ByteArray.emptyWithCapacity]
      rfl
  unfold Run
  rw [key]
  exact hK
/-! bytes and their strings -/
theorem strOf_list (b : List Nat) : (strOf b).toList = b.map UInt8.ofNat := by
  unfold strOf strOfNums
  rw [ByteArray.toList_mk, List.map_map]
  refine List.map_congr_left fun x _ => ?_
  simp
theorem strOf_data (b : List Nat) : (strOf b).data.toList = b.map UInt8.ofNat := by rw [← ByteArray.toList_eq, strOf_list]
theorem u8_inj {a b : Nat} (ha : a < 256) (hb : b < 256) (h : UInt8.ofNat a = UInt8.ofNat b) : a = b := by
  have := congrArg UInt8.toNat h
  simp only [UInt8.toNat_ofNat'] at this
  omega
theorem u8_lt {a b : Nat} (ha : a < 256) (hb : b < 256) : (UInt8.ofNat a < UInt8.ofNat b) ↔ a < b := by
  rw [UInt8.lt_iff_toNat_lt]
  simp only [UInt8.toNat_ofNat']
  omega
theorem map_u8_inj : ∀ {a b : List Nat}, (∀ x ∈ a, x < 256) → (∀ x ∈ b, x < 256) → a.map UInt8.ofNat = b.map UInt8.ofNat → a = b
  | [], [], _, _, _ => rfl
  | [], _ :: _, _, _, h => by cases h
  | _ :: _, [], _, _, h => by cases h
  | x :: a, y :: b, ha, hb, h => by
    simp only [List.map_cons, List.cons.injEq] at h
    rw [u8_inj (ha x (by simp)) (hb y (by simp)) h.1, map_u8_inj (fun z hz => ha z (by simp [hz])) (fun z hz => hb z (by simp [hz])) h.2]
theorem strOf_eq {a b : List Nat} (ha : ∀ x ∈ a, x < 256) (hb : ∀ x ∈ b, x < 256) : ((strOf a).toList == (strOf b).toList) = (a == b) := by
  rw [strOf_list, strOf_list, Bool.eq_iff_iff, beq_iff_eq, beq_iff_eq]
  exact ⟨map_u8_inj ha hb, fun e => by rw [e]⟩
theorem strOf_less : ∀ {a b : List Nat}, (∀ x ∈ a, x < 256) → (∀ x ∈ b, x < 256) → Op.bytesLess (a.map UInt8.ofNat) (b.map UInt8.ofNat) = lxb a b
  | [], [], _, _ => rfl
  | [], _ :: _, _, _ => rfl
  | _ :: _, [], _, _ => rfl
  | x :: a, y :: b, ha, hb => by
    have hx := ha x (by simp)
    have hy := hb y (by simp)
    have ih := strOf_less (a := a) (b := b) (fun z hz => ha z (by simp [hz])) (fun z hz => hb z (by simp [hz]))
    simp only [List.map_cons, Op.bytesLess, ih]
    show _ = (decide (x < y) || (x == y && lxb a b))
    have e1 : decide (UInt8.ofNat x < UInt8.ofNat y) = decide (x < y) := by rw [decide_eq_decide]; exact u8_lt hx hy
    have e2 : (UInt8.ofNat x == UInt8.ofNat y) = (x == y) := by rw [Bool.eq_iff_iff, beq_iff_eq, beq_iff_eq]; exact ⟨u8_inj hx hy, fun e => by rw [e]⟩
    rw [e1, e2]
theorem cmp_less : ∀ {a b : List Nat}, (∀ x ∈ a, x < 256) → (∀ x ∈ b, x < 256) → (Lib.compareBytes (a.map UInt8.ofNat) (b.map UInt8.ofNat) < 0 ↔ lxb a b = true)
  | [], [], _, _ => by simp [Lib.compareBytes, lxb]
  | [], _ :: _, _, _ => by simp [Lib.compareBytes, lxb]
  | _ :: _, [], _, _ => by simp [Lib.compareBytes, lxb]
  | x :: a, y :: b, ha, hb => by
    have hx := ha x (by simp)
    have hy := hb y (by simp)
    have ih := cmp_less (a := a) (b := b) (fun z hz => ha z (by simp [hz])) (fun z hz => hb z (by simp [hz]))
    simp only [List.map_cons, Lib.compareBytes, u8_lt hx hy, u8_lt hy hx]
    show _ ↔ (decide (x < y) || (x == y && lxb a b)) = true
    simp only [Bool.or_eq_true, Bool.and_eq_true, decide_eq_true_eq, beq_iff_eq]
    split
    · simp; omega
    · split
      · simp; omega
      · rw [ih]
        have : x = y := by omega
        simp [this]
/-- bytes that may be read, not written -/
def RdB (sl : Sl) (b : List Nat) : HP := fun f => ∃ blk arr t fr, sl.base = some ⟨blk, 0, none⟩ ∧ sl.len = b.length ∧ sl.len ≤ sl.cap ∧ (∀ i (hi : i < b.length), arr[i]? = some (vB b[i])) ∧ f = Frag.one blk (.cells arr t fr)
section
variable {E w : World} {F : List HP}
theorem Tells.rdB {sl : Sl} {b : List Nat} : Tells (RdB sl b :: F) (SlT 1 sl (b.map vB)) := by
  rintro w f a ⟨g, k, hd, rfl, ⟨blk, arr, t, fr, h1, h2, _, h4, h5⟩, _⟩
  subst h5
  refine ⟨by rw [List.length_map, h2]; omega, fun i hi => ⟨_, h1, ?_⟩⟩
  rw [List.length_map] at hi
  have hb : w.heap[blk]? = some (.cells arr t fr) := a blk _ (by simp [Frag.add, Frag.one])
  rw [add_mk, Nat.zero_add]
  have : w.cell? ⟨blk, i, none⟩ = arr[i]? := by simp [World.cell?, hb]
  rw [this, h4 i hi]; simp
theorem RdB.cap {sl : Sl} {b : List Nat} (h : Hp E w (RdB sl b :: F)) : sl.len ≤ sl.cap := by
  obtain ⟨f, a, g, k, hd, rfl, ⟨blk, arr, t, fr, _, _, h3, _, _⟩, _⟩ := h.frag
  exact h3
/-- a string to bytes -/
theorem run_toBytes {P : Program} {src dst e : TypeId} {b : List Nat} {K : Sl → World → Prop} (hs : P.underlying src = some .string) (hd : P.underlying dst = some (.slice e)) (he : P.underlying e = some (.int .u8)) (hb : ∀ x ∈ b, x < 256)
    (h : Hp E w F) (hK : ∀ s w', Hp E w' (RdB s b :: F) → K s w') : Run P (convert src dst (.string (strOf b))) kS w K := by
  have hsz : (strOf b).size = b.length := by unfold strOf; rw [strOfNums_size, List.length_map]
  unfold Run
  rw [run_bytes_of_string w src dst e _ hs hd he]
  have hge := grownCap_ge w (strOf b).size 0 e
  obtain ⟨c, hc⟩ : ∃ c, c = grownCap w (strOf b).size 0 e := ⟨_, rfl⟩
  rw [← hc] at hge ⊢
  refine hK ⟨some ⟨w.heap.size, 0, none⟩, (strOf b).size, c⟩ _ ?_
  have h1 : Hp E w.drew F := h.drew
  have h2 := h1.alloc (.cells (bytesRow (strOf b) c) e ((bytesRow (strOf b) c).size, (bytesRow (strOf b) c).size + 1))
  refine h2.weak fun f hf => ⟨w.heap.size, _, _, _, rfl, hsz, hge, fun i hi => ?_, hf⟩
  have hd2 := strOf_data b
  have hi2 : i < (strOf b).data.size := by show i < (strOf b).size; omega
  unfold bytesRow
  rw [Array.getElem?_append_left (by rw [Array.size_map]; exact hi2), Array.getElem?_map, Array.getElem?_eq_getElem hi2]
  have e1 : (strOf b).data[i] = UInt8.ofNat b[i] := by
    rw [← Array.getElem_toList]
    simp only [hd2, List.getElem_map]
  have h256 := hb b[i] (List.getElem_mem hi)
  rw [Option.map_some, e1]
  unfold vB
  congr 2
  rw [UInt8.toNat_ofNat']
  omega
end
end Go.Vc
