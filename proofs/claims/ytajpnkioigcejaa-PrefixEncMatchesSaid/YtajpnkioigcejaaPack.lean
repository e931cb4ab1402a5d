/-
  Bits packed into bytes, and codes as bits: encoding, decoding. Plain laws. Conditions: as each theorem states.
-/
import Derived.Test.YtajpnkioigcejaaTblP
import Derived.Test.YtajpnkioigcejaaBits
namespace Go.Srt
open Go.Bits
def by8 (b : List Nat) (j : Nat) : Nat :=
  b.getD (8 * j) 0 * 128 + b.getD (8 * j + 1) 0 * 64 + b.getD (8 * j + 2) 0 * 32 + b.getD (8 * j + 3) 0 * 16 + b.getD (8 * j + 4) 0 * 8 + b.getD (8 * j + 5) 0 * 4 + b.getD (8 * j + 6) 0 * 2 + b.getD (8 * j + 7) 0
def packTo (b : List Nat) (m : Nat) : List Nat := (List.range m).map (by8 b)
/-- bits as bytes, the last one filled with zeros -/
def pack (b : List Nat) : List Nat := packTo b ((b.length + 7) / 8)
def Bits (b : List Nat) : Prop := ∀ x ∈ b, x ≤ 1
theorem Bits.getD {b : List Nat} (h : Bits b) (i : Nat) : b.getD i 0 ≤ 1 := by
  rw [List.getD_eq_getElem?_getD]
  cases hx : b[i]? with
  | none => simp
  | some x => exact h x (List.mem_of_getElem? hx)
theorem Bits.app {a b : List Nat} (ha : Bits a) (hb : Bits b) : Bits (a ++ b) := fun x hx => by
  rcases List.mem_append.1 hx with h | h
  · exact ha x h
  · exact hb x h
theorem packTo_len (b : List Nat) (m : Nat) : (packTo b m).length = m := by simp [packTo]
theorem packTo_get {b : List Nat} {m j : Nat} (h : j < m) : (packTo b m).getD j 0 = by8 b j := by
  unfold packTo
  rw [List.getD_eq_getElem?_getD, List.getElem?_map, List.getElem?_range h]; rfl
theorem by8_lt {b : List Nat} (h : Bits b) (j : Nat) : by8 b j < 256 := by
  unfold by8
  have h0 := h.getD (8 * j); have h1 := h.getD (8 * j + 1); have h2 := h.getD (8 * j + 2); have h3 := h.getD (8 * j + 3)
  have h4 := h.getD (8 * j + 4); have h5 := h.getD (8 * j + 5); have h6 := h.getD (8 * j + 6); have h7 := h.getD (8 * j + 7)
  omega
theorem packTo_lt {b : List Nat} (h : Bits b) (m : Nat) : ∀ y ∈ packTo b m, y < 256 := fun y hy => by
  obtain ⟨j, _, rfl⟩ := List.mem_map.1 hy
  exact by8_lt h j
theorem getD_ge {b : List Nat} {i : Nat} (h : b.length ≤ i) : b.getD i 0 = 0 := by rw [List.getD_eq_getElem?_getD, List.getElem?_eq_none h]; rfl
theorem getD_snoc (b : List Nat) (x i : Nat) : (b ++ [x]).getD i 0 = b.getD i 0 + if i = b.length then x else 0 := by
  rcases Nat.lt_trichotomy i b.length with h | h | h
  · rw [if_neg (by omega), List.getD_eq_getElem?_getD, List.getElem?_append_left h, ← List.getD_eq_getElem?_getD]; rfl
  · subst h
    rw [if_pos rfl, getD_ge (Nat.le_refl _), List.getD_eq_getElem?_getD, List.getElem?_append_right (Nat.le_refl _), Nat.sub_self]
    simp
  · rw [if_neg (by omega), getD_ge (b := b ++ [x]) (by simp; omega), getD_ge (b := b) (by omega)]
theorem by8_snoc (b : List Nat) (x j : Nat) : by8 (b ++ [x]) j = by8 b j + if j = b.length / 8 then x * 2 ^ (7 - b.length % 8) else 0 := by
  unfold by8
  simp only [getD_snoc]
  by_cases hj : j = b.length / 8
  · rw [if_pos hj]
    have hr : b.length = 8 * j + b.length % 8 := by omega
    have h8 : b.length % 8 < 8 := Nat.mod_lt _ (by decide)
    generalize b.length % 8 = r at hr h8
    rw [hr]
    have : r = 0 ∨ r = 1 ∨ r = 2 ∨ r = 3 ∨ r = 4 ∨ r = 5 ∨ r = 6 ∨ r = 7 := by omega
    rcases this with rfl | rfl | rfl | rfl | rfl | rfl | rfl | rfl <;> simp <;> omega
  · rw [if_neg hj, if_neg (by omega), if_neg (by omega), if_neg (by omega), if_neg (by omega), if_neg (by omega), if_neg (by omega), if_neg (by omega), if_neg (by omega)]
    omega
theorem by8_top {b : List Nat} {j : Nat} (h : b.length ≤ 8 * j) : by8 b j = 0 := by
  unfold by8
  rw [getD_ge h, getD_ge (by omega), getD_ge (by omega), getD_ge (by omega), getD_ge (by omega), getD_ge (by omega), getD_ge (by omega), getD_ge (by omega)]
/-- the byte that is not full yet has only its upper bits -/
theorem by8_dvd (b : List Nat) : 2 ^ (8 - b.length % 8) ∣ by8 b (b.length / 8) := by
  have hr : b.length = 8 * (b.length / 8) + b.length % 8 := by omega
  have h8 : b.length % 8 < 8 := Nat.mod_lt _ (by decide)
  generalize hj : b.length / 8 = j at hr
  generalize b.length % 8 = r at hr h8
  unfold by8
  have g : ∀ i, r ≤ i → b.getD (8 * j + i) 0 = 0 := fun i hi => getD_ge (by omega)
  have : r = 0 ∨ r = 1 ∨ r = 2 ∨ r = 3 ∨ r = 4 ∨ r = 5 ∨ r = 6 ∨ r = 7 := by omega
  have g0 := g 0; have g1 := g 1; have g2 := g 2; have g3 := g 3; have g4 := g 4; have g5 := g 5; have g6 := g 6; have g7 := g 7
  simp only [Nat.add_zero] at g0
  rcases this with rfl | rfl | rfl | rfl | rfl | rfl | rfl | rfl <;> simp only [Nat.reduceSub, Nat.reducePow] <;> omega
theorem or_bit8 {a r x : Nat} (hr : r < 8) (hd : 2 ^ (8 - r) ∣ a) (hx : x ≤ 1) : a ||| x * 2 ^ (7 - r) = a + x * 2 ^ (7 - r) := by
  obtain ⟨q, rfl⟩ := hd
  have hp : 2 ^ (8 - r) = 2 * 2 ^ (7 - r) := by rw [show 8 - r = (7 - r) + 1 by omega, Nat.pow_succ, Nat.mul_comm]
  have hpos := Nat.two_pow_pos (7 - r)
  refine (Nat.two_pow_add_eq_or_of_lt (i := 8 - r) ?_ q).symm
  have : x = 0 ∨ x = 1 := by omega
  rcases this with rfl | rfl <;> omega
/-- the bytes with room for one bit more -/
def room (b : List Nat) : List Nat := packTo b (b.length / 8 + 1)
theorem room_eq (b : List Nat) : room b = if b.length % 8 = 0 then pack b ++ [0] else pack b := by
  unfold room pack
  split
  · rename_i h
    rw [show (b.length + 7) / 8 = b.length / 8 by omega]
    unfold packTo
    rw [List.range_succ, List.map_append]
    congr 1
    simp only [List.map_cons, List.map_nil]
    rw [by8_top (by omega)]
  · rename_i h
    rw [show (b.length + 7) / 8 = b.length / 8 + 1 by omega]
theorem pack_snoc (b : List Nat) (x : Nat) : pack (b ++ [x]) = (room b).set (b.length / 8) (by8 b (b.length / 8) + x * 2 ^ (7 - b.length % 8)) := by
  unfold pack room
  rw [List.length_append, List.length_singleton, show (b.length + 1 + 7) / 8 = b.length / 8 + 1 by omega]
  refine List.ext_getElem? fun i => ?_
  unfold packTo
  rw [List.getElem?_set]
  simp only [List.getElem?_map, List.length_map, List.length_range]
  by_cases hi : i < b.length / 8 + 1
  · rw [List.getElem?_range hi]
    simp only [Option.map_some]
    rw [by8_snoc]
    by_cases e : b.length / 8 = i
    · subst e; rw [if_pos rfl, if_pos rfl, if_pos hi]
    · rw [if_neg (Ne.symm e), if_neg e, Nat.add_zero]
  · rw [List.getElem?_eq_none (by simpa using hi)]
    simp only [Option.map_none]
    rw [if_neg (by omega)]
theorem bitAt_packTo {b : List Nat} (h : Bits b) {m i : Nat} (hi : i < 8 * m) : bitAt (packTo b m) i = b.getD i 0 := by
  unfold bitAt
  rw [packTo_get (by omega)]
  have hr : i = 8 * (i / 8) + i % 8 := by omega
  have h8 : i % 8 < 8 := Nat.mod_lt _ (by decide)
  generalize i / 8 = j at hr
  generalize i % 8 = r at hr h8
  subst hr
  unfold by8
  have h0 := h.getD (8 * j); have h1 := h.getD (8 * j + 1); have h2 := h.getD (8 * j + 2); have h3 := h.getD (8 * j + 3)
  have h4 := h.getD (8 * j + 4); have h5 := h.getD (8 * j + 5); have h6 := h.getD (8 * j + 6); have h7 := h.getD (8 * j + 7)
  have : r = 0 ∨ r = 1 ∨ r = 2 ∨ r = 3 ∨ r = 4 ∨ r = 5 ∨ r = 6 ∨ r = 7 := by omega
  rcases this with rfl | rfl | rfl | rfl | rfl | rfl | rfl | rfl <;> simp only [Nat.reduceSub, Nat.reducePow, Nat.add_zero] <;> omega
theorem pack_len (b : List Nat) : (pack b).length = (b.length + 7) / 8 := packTo_len _ _
theorem bitAt_pack {b : List Nat} (h : Bits b) {i : Nat} (hi : i < b.length) : bitAt (pack b) i = b.getD i 0 := bitAt_packTo h (by omega)
theorem pack_lt {b : List Nat} (h : Bits b) : ∀ y ∈ pack b, y < 256 := packTo_lt h _
end Go.Srt
