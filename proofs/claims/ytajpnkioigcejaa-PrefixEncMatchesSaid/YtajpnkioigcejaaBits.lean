/-
  Bits of byte lists: plain arithmetic, no program. Conditions: as each theorem states.
-/
namespace Go.Bits

def bitAt (b : List Nat) (i : Nat) : Nat := (b.getD (i / 8) 0 / 2 ^ (7 - i % 8)) % 2
/-- the n bits from bit a on, as a number, the first as the most significant one -/
def val (b : List Nat) (a : Nat) : Nat → Nat
  | 0 => 0
  | n + 1 => 2 * val b a n + bitAt b (a + n)
theorem bitAt_lt (b : List Nat) (i : Nat) : bitAt b i < 2 := Nat.mod_lt _ (by decide)
theorem val_lt (b : List Nat) (a : Nat) : ∀ n, val b a n < 2 ^ n
  | 0 => by simp [val]
  | n + 1 => by
    have := val_lt b a n
    have := bitAt_lt b (a + n)
    simp only [val, Nat.pow_succ]; omega
theorem val_add (b : List Nat) (a n : Nat) : ∀ m, val b a (n + m) = val b a n * 2 ^ m + val b (a + n) m
  | 0 => by simp [val]
  | m + 1 => by
    rw [← Nat.add_assoc]
    simp only [val, val_add b a n m, Nat.pow_succ, Nat.add_assoc]
    rw [Nat.mul_add, Nat.mul_comm (2 ^ m) 2, Nat.mul_left_comm]; omega
theorem val_bit (b : List Nat) (a n k : Nat) (h : k < n) : val b a n / 2 ^ (n - 1 - k) % 2 = bitAt b (a + k) := by
  have h1 := val_add b a (k + 1) (n - 1 - k)
  rw [show k + 1 + (n - 1 - k) = n by omega] at h1
  have h2 := val_lt b (a + (k + 1)) (n - 1 - k)
  rw [h1, Nat.mul_comm, Nat.mul_add_div (Nat.two_pow_pos _), Nat.div_eq_of_lt h2, Nat.add_zero]
  simp only [val]
  have := bitAt_lt b (a + k)
  omega
theorem bitAt_drop (b : List Nat) (j i : Nat) : bitAt (b.drop j) i = bitAt b (8 * j + i) := by
  unfold bitAt
  have h1 : (8 * j + i) / 8 = j + i / 8 := by omega
  have h2 : (8 * j + i) % 8 = i % 8 := by omega
  rw [h1, h2]
  simp only [List.getD_eq_getElem?_getD, List.getElem?_drop]
theorem val_drop (b : List Nat) (j a : Nat) : ∀ n, val (b.drop j) a n = val b (8 * j + a) n
  | 0 => rfl
  | n + 1 => by simp only [val, val_drop b j a n, bitAt_drop, Nat.add_assoc]
theorem bitAt_append (b c : List Nat) (i : Nat) (h : i < 8 * b.length) : bitAt (b ++ c) i = bitAt b i := by
  unfold bitAt
  congr 2
  simp only [List.getD_eq_getElem?_getD]
  rw [List.getElem?_append_left (by omega)]
theorem val_append (b c : List Nat) (a : Nat) : ∀ n, a + n ≤ 8 * b.length → val (b ++ c) a n = val b a n
  | 0, _ => rfl
  | n + 1, h => by simp only [val]; rw [val_append b c a n (by omega), bitAt_append b c _ (by omega)]
/-- one whole byte -/
theorem val_byte (b : List Nat) (j : Nat) (h : b.getD j 0 < 256) : val b (8 * j) 8 = b.getD j 0 := by
  have e : ∀ i, i < 8 → bitAt b (8 * j + i) = b.getD j 0 / 2 ^ (7 - i) % 2 := by
    intro i hi
    unfold bitAt
    rw [show (8 * j + i) / 8 = j by omega, show (8 * j + i) % 8 = i by omega]
  simp only [val]
  rw [e 0 (by decide), e 1 (by decide), e 2 (by decide), e 3 (by decide), e 4 (by decide), e 5 (by decide), e 6 (by decide), e 7 (by decide)]
  generalize b.getD j 0 = x at h
  simp only [Nat.reduceSub, Nat.reducePow]
  omega
/-- the value of the first m bytes, as one gathers it byte by byte -/
theorem val_bytes (b : List Nat) (m : Nat) (h : b.getD m 0 < 256) : val b 0 (8 * (m + 1)) = val b 0 (8 * m) * 256 + b.getD m 0 := by
  rw [show 8 * (m + 1) = 8 * m + 8 by omega, val_add, Nat.zero_add, val_byte b m h]
theorem getD_lt {b : List Nat} (h : ∀ x ∈ b, x < 256) (m : Nat) : b.getD m 0 < 256 := by
  rw [List.getD_eq_getElem?_getD]
  cases hh : b[m]? with
  | none => simp
  | some x => simpa using h x (List.mem_of_getElem? hh)
/-- bits out of the middle of some bytes -/
theorem val_mid (b : List Nat) (a w k : Nat) : val b 0 (a + w + k) / 2 ^ k % 2 ^ w = val b a w := by
  rw [val_add b 0 (a + w) k, val_add b 0 a w, Nat.zero_add, Nat.mul_comm _ (2 ^ k), Nat.mul_add_div (Nat.two_pow_pos _), Nat.zero_add,
    Nat.div_eq_of_lt (val_lt b _ k), Nat.add_zero, Nat.mul_comm, Nat.mul_add_mod, Nat.mod_eq_of_lt (val_lt b a w)]
theorem or_byte (a c : Nat) (h : c < 256) : a * 256 ||| c = a * 256 + c := by
  have := Nat.two_pow_add_eq_or_of_lt (i := 8) (b := c) h a
  rw [Nat.mul_comm] at this
  rw [← this]
theorem and_mask (a w : Nat) : a &&& (2 ^ w - 1) = a % 2 ^ w := Nat.and_two_pow_sub_one_eq_mod a w
end Go.Bits
