/-
  Codes as bits, symbols from bits: plain laws. Conditions: as each theorem states.
-/
import Derived.Test.YtajpnkioigcejaaPack
namespace Go.Srt
open Go.Bits
/-- the n lower bits of a number, the highest first -/
def bn : Nat → Nat → List Nat
  | 0, _ => []
  | n + 1, v => bn n (v / 2) ++ [v % 2]
theorem bn_len : ∀ n v, (bn n v).length = n
  | 0, _ => rfl
  | n + 1, v => by rw [bn, List.length_append, bn_len n]; rfl
theorem bn_bits : ∀ n v, Bits (bn n v)
  | 0, _ => fun x hx => by cases hx
  | n + 1, v => (bn_bits n _).app fun x hx => by have : x = v % 2 := by simpa using hx
                                                 omega
theorem bn_get : ∀ n v i, i < n → (bn n v).getD i 0 = v / 2 ^ (n - 1 - i) % 2
  | 0, _, _, h => by omega
  | n + 1, v, i, h => by
    rw [bn, getD_snoc, bn_len]
    by_cases e : i = n
    · subst e
      rw [if_pos rfl, getD_ge (by rw [bn_len]; exact Nat.le_refl _), show i + 1 - 1 - i = 0 by omega]; simp
    · rw [if_neg e, bn_get n _ i (by omega), Nat.add_zero, Nat.div_div_eq_div_mul]
      congr 2
      rw [show n + 1 - 1 - i = (n - 1 - i) + 1 by omega, Nat.pow_succ, Nat.mul_comm]
theorem bn_snoc (n c x : Nat) (hx : x ≤ 1) : bn (n + 1) (2 * c + x) = bn n c ++ [x] := by
  rw [bn, show (2 * c + x) / 2 = c by omega, show (2 * c + x) % 2 = x by omega]
def goodS (l : List Nat) (s : Nat) : Prop := s < 258 ∧ 0 < l.getD s 0
def encB (l : List Nat) (s : Nat) : List Nat := bn (l.getD s 0) (code l s)
def enc (l : List Nat) (ss : List Nat) : List Nat := ss.flatMap (encB l)
theorem enc_bits (l : List Nat) (ss : List Nat) : Bits (enc l ss) := fun x hx => by
  obtain ⟨s, _, h⟩ := List.mem_flatMap.1 hx
  exact bn_bits _ _ x h
theorem enc_app (l a b : List Nat) : enc l (a ++ b) = enc l a ++ enc l b := List.flatMap_append
theorem enc_cons (l : List Nat) (s : Nat) (b : List Nat) : enc l (s :: b) = encB l s ++ enc l b := List.flatMap_cons
def findS (l : List Nat) (c n : Nat) : Option Nat := (List.range 258).find? fun s => decide (0 < l.getD s 0) && (l.getD s 0 == n) && (code l s == c)
theorem findS_some {l : List Nat} {c n s : Nat} (h : findS l c n = some s) : goodS l s ∧ l.getD s 0 = n ∧ code l s = c := by
  unfold findS at h
  have h1 := List.find?_some h
  have h2 := List.mem_of_find?_eq_some h
  simp only [Bool.and_eq_true, decide_eq_true_eq, beq_iff_eq] at h1
  exact ⟨⟨by simpa using h2, h1.1.1⟩, h1.1.2, h1.2⟩
theorem findS_none {l : List Nat} {c n : Nat} (h : findS l c n = none) {s : Nat} (hs : goodS l s) : ¬ (l.getD s 0 = n ∧ code l s = c) := by
  unfold findS at h
  have := List.find?_eq_none.1 h s (by simpa using hs.1)
  simp only [Bool.and_eq_true, decide_eq_true_eq, beq_iff_eq] at this
  exact fun hh => this ⟨⟨hs.2, hh.1⟩, hh.2⟩
theorem code_inj {l : List Nat} (hl : l.length = 258) {s t : Nat} (hs : goodS l s) (ht : goodS l t) (h1 : l.getD s 0 = l.getD t 0) (h2 : code l s = code l t) : s = t := by
  have h3 := hs.1; have h4 := ht.1
  refine rank_inj (by omega) (by omega) h1 ?_
  unfold code at h2
  rw [h1] at h2
  omega
theorem findS_self {l : List Nat} (hl : l.length = 258) {s : Nat} (hs : goodS l s) : findS l (code l s) (l.getD s 0) = some s := by
  cases h : findS l (code l s) (l.getD s 0) with
  | none => exact absurd ⟨rfl, rfl⟩ (findS_none h hs)
  | some t =>
    obtain ⟨h1, h2, h3⟩ := findS_some h
    rw [code_inj hl h1 hs h2 h3]
/-- no code is the beginning of another -/
theorem findS_pre {l : List Nat} (hl : l.length = 258) (hv : ksum l ≤ 32768) {s m : Nat} (hs : goodS l s) (hm : m < l.getD s 0) : findS l (code l s / 2 ^ (l.getD s 0 - m)) m = none := by
  cases h : findS l (code l s / 2 ^ (l.getD s 0 - m)) m with
  | none => rfl
  | some t =>
    exfalso
    obtain ⟨h1, h2, h3⟩ := findS_some h
    have h15 := len15 hv s
    have p1 := code_pos hv s
    have p2 := code_pos hv t
    rw [h2, h3] at p2
    have e : 2 ^ (15 - m) = 2 ^ (l.getD s 0 - m) * 2 ^ (15 - l.getD s 0) := by rw [← Nat.pow_add]; congr 1; omega
    have hq := Nat.div_mul_le_self (code l s) (2 ^ (l.getD s 0 - m))
    have hr := Nat.lt_div_mul_add (a := code l s) (b := 2 ^ (l.getD s 0 - m)) (Nat.two_pow_pos _)
    have ha : pos l t ≤ pos l s := by
      rw [← p1, ← p2, e, ← Nat.mul_assoc]; exact Nat.mul_le_mul_right _ hq
    have hb : pos l s < pos l t + 2 ^ (15 - l.getD t 0) := by
      rw [h2, ← p1, ← p2, e, ← Nat.mul_assoc, ← Nat.add_mul]
      exact Nat.mul_lt_mul_of_pos_right hr (Nat.two_pow_pos _)
    have h4 := hs.1; have h5 := h1.1
    have : s = t := pos_uniq (x := pos l s) (by omega) (by omega) hs.2 h1.2 (Nat.le_refl _) (by have := Nat.two_pow_pos (15 - l.getD s 0); omega) ha hb
    subst this
    omega
/-- the symbols that bits spell -/
def rdS (l : List Nat) : List Nat → Nat → Nat → List Nat → Option (List Nat)
  | [], _, n, acc => if n = 0 then some acc else none
  | x :: bs, c, n, acc => match findS l (2 * c + x) (n + 1) with
    | some s => rdS l bs 0 0 (acc ++ [s])
    | none => if 15 < n + 1 then none else rdS l bs (2 * c + x) (n + 1) acc
theorem rdS_tail {l : List Nat} (hl : l.length = 258) (hv : ksum l ≤ 32768) {s : Nat} (hs : goodS l s) (rest acc : List Nat) : ∀ k m, m + k = l.getD s 0 → 0 < k → rdS l ((bn (l.getD s 0) (code l s)).drop m ++ rest) (code l s / 2 ^ (l.getD s 0 - m)) m acc = rdS l rest 0 0 (acc ++ [s])
  | 0, _, _, h => by omega
  | k + 1, m, hm, _ => by
    have h15 := len15 hv s
    have hlen := bn_len (l.getD s 0) (code l s)
    have hlt : m < (bn (l.getD s 0) (code l s)).length := by omega
    rw [List.drop_eq_getElem_cons hlt, List.cons_append, rdS]
    have hx : (bn (l.getD s 0) (code l s))[m] = code l s / 2 ^ (l.getD s 0 - 1 - m) % 2 := by
      rw [← bn_get _ _ _ (by omega), getD_get hlt]
    have hc : 2 * (code l s / 2 ^ (l.getD s 0 - m)) + (bn (l.getD s 0) (code l s))[m] = code l s / 2 ^ (l.getD s 0 - (m + 1)) := by
      rw [hx, show l.getD s 0 - m = (l.getD s 0 - 1 - m) + 1 by omega, Nat.pow_succ, ← Nat.div_div_eq_div_mul, show l.getD s 0 - (m + 1) = l.getD s 0 - 1 - m by omega]
      omega
    rw [hc]
    by_cases e : k = 0
    · subst e
      have e1 : m + 1 = l.getD s 0 := by omega
      rw [e1, Nat.sub_self, Nat.pow_zero, Nat.div_one, findS_self hl hs]
      simp only
      rw [List.drop_of_length_le (by omega), List.nil_append]
    · rw [findS_pre hl hv hs (by omega)]
      simp only
      rw [if_neg (by omega)]
      exact rdS_tail hl hv hs rest acc k (m + 1) (by omega) (by omega)
theorem rdS_one {l : List Nat} (hl : l.length = 258) (hv : ksum l ≤ 32768) {s : Nat} (hs : goodS l s) (rest acc : List Nat) : rdS l (encB l s ++ rest) 0 0 acc = rdS l rest 0 0 (acc ++ [s]) := by
  have h := rdS_tail hl hv hs rest acc (l.getD s 0) 0 (by omega) hs.2
  have hc := code_lt hl hv hs.1 hs.2
  rw [Nat.sub_zero, Nat.div_eq_of_lt hc, List.drop_zero] at h
  exact h
theorem rdS_enc {l : List Nat} (hl : l.length = 258) (hv : ksum l ≤ 32768) : ∀ (ss rest acc : List Nat), (∀ s ∈ ss, goodS l s) → rdS l (enc l ss ++ rest) 0 0 acc = rdS l rest 0 0 (acc ++ ss)
  | [], rest, acc, _ => by simp [enc]
  | s :: ss, rest, acc, h => by
    rw [enc_cons, List.append_assoc, rdS_one hl hv (h s (by simp)), rdS_enc hl hv ss rest _ (fun t ht => h t (by simp [ht]))]
    simp
theorem rdS_back {l : List Nat} : ∀ (bs : List Nat) (c n : Nat) (acc out : List Nat), Bits bs → rdS l bs c n acc = some out → ∃ ss, out = acc ++ ss ∧ (∀ s ∈ ss, goodS l s) ∧ bn n c ++ bs = enc l ss
  | [], c, n, acc, out, _, h => by
    rw [rdS] at h
    split at h
    · rename_i hn
      subst hn
      exact ⟨[], by simpa using (Option.some.inj h).symm, by simp, by simp [bn, enc]⟩
    · cases h
  | x :: bs, c, n, acc, out, hb, h => by
    have hx := hb x (by simp)
    have hb' : Bits bs := fun y hy => hb y (by simp [hy])
    rw [rdS] at h
    have hs := bn_snoc n c x hx
    split at h
    · rename_i s hf
      obtain ⟨h1, h2, h3⟩ := findS_some hf
      obtain ⟨ss, e1, e2, e3⟩ := rdS_back bs 0 0 _ out hb' h
      refine ⟨s :: ss, by rw [e1]; simp, fun t ht => ?_, ?_⟩
      · rcases List.mem_cons.1 ht with rfl | ht
        · exact h1
        · exact e2 t ht
      · rw [enc_cons, ← e3]
        unfold encB
        rw [h2, h3, hs]
        simp [bn]
    · split at h
      · cases h
      · obtain ⟨ss, e1, e2, e3⟩ := rdS_back bs _ _ _ out hb' h
        refine ⟨ss, e1, e2, ?_⟩
        rw [← e3, hs]
        simp
/-- the first bits of some bytes -/
def bitsOf (b : List Nat) (n : Nat) : List Nat := (List.range n).map (bitAt b)
theorem bitsOf_len (b : List Nat) (n : Nat) : (bitsOf b n).length = n := by simp [bitsOf]
theorem bitsOf_bits (b : List Nat) (n : Nat) : Bits (bitsOf b n) := fun x hx => by
  obtain ⟨i, _, rfl⟩ := List.mem_map.1 hx
  have := bitAt_lt b i
  omega
theorem bitsOf_pack {b : List Nat} (h : Bits b) : bitsOf (pack b) b.length = b := by
  refine List.ext_getElem? fun i => ?_
  unfold bitsOf
  rw [List.getElem?_map]
  by_cases hi : i < b.length
  · rw [List.getElem?_range hi, List.getElem?_eq_getElem hi, Option.map_some, bitAt_pack h hi, getD_get hi]
  · rw [List.getElem?_eq_none (by simpa using hi), List.getElem?_eq_none (by omega)]; rfl
theorem bitsOf_take (b : List Nat) {m n : Nat} (h : m ≤ n) : (bitsOf b n).take m = bitsOf b m := by
  unfold bitsOf
  rw [← List.map_take, List.take_range, Nat.min_eq_left h]
end Go.Srt
