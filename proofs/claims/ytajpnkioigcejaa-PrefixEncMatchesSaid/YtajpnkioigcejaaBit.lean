/-
  What winepressref03.Bit computes. Conditions: as each theorem states.
-/
import Derived.Test.YtajpnkioigcejaaBits
import Derived.Test.YtajpnkioigcejaaLib
import Derived.Test.YtajpnkioigcejaaF
namespace Go.Proofs.Ytajpnkioigcejaa
open Go Go.Vc Go.Bits
section
variable {E w : World} {F : List HP}
theorem bit_c {s : Sl} {c : List Nat} {i : Nat} {K : Int → World → Prop} (hs : SlT 1 s (c.map vB) w) (hi : i < 8 * c.length) (hb : ∀ y ∈ c, y < 256) (hbig : c.length ≤ big) (hK : K (bitAt c i : Int) w) :
    Cl Try.prog [kI] n_ref03_Bit ⟨[.slice s.base s.len s.cap, .int .i64 (i : Int)]⟩ w K := by
  refine ref03_Bit.ok _ _ _ _ ?_
  rw [big_eq] at hbig
  have hl := hs.1
  simp only [List.length_map, Nat.mul_one] at hl
  have e8 : i64 (Int.tdiv (i : Int) 8) = ((i / 8 : Nat) : Int) := by
    have : Int.tdiv (i : Int) 8 = ((i / 8 : Nat) : Int) := rfl
    rw [this, i64_id (by omega)]
  have m8 : Int.tmod (i : Int) 8 = ((i % 8 : Nat) : Int) := rfl
  simp only [ref03_Bit.E, e8, m8]
  refine ⟨by decide, Idx.rd hs (by omega) (by omega) fun q hq hc => ?_⟩
  have hj : i / 8 < c.length := by omega
  have hc' : w.cell? q = some (Sc.enc (.int .u8) (c.getD (i / 8) 0 : Int)) := by
    rw [hc]
    simp only [List.getElem_map, Int.toNat_natCast, vB, List.getD_eq_getElem?_getD, List.getElem?_eq_getElem hj, Option.getD_some, Sc.enc]
  have hx := getD_lt hb (i / 8)
  refine Ld.sc _ hc' ⟨by decide, ?_⟩
  generalize hX : c.getD (i / 8) 0 = x at hx
  have hR : bitAt c i = x / 2 ^ (7 - i % 8) % 2 := by unfold bitAt; rw [hX]
  rw [hR] at hK
  refine ⟨fun v k w' => w' = w ∧ ∃ n : Nat, k = ((i % 8 + n : Nat) : Int) ∧ i % 8 + n ≤ 7 ∧ v = ((x / 2 ^ n : Nat) : Int), fun _ k _ => 7 - k.toNat, ⟨rfl, 0, rfl, by omega, ?_⟩, ?_⟩
  · rw [i64_id (by omega)]; simp
  · rintro v k w' ⟨rfl, n, rfl, hn, rfl⟩
    refine IfB.mk (fun hlt => ?_) (fun hge => ?_)
    · have hlt : i % 8 + n < 7 := by have := of_decide_eq_true hlt
                                     omega
      have hd : x / 2 ^ (n + 1) ≤ x := Nat.div_le_self _ _
      have hd0 : (0 : Int) ≤ ((x / 2 ^ (n + 1) : Nat) : Int) := Int.natCast_nonneg _
      have e1 : i64 (Int.tdiv ((x / 2 ^ n : Nat) : Int) 2) = ((x / 2 ^ (n + 1) : Nat) : Int) := by
        have : Int.tdiv ((x / 2 ^ n : Nat) : Int) 2 = ((x / 2 ^ n / 2 : Nat) : Int) := rfl
        rw [this, Nat.div_div_eq_div_mul, show 2 ^ n * 2 = 2 ^ (n + 1) from (Nat.pow_succ ..).symm, i64_id (by omega)]
      rw [e1, i64_id (by omega)]
      exact ⟨by decide, ⟨rfl, n + 1, by omega, by omega, rfl⟩, by dsimp only; omega⟩
    · have hge : i % 8 + n = 7 := by have := of_decide_eq_false hge
                                     omega
      refine ⟨by decide, ?_⟩
      have : n = 7 - i % 8 := by omega
      subst this
      exact hK
end
end Go.Proofs.Ytajpnkioigcejaa
