/-
  What Read of the reference winepressref11 computes. Conditions: as each theorem states.
-/
import Derived.Test.YtajpnkioigcejaaRef11b
namespace Go.Proofs.Ytajpnkioigcejaa
open Go Go.Vc Go.Srt Go.Bits
section
variable {E w : World} {F : List HP}
set_option maxRecDepth 20000 in
theorem rRead11_c {l : List Nat} {s : Sl} {bs : List Nat} {many : Int} {K : Sl → Int → World → Prop} (h : Hp E w F) (hl : l.length = 258) (h8 : ∀ x ∈ l, x ≤ 255) (hs : Tells F (SlT 1 s (bs.map vB))) (hb : ∀ y ∈ bs, y < 256) (hn : bs.length ≤ 100000)
    (hK1 : rdZ l bs many = none → ∀ w', Hp E w' F → K ⟨none, 0, 0⟩ 2 w') (hK2 : ∀ out, rdZ l bs many = some out → ∀ s' w', Hp E w' (OwnS 1 s' ((ints out).map vI) :: F) → K s' 0 w') :
    Cl Try.prog [kS, kI] n_ref11_Read ⟨[.agg (ai .u8 l), .slice s.base s.len s.cap, .int .i64 many]⟩ w K := by
  refine ref11_Read.ok _ _ _ _ _ ?_
  unfold ref11_Read.E
  simp only [Join_eq]
  have hsl := (h.tells hs).1
  simp only [List.length_map, Nat.mul_one] at hsl
  refine Nw.mk h fun b5 w1 h1 => ?_
  refine Ld.arr h1 (by rw [ai_size, hl]) ?_
  refine rValid9_c h1 hl fun w2 h2 => ?_
  refine IfB.mk (fun hv => hK1 (by unfold rdZ; rw [if_neg (fun hh => by simp [hh.1] at hv)]) w2 h2.drop) (fun hv => ?_)
  have hv : ksum l ≤ 32768 := by simpa using hv
  refine IfB.mk (fun hneg => hK1 (by unfold rdZ; rw [if_neg (fun hh => by have := of_decide_eq_true hneg; omega)]) w2 h2.drop) (fun hneg => ?_)
  have hneg := of_decide_eq_false hneg
  rw [i64_id (x := 8 * (s.len : Int)) (by omega)]
  refine IfB.mk (fun hgt => hK1 (by unfold rdZ; rw [if_neg (fun hh => by have := of_decide_eq_true hgt; omega)]) w2 h2.drop) (fun hgt => ?_)
  have hgt := of_decide_eq_false hgt
  obtain ⟨m, rfl⟩ : ∃ m : Nat, many = (m : Int) := ⟨many.toNat, by omega⟩
  have hr : rdZ l bs (m : Int) = rdS l (bitsOf bs m) 0 0 [] := by unfold rdZ; rw [if_pos ⟨hv, by omega, by omega⟩, Int.toNat_natCast]
  rw [hr] at hK1 hK2
  generalize hrr : rdS l (bitsOf bs m) 0 0 [] = r at hK1 hK2
  refine ⟨fun out c n t w' => ∃ (k c' n' : Nat) (acc : List Nat), t = (k : Int) ∧ c = (c' : Int) ∧ n = (n' : Int) ∧ k ≤ m ∧ n' ≤ 15 ∧ c' < 2 ^ n' ∧ acc.length ≤ k ∧ rdS l ((bitsOf bs m).drop k) c' n' acc = r ∧
      Hp E w' (OwnS 1 out ((ints acc).map vI) :: Blk b5 (.cells (ai .u8 l) 23 (0, 0)) :: F), fun _ _ _ t _ => m - t.toNat, ⟨0, 0, 0, [], rfl, rfl, rfl, by omega, by omega, by decide, by simp, by rw [List.drop_zero]; exact hrr, h2.ownNil 1⟩, ?_⟩
  rintro out _ _ _ w3 ⟨k, c, n, acc, rfl, rfl, rfl, hkm, hn15, hc, hacc, hr2, hh⟩
  have hol := hh.ownLen
  simp only [ints, List.length_map, Nat.mul_one] at hol
  refine IfB.mk (fun hlt => ?_) (fun hge => ?_)
  · have hlt : k < m := by have := of_decide_eq_true hlt; omega
    have hlb : k < (bitsOf bs m).length := by rw [bitsOf_len]; exact hlt
    have hx := bitAt_lt bs k
    rw [List.drop_eq_getElem_cons hlb, bitsOf_at hlb, rdS] at hr2
    have hp : 2 ^ n ≤ 2 ^ 15 := Nat.pow_le_pow_right (by decide) hn15
    have hp2 : (2 : Nat) ^ 15 = 32768 := by decide
    have hpn : 2 ^ (n + 1) = 2 * 2 ^ n := by rw [Nat.pow_succ, Nat.mul_comm]
    refine bit_c (c := bs) (i := k) (hh.tells (Tells.cons (Tells.cons hs))) (by omega) hb (by rw [big_eq]; omega) ?_
    refine Ld.arr hh.p1 (by rw [ai_size, hl]) ?_
    have ec : u32 ((u32 (2 * (c : Int)) : Int) + u32 (bitAt bs k : Int)) = ((2 * c + bitAt bs k : Nat) : Int) := by
      rw [u32_id (x := 2 * (c : Int)) (by omega), u32_id (x := (bitAt bs k : Int)) (by omega), u32_id (by omega)]; omega
    rw [ec, i64_id (x := (n : Int) + 1) (by omega), i64_id (x := (k : Int) + 1) (by omega)]
    refine rFind9_c (c := 2 * c + bitAt bs k) (n := n + 1) hh hl h8 hv fun w4 h4 => ?_
    cases hf : findS l (2 * c + bitAt bs k) (n + 1) with
    | none =>
      rw [hf] at hr2
      simp only at hr2
      refine IfB.f rfl (IfB.mk (fun h15 => ?_) (fun h15 => ?_))
      · have h15 := of_decide_eq_true h15
        rw [if_pos (by omega)] at hr2
        exact hK1 hr2.symm w4 h4.drop.drop
      · have h15 := of_decide_eq_false h15
        rw [if_neg (by omega)] at hr2
        exact ⟨⟨k + 1, 2 * c + bitAt bs k, n + 1, acc, by omega, rfl, by omega, by omega, by omega, by omega, by omega, hr2, h4⟩, by dsimp only; omega⟩
    | some sy =>
      rw [hf] at hr2
      simp only at hr2
      refine IfB.t rfl (Nw.mk h4 fun b25 w5 h5 => ?_)
      refine run_append (s := out) (ys := [vI (sy : Int)]) (n := 1) ty_ints (by decide) (.inl ⟨3, by kernel_rfl⟩) h5.p1 (.inl ⟨some ⟨b25, 0, none⟩, 1, 1, rfl, rfl, h5.tells (Tells.blk rfl rfl)⟩) rfl one_scalar (by omega) (by omega) fun s' w6 h6 hs' => ?_
      refine IfB.f (by decide) ⟨⟨k + 1, 0, 0, acc ++ [sy], by omega, rfl, rfl, by omega, by omega, by decide, by simp; omega, hr2, ?_⟩, by dsimp only; omega⟩
      rw [ints_app, List.map_append]
      exact h6.p1.drop
  · have hge : k = m := by have := of_decide_eq_false hge; omega
    subst hge
    rw [List.drop_of_length_le (by rw [bitsOf_len]; exact Nat.le_refl _), rdS] at hr2
    refine IfB.mk (fun hp => ?_) (fun hp => ?_)
    · have hp := of_decide_eq_true hp
      rw [if_neg (by omega)] at hr2
      exact hK1 hr2.symm w3 hh.drop.drop
    · have hp := of_decide_eq_false hp
      rw [if_pos (by omega)] at hr2
      exact hK2 acc hr2.symm out w3 hh.p1.drop
end
end Go.Proofs.Ytajpnkioigcejaa
