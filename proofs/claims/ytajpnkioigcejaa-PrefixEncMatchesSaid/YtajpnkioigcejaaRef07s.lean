/-
  What Sum and Ints of the reference winepressref07 and canonical.First compute. Conditions: as each theorem states.
-/
import Derived.Test.YtajpnkioigcejaaCode
namespace Go.Proofs.Ytajpnkioigcejaa
open Go Go.Vc Go.Srt
section
variable {E w : World} {F : List HP}
set_option maxRecDepth 20000 in
theorem rsum_c {l : List Nat} {K : Int → World → Prop} (h : Hp E w F) (hl : l.length = 258) (hK : ∀ (r : Nat) w', (r ≤ 32768 ↔ ksum l ≤ 32768) → (ksum l ≤ 32768 → r = ksum l) → Hp E w' F → K (r : Int) w') :
    Cl Try.prog [kI] n_ref07_Sum ⟨[.agg (ai .u8 l)]⟩ w K := by
  refine ref07_Sum.ok _ _ _ ?_
  unfold ref07_Sum.E
  refine Nw.mk h fun b w1 h1 => ?_
  have hb := ksum_le l
  refine ⟨fun sm i w' => ∃ k : Nat, i = (k : Int) ∧ k ≤ 258 ∧ sm = (ksum (l.take k) : Int) ∧ Hp E w' (Blk b (.cells (ai .u8 l) 23 (0, 0)) :: F), fun _ i _ => 258 - i.toNat, ⟨0, rfl, by omega, by simp [ksum], h1⟩, ?_⟩
  intro sm i w' hI
  obtain ⟨k, hi, hk, hs, hh⟩ := hI
  subst hi; subst hs
  refine IfB.mk (fun hlt => ?_) (fun hge => ?_)
  · have hlt : k < 258 := by have := of_decide_eq_true hlt; omega
    have hkl : k < l.length := by omega
    have hx : (ai .u8 l)[((k : Int)).toNat]? = some (Sc.enc (.int .u8) (l[k] : Int)) := by rw [Int.toNat_natCast]; exact ai_get hkl
    have e := ksum_succ hkl
    have ht := ksum_take (l := l) (k := k + 1)
    refine IdxP.rd (s := .int .u8) hh (by omega) (by omega) (l[k] : Int) hx (IfB.mk (fun h15 => ?_) (fun h15 => ?_))
    · have h15 := of_decide_eq_true h15
      have hw : wt l[k] = 32769 := by unfold wt; rw [if_neg (by omega), if_pos (by omega)]
      exact hK 32769 w' (by omega) (by omega) hh.drop
    · have h15 : l[k] ≤ 15 := by have := of_decide_eq_false h15; omega
      refine IdxP.rd (s := .int .u8) hh (by omega) (by omega) (l[k] : Int) hx (IfB.mk (fun hp => ?_) (fun hp => ?_))
      · have hp : 0 < l[k] := by have := of_decide_eq_true hp; omega
        have hw : wt l[k] = 2 ^ (15 - l[k]) := by unfold wt; rw [if_neg (by omega), if_neg (by omega)]
        have hp15 : 2 ^ (15 - l[k]) ≤ 2 ^ 15 := Nat.pow_le_pow_right (by decide) (by omega)
        refine IdxP.rd (s := .int .u8) hh (by omega) (by omega) (l[k] : Int) hx ?_
        have e1 : u64 (i64 (15 - i64 (l[k] : Int))) = ((15 - l[k] : Nat) : Int) := by
          rw [i64_id (x := (l[k] : Int)) (by omega), i64_id (by omega), u64_id (by omega)]; omega
        have hmx : IntKind.max .i64 = 9223372036854775807 := rfl
        have e2 := ishl_nat (k := .i64) (a := 1) (b := 15 - l[k]) (by have : IntKind.bits .i64 = 64 := rfl; omega) (by rw [hmx]; omega)
        rw [e1]
        rw [show (1 : Int) = ((1 : Nat) : Int) from rfl, e2, Nat.one_mul]
        refine ⟨by omega, ?_⟩
        rw [hw] at e
        rw [i64_id (x := (ksum (l.take k) : Int) + ((2 ^ (15 - l[k]) : Nat) : Int)) (by omega), i64_id (by omega)]
        exact ⟨⟨k + 1, rfl, by omega, by rw [e]; rfl, hh⟩, by dsimp only; omega⟩
      · have hp : l[k] = 0 := by have := of_decide_eq_false hp; omega
        have hw : wt l[k] = 0 := by unfold wt; rw [if_pos hp]
        rw [i64_id (by omega)]
        exact ⟨⟨k + 1, rfl, by omega, by rw [e, hw]; rfl, hh⟩, by dsimp only; omega⟩
  · have hge : k = 258 := by have := of_decide_eq_false hge; omega
    subst hge
    rw [← hl, List.take_length]
    exact hK _ _ Iff.rfl (fun _ => rfl) hh.drop
theorem ints_c {s s2 : Sl} {a b : List Int} {K : Bool → World → Prop} (h : Hp E w F) (ha : Tells F (SlT 1 s (a.map vI))) (hb : Tells F (SlT 1 s2 (b.map vI))) (hbig : a.length ≤ big) (hK : ∀ w', Hp E w' F → K (a == b) w') :
    Cl Try.prog [kB] n_ref07_Ints ⟨[.slice s.base s.len s.cap, .slice s2.base s2.len s2.cap]⟩ w K := by
  refine ref07_Ints.ok _ _ _ _ ?_
  unfold ref07_Ints.E
  have la := (h.tells ha).1
  have lb := (h.tells hb).1
  simp only [List.length_map, Nat.mul_one] at la lb
  rw [big_eq] at hbig
  refine IfB.mk (fun hne => ?_) (fun heq => ?_)
  · have hne : ¬ (s.len : Int) = (s2.len : Int) := by simpa using hne
    have : (a == b) = false := by
      rw [beq_eq_false_iff_ne]; rintro rfl; omega
    have hk := hK w h
    rw [this] at hk; exact hk
  · have heq : (s.len : Int) = (s2.len : Int) := by simpa using heq
    refine ⟨fun i w' => ∃ k : Nat, i = (k : Int) ∧ k ≤ a.length ∧ a.take k = b.take k ∧ Hp E w' F, fun i _ => a.length - i.toNat, ⟨0, rfl, by omega, by simp, h⟩, ?_⟩
    rintro i w' ⟨k, rfl, hk, hab, hh⟩
    refine IfB.mk (fun hlt => ?_) (fun hge => ?_)
    · have hlt : k < a.length := by have := of_decide_eq_true hlt; omega
      have hltb : k < b.length := by omega
      refine Drw.mk hh fun w1 h1 => ?_
      refine Idx.rd (h1.tells ha) (by omega) (by omega) fun q hq hc => ?_
      refine Ld.sc (s := .int .i64) a[k] (by rw [hc]; simp [vI]) ?_
      refine Idx.rd (h1.tells hb) (by omega) (by omega) fun q2 hq2 hc2 => ?_
      refine Ld.sc (s := .int .i64) b[k] (by rw [hc2]; simp [vI]) ?_
      refine IfB.mk (fun hne => ?_) (fun hee => ?_)
      · have hne : ¬ a[k] = b[k] := by simpa using hne
        have : (a == b) = false := by
          rw [beq_eq_false_iff_ne]; rintro rfl; exact hne rfl
        have hk := hK w1 h1
        rw [this] at hk; exact hk
      · have hee : a[k] = b[k] := by simpa using hee
        rw [i64_id (by omega)]
        refine ⟨⟨k + 1, rfl, by omega, ?_, h1⟩, by dsimp only; omega⟩
        rw [List.take_add_one, List.take_add_one, hab, List.getElem?_eq_getElem hlt, List.getElem?_eq_getElem hltb, hee]
    · have hge : k = a.length := by have := of_decide_eq_false hge; omega
      subst hge
      rw [List.take_length, List.take_of_length_le (by omega)] at hab
      have hk := hK w' hh
      rw [hab] at hk
      simpa using hk
end
end Go.Proofs.Ytajpnkioigcejaa
