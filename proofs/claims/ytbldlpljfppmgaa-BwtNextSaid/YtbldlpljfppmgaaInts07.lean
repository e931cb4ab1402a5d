/-
  The comparison of slices of numbers (winepressref07.Ints). Conditions: as each theorem states.
-/
import Derived.Test.YtbldlpljfppmgaaAT
import Derived.Test.YtbldlpljfppmgaaFref07
namespace Go.Proofs.Ytbldlpljfppmgaa
open Go Go.Vc
section
variable {E w : World} {F : List HP}
theorem ints07_c {s s2 : Sl} {a b : List Int} {K : Bool → World → Prop} (h : Hp E w F) (ha : Tells F (SlT 1 s (a.map vI))) (hb : Tells F (SlT 1 s2 (b.map vI))) (hbig : a.length ≤ big) (hK : ∀ w', Hp E w' F → K (a == b) w') :
    Cl Try.prog [kB] n_ref07_Ints ⟨[.slice s.base s.len s.cap, .slice s2.base s2.len s2.cap]⟩ w K := by
  refine ref07_Ints.ok _ _ _ _ ?_
  unfold ref07_Ints.E
  have la := (h.tells ha).1
  have lb := (h.tells hb).1
  simp only [List.length_map, Nat.mul_one] at la lb
  rw [big_eq] at hbig
  refine IfB.mk (fun hne => ?_) (fun heq => ?_)
  · have hne : ¬ (s.len : Int) = (s2.len : Int) := by simpa using hne
    have : (a == b) = false := by
      rw [beq_eq_false_iff_ne]; rintro rfl; omega
    have hk := hK w h
    rw [this] at hk; exact hk
  · have heq : (s.len : Int) = (s2.len : Int) := by simpa using heq
    refine ⟨fun i w' => ∃ k : Nat, i = (k : Int) ∧ k ≤ a.length ∧ a.take k = b.take k ∧ Hp E w' F, fun i _ => a.length - i.toNat, ⟨0, rfl, by omega, by simp, h⟩, ?_⟩
    rintro i w' ⟨k, rfl, hk, hab, hh⟩
    refine IfB.mk (fun hlt => ?_) (fun hge => ?_)
    · have hlt : k < a.length := by have := of_decide_eq_true hlt; omega
      have hltb : k < b.length := by omega
      refine Drw.mk hh fun w1 h1 => ?_
      refine Idx.rd (h1.tells ha) (by omega) (by omega) fun q hq hc => ?_
      refine Ld.sc (s := .int .i64) a[k] (by rw [hc]; simp [vI]) ?_
      refine Idx.rd (h1.tells hb) (by omega) (by omega) fun q2 hq2 hc2 => ?_
      refine Ld.sc (s := .int .i64) b[k] (by rw [hc2]; simp [vI]) ?_
      refine IfB.mk (fun hne => ?_) (fun hee => ?_)
      · have hne : ¬ a[k] = b[k] := by simpa using hne
        have : (a == b) = false := by
          rw [beq_eq_false_iff_ne]; rintro rfl; exact hne rfl
        have hk := hK w1 h1
        rw [this] at hk; exact hk
      · have hee : a[k] = b[k] := by simpa using hee
        rw [i64_id (by omega)]
        refine ⟨⟨k + 1, rfl, by omega, ?_, h1⟩, by dsimp only; omega⟩
        rw [List.take_add_one, List.take_add_one, hab, List.getElem?_eq_getElem hlt, List.getElem?_eq_getElem hltb, hee]
    · have hge : k = a.length := by have := of_decide_eq_false hge; omega
      subst hge
      rw [List.take_length, List.take_of_length_le (by omega)] at hab
      have hk := hK w' hh
      rw [hab] at hk
      simpa using hk
end
end Go.Proofs.Ytbldlpljfppmgaa
