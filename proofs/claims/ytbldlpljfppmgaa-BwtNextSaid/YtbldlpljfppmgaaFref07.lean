/-
  The formulas of the functions of this translation, printed by program: each is the verification condition of its function, and holds of no other. Conditions: none.
-/
import Derived.Test.YtbldlpljfppmgaaF
namespace Go.Proofs.Ytbldlpljfppmgaa
open Go Go.Vc
/-- winepressref07.Ints -/
def ref07_Ints.E (a1 : Sl) (b2 : Sl) (R : Bool → World → Prop) (w : World) : Prop :=
 IfB (((a1.len : Int) : Int) != ((b2.len : Int) : Int))
 (R (false) w)
 (∃ (I_3 : Int → World → Prop) (m_4 : Int → World → Nat), I_3 (0) w ∧
 ∀ (i5 : Int), ∀ (w_6 : World), I_3 i5 w_6 →
 IfB (decide ((i5 : Int) < ((a1.len : Int) : Int)))
 (Drw w_6 fun (w_7 : World) =>
 Idx a1 i5 1 fun (q8 : Addr) =>
 Ld kI q8 w_7 fun (x9 : Int) =>
 Idx b2 i5 1 fun (q10 : Addr) =>
 Ld kI q10 w_7 fun (x11 : Int) =>
 IfB ((x9 : Int) != (x11 : Int))
 (R (false) w_7)
 (I_3 ((i64 ((i5 : Int) + (1 : Int)))) w_7 ∧ m_4 ((i64 ((i5 : Int) + (1 : Int)))) w_7 < m_4 i5 w_6))
 (R (true) w_6))
theorem ref07_Ints.ok (a1 : Sl) (b2 : Sl) (R : Bool → World → Prop) (w : World) (h : ref07_Ints.E a1 b2 R w) : Cl Try.prog [kB] n_ref07_Ints ⟨[(.slice a1.base a1.len a1.cap), (.slice b2.base b2.len b2.cap)]⟩ w R :=
  calls_of_eq Try.mix Try.f37 [(.slice a1.base a1.len a1.cap), (.slice b2.base b2.len b2.cap)] [kB] R 26 [.tmp 4] (by kernel_rfl) (by kernel_rfl) (by kernel_rfl) (by kernel_rfl) (by kernel_rfl)
    (.s .o (.s (.s .o (.c (.s .o .o) .o)) (.s (.s .o (.b (.l [(5, kI)] (.s (.s .o (.c .o .o)) (.s (.b (.s .o (.c (.s .o .o) .o))) .o))))) (.s .o .o))))
    (by kernel_rfl) h
end Go.Proofs.Ytbldlpljfppmgaa
