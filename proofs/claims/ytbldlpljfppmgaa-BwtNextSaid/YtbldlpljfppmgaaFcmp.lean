/-
  The formulas of the functions of this translation, printed by program: each is the verification condition of its function, and holds of no other. Conditions: none.
-/
import Derived.Test.YtbldlpljfppmgaaF
namespace Go.Proofs.Ytbldlpljfppmgaa
open Go Go.Vc
/-- cmp.Or[int] -/
def cmp_Or_int.E (vals1 : Sl) (R : Int → World → Prop) (w : World) : Prop :=
 ∃ (I_2 : Int → World → Prop) (m_3 : Int → World → Nat), I_2 (0) w ∧
 ∀ (t8_4 : Int), ∀ (w_5 : World), I_2 t8_4 w_5 →
 IfB (decide ((t8_4 : Int) < ((vals1.len : Int) : Int)))
 (Idx vals1 t8_4 1 fun (q6 : Addr) =>
 Ld kI q6 w_5 fun (x7 : Int) =>
 IfB ((x7 : Int) != (0 : Int))
 (R (x7) w_5)
 (I_2 ((i64 ((t8_4 : Int) + (1 : Int)))) w_5 ∧ m_3 ((i64 ((t8_4 : Int) + (1 : Int)))) w_5 < m_3 t8_4 w_5))
 (R (0) w_5)
theorem cmp_Or_int.ok (vals1 : Sl) (R : Int → World → Prop) (w : World) (h : cmp_Or_int.E vals1 R w) : Cl Try.prog [kI] n_cmp_Or_int ⟨[(.slice vals1.base vals1.len vals1.cap)]⟩ w R :=
  calls_of_eq Try.mix Try.f45 [(.slice vals1.base vals1.len vals1.cap)] [kI] R 18 [.tmp 2] (by kernel_rfl) (by kernel_rfl) (by kernel_rfl) (by kernel_rfl) (by kernel_rfl)
    (.s .o (.s .o (.s (.s .o (.b (.l [(8, kI)] (.s .o (.s (.c .o .o) (.s (.b (.s .o (.s .o (.c (.s .o .o) .o)))) .o)))))) (.s .o .o))))
    (by kernel_rfl) h
/-- cmp.Compare[int] -/
def cmp_Compare_int.E (x1 : Int) (y2 : Int) (R : Int → World → Prop) (w : World) : Prop :=
 Cl Try.prog [kB] n_cmp_isNaN_int ⟨[(.int .i64 x1)]⟩ w fun (r4 : Bool) (w_3 : World) =>
 Cl Try.prog [kB] n_cmp_isNaN_int ⟨[(.int .i64 y2)]⟩ w_3 fun (r6 : Bool) (w_5 : World) =>
 IfB r4
 (IfB r6
 (R (0) w_5)
 (R ((-1)) w_5))
 (IfB r6
 (R (1) w_5)
 (IfB (decide ((x1 : Int) < (y2 : Int)))
 (R ((-1)) w_5)
 (IfB (decide ((x1 : Int) > (y2 : Int)))
 (R (1) w_5)
 (R (0) w_5))))
theorem cmp_Compare_int.ok (x1 : Int) (y2 : Int) (R : Int → World → Prop) (w : World) (h : cmp_Compare_int.E x1 y2 R w) : Cl Try.prog [kI] n_cmp_Compare_int ⟨[(.int .i64 x1), (.int .i64 y2)]⟩ w R :=
  calls_of_eq Try.mix Try.f46 [(.int .i64 x1), (.int .i64 y2)] [kI] R 20 [.tmp 4] (by kernel_rfl) (by kernel_rfl) (by kernel_rfl) (by kernel_rfl) (by kernel_rfl)
    (.s .o (.s .o (.s .o (.s (.s .o (.c (.s (.s .o (.c (.s .o .o) .o)) (.s .o .o)) .o)) (.s (.s .o (.c (.s .o .o) .o)) (.s (.s .o (.c (.s .o .o) .o)) (.s (.s .o (.c (.s .o .o) .o)) (.s .o .o))))))))
    (by kernel_rfl) h
/-- cmp.isNaN[int] -/
def cmp_isNaN_int.E (x1 : Int) (R : Bool → World → Prop) (w : World) : Prop :=
 R (((x1 : Int) != (x1 : Int))) w
theorem cmp_isNaN_int.ok (x1 : Int) (R : Bool → World → Prop) (w : World) (h : cmp_isNaN_int.E x1 R w) : Cl Try.prog [kB] n_cmp_isNaN_int ⟨[(.int .i64 x1)]⟩ w R :=
  calls_of_eq Try.mix Try.f55 [(.int .i64 x1)] [kB] R 6 [.tmp 2] (by kernel_rfl) (by kernel_rfl) (by kernel_rfl) (by kernel_rfl) (by kernel_rfl)
    (.s .o (.s .o .o))
    (by kernel_rfl) h
end Go.Proofs.Ytbldlpljfppmgaa
