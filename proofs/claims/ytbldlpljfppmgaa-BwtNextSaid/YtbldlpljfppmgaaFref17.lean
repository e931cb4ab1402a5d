/-
  The formulas of the functions of this translation, printed by program: each is the verification condition of its function, and holds of no other. Conditions: none.
-/
import Derived.Test.YtbldlpljfppmgaaF
namespace Go.Proofs.Ytbldlpljfppmgaa
open Go Go.Vc
set_option maxRecDepth 100000 in
/-- winepressref17.Turn -/
def ref17_Turn.E (text1 : Sl) (R : Sl → Int → World → Prop) (w : World) : Prop :=
 Cl Try.prog [kS] n_ref17_Order ⟨[(.slice text1.base text1.len text1.cap)]⟩ w fun (r3 : Sl) (w_2 : World) =>
 ∃ (I_4 : Sl → Int → Int → World → Prop) (m_5 : Sl → Int → Int → World → Nat), I_4 ((⟨none, 0, 0⟩ : Sl)) (0) (0) w_2 ∧
 ∀ (last6 : Sl) (index7 : Int) (row8 : Int), ∀ (w_9 : World), I_4 last6 index7 row8 w_9 →
 IfB (decide ((row8 : Int) < ((r3.len : Int) : Int)))
 (Idx r3 row8 1 fun (q10 : Addr) =>
 Ld kI q10 w_9 fun (x11 : Int) =>
 IfB ((x11 : Int) == (0 : Int))
 (I_4 (last6) (row8) ((i64 ((row8 : Int) + (1 : Int)))) w_9 ∧ m_5 (last6) (row8) ((i64 ((row8 : Int) + (1 : Int)))) w_9 < m_5 last6 index7 row8 w_9)
 (Idx r3 row8 1 fun (q12 : Addr) =>
 Ld kI q12 w_9 fun (x13 : Int) =>
 Idx text1 (i64 ((x13 : Int) - (1 : Int))) 1 fun (q14 : Addr) =>
 Ld (kInt .u8) q14 w_9 fun (x15 : Int) =>
 Nw 5 ⟨[(.int .u8 x15)]⟩ w_9 fun (b17 : Nat) (w_16 : World) =>
 Run Try.prog (Builtin.append_ #[42, 42] 42 ⟨[(.slice last6.base last6.len last6.cap), (.slice (⟨some ⟨b17, 0, none⟩, 1, 1⟩ : Sl).base (⟨some ⟨b17, 0, none⟩, 1, 1⟩ : Sl).len (⟨some ⟨b17, 0, none⟩, 1, 1⟩ : Sl).cap)]⟩) kS w_16 fun (s19 : Sl) (w_18 : World) =>
 I_4 (s19) (index7) ((i64 ((row8 : Int) + (1 : Int)))) w_18 ∧ m_5 (s19) (index7) ((i64 ((row8 : Int) + (1 : Int)))) w_18 < m_5 last6 index7 row8 w_9))
 (R (last6) (index7) w_9)
set_option maxRecDepth 100000 in
theorem ref17_Turn.ok (text1 : Sl) (R : Sl → Int → World → Prop) (w : World) (h : ref17_Turn.E text1 R w) : Cl Try.prog [kS, kI] n_ref17_Turn ⟨[(.slice text1.base text1.len text1.cap)]⟩ w R :=
  calls_of_eq Try.mix Try.f30 [(.slice text1.base text1.len text1.cap)] [kS, kI] R 35 [.tmp 2, .tmp 3] (by kernel_rfl) (by kernel_rfl) (by kernel_rfl) (by kernel_rfl) (by kernel_rfl)
    (.s .o (.s .o (.s .o (.s .o (.s (.s .o (.b (.l [(4, kS), (5, kI), (7, kI)] (.s (.s .o (.c .o .o)) (.s (.b (.s .o (.c .o .o))) .o))))) (.s .o .o))))))
    (by kernel_rfl) h
set_option maxRecDepth 100000 in
/-- winepressref17.Next -/
def ref17_Next.E (last1 : Sl) (index2 : Int) (row3 : Int) (R : Int → Int → Bool → World → Prop) (w : World) : Prop :=
 Join (fun (w_5 : World) =>
 Join (fun (at_7 : Int) (w_8 : World) =>
 ∃ (I_9 : Int → Int → World → Prop) (m_10 : Int → Int → World → Nat), I_9 (1) (0) w_8 ∧
 ∀ (n11 : Int) (i12 : Int), ∀ (w_13 : World), I_9 n11 i12 w_13 →
 IfB (decide ((i12 : Int) < ((last1.len : Int) : Int)))
 (Drw w_13 fun (w_14 : World) =>
 Idx last1 i12 1 fun (q15 : Addr) =>
 Ld (kInt .u8) q15 w_14 fun (x16 : Int) =>
 Idx last1 at_7 1 fun (q17 : Addr) =>
 Ld (kInt .u8) q17 w_14 fun (x18 : Int) =>
 IfB (decide ((x16 : Int) < (x18 : Int)))
 (I_9 ((i64 ((n11 : Int) + (1 : Int)))) ((i64 ((i12 : Int) + (1 : Int)))) w_14 ∧ m_10 ((i64 ((n11 : Int) + (1 : Int)))) ((i64 ((i12 : Int) + (1 : Int)))) w_14 < m_10 n11 i12 w_13)
 (Idx last1 i12 1 fun (q19 : Addr) =>
 Ld (kInt .u8) q19 w_14 fun (x20 : Int) =>
 Idx last1 at_7 1 fun (q21 : Addr) =>
 Ld (kInt .u8) q21 w_14 fun (x22 : Int) =>
 IfB ((x20 : Int) == (x22 : Int))
 (IfB (decide ((i12 : Int) < (at_7 : Int)))
 (I_9 ((i64 ((n11 : Int) + (1 : Int)))) ((i64 ((i12 : Int) + (1 : Int)))) w_14 ∧ m_10 ((i64 ((n11 : Int) + (1 : Int)))) ((i64 ((i12 : Int) + (1 : Int)))) w_14 < m_10 n11 i12 w_13)
 (I_9 (n11) ((i64 ((i12 : Int) + (1 : Int)))) w_14 ∧ m_10 (n11) ((i64 ((i12 : Int) + (1 : Int)))) w_14 < m_10 n11 i12 w_13))
 (I_9 (n11) ((i64 ((i12 : Int) + (1 : Int)))) w_14 ∧ m_10 (n11) ((i64 ((i12 : Int) + (1 : Int)))) w_14 < m_10 n11 i12 w_13)))
 (Drw w_13 fun (w_23 : World) =>
 Idx last1 at_7 1 fun (q24 : Addr) =>
 Ld (kInt .u8) q24 w_23 fun (x25 : Int) =>
 R (n11) (x25) (true) w_23)) fun (K_6 : Int → World → Prop) =>
 IfB (decide ((row3 : Int) > (index2 : Int)))
 (K_6 ((i64 ((row3 : Int) - (1 : Int)))) w_5)
 (K_6 (row3) w_5)) fun (K_4 : World → Prop) =>
 IfB (decide ((index2 : Int) < (0 : Int)))
 (R (0) (0) (false) w)
 (IfB (decide ((index2 : Int) > ((last1.len : Int) : Int)))
 (R (0) (0) (false) w)
 (IfB (decide ((row3 : Int) < (0 : Int)))
 (R (0) (0) (false) w)
 (IfB (decide ((row3 : Int) > ((last1.len : Int) : Int)))
 (R (0) (0) (false) w)
 (IfB ((row3 : Int) == (index2 : Int))
 (R (0) (0) (false) w)
 (K_4  w)))))
set_option maxRecDepth 100000 in
theorem ref17_Next.ok (last1 : Sl) (index2 : Int) (row3 : Int) (R : Int → Int → Bool → World → Prop) (w : World) (h : ref17_Next.E last1 index2 row3 R w) : Cl Try.prog [kI, (kInt .u8), kB] n_ref17_Next ⟨[(.slice last1.base last1.len last1.cap), (.int .i64 index2), (.int .i64 row3)]⟩ w R :=
  calls_of_eq Try.mix Try.f32 [(.slice last1.base last1.len last1.cap), (.int .i64 index2), (.int .i64 row3)] [kI, (kInt .u8), kB] R 79 [.tmp 6, .tmp 7, .tmp 8] (by kernel_rfl) (by kernel_rfl) (by kernel_rfl) (by kernel_rfl) (by kernel_rfl)
    (.s .o (.j [] (.s .o (.c (.s .o .o) .o)) (.s .o (.j [(9, kI)] (.s .o (.c .o .o)) (.s .o (.s (.s .o (.b (.l [(10, kI), (11, kI)] (.s (.s .o (.c .o .o)) (.s (.b (.s .o (.c .o .o))) .o))))) (.s .o .o)))))))
    (by kernel_rfl) h
set_option maxRecDepth 100000 in
/-- winepressref17.Back -/
def ref17_Back.E (last1 : Sl) (index2 : Int) (R : Sl → Int → World → Prop) (w : World) : Prop :=
 Join (fun (w_4 : World) =>
 Cl Try.prog [kS] n_ref17_After ⟨[(.slice last1.base last1.len last1.cap)]⟩ w_4 fun (r6 : Sl) (w_5 : World) =>
 ∃ (I_7 : Sl → Int → Int → World → Prop) (m_8 : Sl → Int → Int → World → Nat), I_7 ((⟨none, 0, 0⟩ : Sl)) (0) (0) w_5 ∧
 ∀ (text9 : Sl) (row10 : Int) (i11 : Int), ∀ (w_12 : World), I_7 text9 row10 i11 w_12 →
 IfB (decide ((i11 : Int) < ((last1.len : Int) : Int)))
 (IfB ((row10 : Int) == (index2 : Int))
 (R ((⟨none, 0, 0⟩ : Sl)) (170) w_12)
 (IfB (decide ((row10 : Int) > (index2 : Int)))
 (Idx last1 (i64 ((row10 : Int) - (1 : Int))) 1 fun (q13 : Addr) =>
 Ld (kInt .u8) q13 w_12 fun (x14 : Int) =>
 Nw 5 ⟨[(.int .u8 x14)]⟩ w_12 fun (b16 : Nat) (w_15 : World) =>
 Run Try.prog (Builtin.append_ #[42, 42] 42 ⟨[(.slice text9.base text9.len text9.cap), (.slice (⟨some ⟨b16, 0, none⟩, 1, 1⟩ : Sl).base (⟨some ⟨b16, 0, none⟩, 1, 1⟩ : Sl).len (⟨some ⟨b16, 0, none⟩, 1, 1⟩ : Sl).cap)]⟩) kS w_15 fun (s18 : Sl) (w_17 : World) =>
 Idx r6 (i64 ((row10 : Int) - (1 : Int))) 1 fun (q19 : Addr) =>
 Ld kI q19 w_17 fun (x20 : Int) =>
 I_7 (s18) (x20) ((i64 ((i11 : Int) + (1 : Int)))) w_17 ∧ m_8 (s18) (x20) ((i64 ((i11 : Int) + (1 : Int)))) w_17 < m_8 text9 row10 i11 w_12)
 (Idx last1 row10 1 fun (q21 : Addr) =>
 Ld (kInt .u8) q21 w_12 fun (x22 : Int) =>
 Nw 5 ⟨[(.int .u8 x22)]⟩ w_12 fun (b24 : Nat) (w_23 : World) =>
 Run Try.prog (Builtin.append_ #[42, 42] 42 ⟨[(.slice text9.base text9.len text9.cap), (.slice (⟨some ⟨b24, 0, none⟩, 1, 1⟩ : Sl).base (⟨some ⟨b24, 0, none⟩, 1, 1⟩ : Sl).len (⟨some ⟨b24, 0, none⟩, 1, 1⟩ : Sl).cap)]⟩) kS w_23 fun (s26 : Sl) (w_25 : World) =>
 Idx r6 row10 1 fun (q27 : Addr) =>
 Ld kI q27 w_25 fun (x28 : Int) =>
 I_7 (s26) (x28) ((i64 ((i11 : Int) + (1 : Int)))) w_25 ∧ m_8 (s26) (x28) ((i64 ((i11 : Int) + (1 : Int)))) w_25 < m_8 text9 row10 i11 w_12)))
 (IfB ((row10 : Int) != (index2 : Int))
 (R ((⟨none, 0, 0⟩ : Sl)) (170) w_12)
 (Cl Try.prog [kS] n_ref17_Turned ⟨[(.slice text9.base text9.len text9.cap)]⟩ w_12 fun (r30 : Sl) (w_29 : World) =>
 R (r30) (0) w_29))) fun (K_3 : World → Prop) =>
 IfB (decide ((index2 : Int) < (0 : Int)))
 (R ((⟨none, 0, 0⟩ : Sl)) (170) w)
 (IfB (decide ((index2 : Int) > ((last1.len : Int) : Int)))
 (R ((⟨none, 0, 0⟩ : Sl)) (170) w)
 (IfB ((index2 : Int) == (0 : Int))
 (IfB (decide (((last1.len : Int) : Int) > (0 : Int)))
 (R ((⟨none, 0, 0⟩ : Sl)) (170) w)
 (K_3  w))
 (K_3  w)))
set_option maxRecDepth 100000 in
theorem ref17_Back.ok (last1 : Sl) (index2 : Int) (R : Sl → Int → World → Prop) (w : World) (h : ref17_Back.E last1 index2 R w) : Cl Try.prog [kS, kI] n_ref17_Back ⟨[(.slice last1.base last1.len last1.cap), (.int .i64 index2)]⟩ w R :=
  calls_of_eq Try.mix Try.f34 [(.slice last1.base last1.len last1.cap), (.int .i64 index2)] [kS, kI] R 61 [.tmp 4, .tmp 5] (by kernel_rfl) (by kernel_rfl) (by kernel_rfl) (by kernel_rfl) (by kernel_rfl)
    (.s .o (.j [] (.s .o (.c (.s .o .o) .o)) (.s .o (.s .o (.s .o (.s (.s .o (.b (.l [(7, kS), (8, kI), (9, kI)] (.s (.s .o (.c .o .o)) (.s (.b (.s (.s .o (.c (.s .o .o) .o)) (.s .o (.s (.s .o (.c .o .o)) (.s .o .o))))) .o))))) (.s (.s .o (.c (.s .o .o) .o)) (.s .o .o))))))))
    (by kernel_rfl) h
set_option maxRecDepth 100000 in
/-- winepressref17.Less -/
def ref17_Less.E (text1 : Sl) (i2 : Int) (k3 : Int) (R : Bool → World → Prop) (w : World) : Prop :=
 Join (fun (w_5 : World) =>
 Join (fun (i17 : Int) (k18 : Int) (w_19 : World) =>
 IfB ((i17 : Int) == (k18 : Int))
 (R (false) w_19)
 (IfB ((k18 : Int) == ((text1.len : Int) : Int))
 (R (false) w_19)
 (Drw w_19 fun (w_20 : World) =>
 IfB ((i17 : Int) == ((text1.len : Int) : Int))
 (R (true) w_20)
 (Idx text1 i17 1 fun (q21 : Addr) =>
 Ld (kInt .u8) q21 w_20 fun (x22 : Int) =>
 Idx text1 k18 1 fun (q23 : Addr) =>
 Ld (kInt .u8) q23 w_20 fun (x24 : Int) =>
 R ((decide ((x22 : Int) < (x24 : Int)))) w_20)))) fun (K_6 : Int → Int → World → Prop) =>
 ∃ (I_7 : Int → Int → World → Prop) (m_8 : Int → Int → World → Nat), I_7 (i2) (k3) w_5 ∧
 ∀ (i9 : Int) (k10 : Int), ∀ (w_11 : World), I_7 i9 k10 w_11 →
 Drw w_11 fun (w_12 : World) =>
 IfB (decide ((i9 : Int) < ((text1.len : Int) : Int)))
 (IfB (decide ((k10 : Int) < ((text1.len : Int) : Int)))
 (Idx text1 i9 1 fun (q13 : Addr) =>
 Ld (kInt .u8) q13 w_12 fun (x14 : Int) =>
 Idx text1 k10 1 fun (q15 : Addr) =>
 Ld (kInt .u8) q15 w_12 fun (x16 : Int) =>
 IfB ((x14 : Int) == (x16 : Int))
 (IfB ((i9 : Int) != (k10 : Int))
 (I_7 ((i64 ((i9 : Int) + (1 : Int)))) ((i64 ((k10 : Int) + (1 : Int)))) w_12 ∧ m_8 ((i64 ((i9 : Int) + (1 : Int)))) ((i64 ((k10 : Int) + (1 : Int)))) w_12 < m_8 i9 k10 w_11)
 (K_6 (i9) (k10) w_12))
 (K_6 (i9) (k10) w_12))
 (K_6 (i9) (k10) w_12))
 (K_6 (i9) (k10) w_12)) fun (K_4 : World → Prop) =>
 IfB (decide ((i2 : Int) < (0 : Int)))
 (R (false) w)
 (IfB (decide ((i2 : Int) > ((text1.len : Int) : Int)))
 (R (false) w)
 (IfB (decide ((k3 : Int) < (0 : Int)))
 (R (false) w)
 (IfB (decide ((k3 : Int) > ((text1.len : Int) : Int)))
 (R (false) w)
 (K_4  w))))
set_option maxRecDepth 100000 in
theorem ref17_Less.ok (text1 : Sl) (i2 : Int) (k3 : Int) (R : Bool → World → Prop) (w : World) (h : ref17_Less.E text1 i2 k3 R w) : Cl Try.prog [kB] n_ref17_Less ⟨[(.slice text1.base text1.len text1.cap), (.int .i64 i2), (.int .i64 k3)]⟩ w R :=
  calls_of_eq Try.mix Try.f36 [(.slice text1.base text1.len text1.cap), (.int .i64 i2), (.int .i64 k3)] [kB] R 79 [.tmp 6] (by kernel_rfl) (by kernel_rfl) (by kernel_rfl) (by kernel_rfl) (by kernel_rfl)
    (.s .o (.j [] (.s .o (.c (.s .o .o) .o)) (.j [(1, kI), (2, kI)] (.b (.l [(1, kI), (2, kI)] (.s (.s .o (.c .o .o)) (.b (.s .o .o))))) (.s (.s .o (.c (.s .o .o) .o)) (.s .o .o)))))
    (by kernel_rfl) h
set_option maxRecDepth 100000 in
/-- winepressref17.Order -/
def ref17_Order.E (text1 : Sl) (R : Sl → World → Prop) (w : World) : Prop :=
 ∃ (I_2 : Sl → Int → World → Prop) (m_3 : Sl → Int → World → Nat), I_2 ((⟨none, 0, 0⟩ : Sl)) (0) w ∧
 ∀ (out4 : Sl) (i5 : Int), ∀ (w_6 : World), I_2 out4 i5 w_6 →
 IfB (decide ((i5 : Int) ≤ ((text1.len : Int) : Int)))
 (∃ (I_7 : Int → World → Prop) (m_8 : Int → World → Nat), I_7 ((out4.len : Int)) w_6 ∧
 ∀ (k9 : Int), ∀ (w_10 : World), I_7 k9 w_10 →
 IfB (decide ((k9 : Int) > (0 : Int)))
 (Idx out4 (i64 ((k9 : Int) - (1 : Int))) 1 fun (q11 : Addr) =>
 Ld kI q11 w_10 fun (x12 : Int) =>
 Cl Try.prog [kB] n_ref17_Less ⟨[(.slice text1.base text1.len text1.cap), (.int .i64 i5), (.int .i64 x12)]⟩ w_10 fun (r14 : Bool) (w_13 : World) =>
 IfB r14
 (I_7 ((i64 ((k9 : Int) - (1 : Int)))) w_13 ∧ m_8 ((i64 ((k9 : Int) - (1 : Int)))) w_13 < m_8 k9 w_10)
 (Slc out4 0 k9 (out4).cap 1 fun (s15 : Sl) =>
 Run Try.prog (Builtin.append_ #[24, 24] 24 ⟨[(.slice none 0 0), (.slice s15.base s15.len s15.cap)]⟩) kS w_13 fun (s17 : Sl) (w_16 : World) =>
 Nw 3 ⟨[(.int .i64 i5)]⟩ w_16 fun (b19 : Nat) (w_18 : World) =>
 Run Try.prog (Builtin.append_ #[24, 24] 24 ⟨[(.slice s17.base s17.len s17.cap), (.slice (⟨some ⟨b19, 0, none⟩, 1, 1⟩ : Sl).base (⟨some ⟨b19, 0, none⟩, 1, 1⟩ : Sl).len (⟨some ⟨b19, 0, none⟩, 1, 1⟩ : Sl).cap)]⟩) kS w_18 fun (s21 : Sl) (w_20 : World) =>
 Slc out4 k9 (out4).len (out4).cap 1 fun (s22 : Sl) =>
 Run Try.prog (Builtin.append_ #[24, 24] 24 ⟨[(.slice s21.base s21.len s21.cap), (.slice s22.base s22.len s22.cap)]⟩) kS w_20 fun (s24 : Sl) (w_23 : World) =>
 I_2 (s24) ((i64 ((i5 : Int) + (1 : Int)))) w_23 ∧ m_3 (s24) ((i64 ((i5 : Int) + (1 : Int)))) w_23 < m_3 out4 i5 w_6))
 (Slc out4 0 k9 (out4).cap 1 fun (s25 : Sl) =>
 Run Try.prog (Builtin.append_ #[24, 24] 24 ⟨[(.slice none 0 0), (.slice s25.base s25.len s25.cap)]⟩) kS w_10 fun (s27 : Sl) (w_26 : World) =>
 Nw 3 ⟨[(.int .i64 i5)]⟩ w_26 fun (b29 : Nat) (w_28 : World) =>
 Run Try.prog (Builtin.append_ #[24, 24] 24 ⟨[(.slice s27.base s27.len s27.cap), (.slice (⟨some ⟨b29, 0, none⟩, 1, 1⟩ : Sl).base (⟨some ⟨b29, 0, none⟩, 1, 1⟩ : Sl).len (⟨some ⟨b29, 0, none⟩, 1, 1⟩ : Sl).cap)]⟩) kS w_28 fun (s31 : Sl) (w_30 : World) =>
 Slc out4 k9 (out4).len (out4).cap 1 fun (s32 : Sl) =>
 Run Try.prog (Builtin.append_ #[24, 24] 24 ⟨[(.slice s31.base s31.len s31.cap), (.slice s32.base s32.len s32.cap)]⟩) kS w_30 fun (s34 : Sl) (w_33 : World) =>
 I_2 (s34) ((i64 ((i5 : Int) + (1 : Int)))) w_33 ∧ m_3 (s34) ((i64 ((i5 : Int) + (1 : Int)))) w_33 < m_3 out4 i5 w_6))
 (R (out4) w_6)
set_option maxRecDepth 100000 in
theorem ref17_Order.ok (text1 : Sl) (R : Sl → World → Prop) (w : World) (h : ref17_Order.E text1 R w) : Cl Try.prog [kS] n_ref17_Order ⟨[(.slice text1.base text1.len text1.cap)]⟩ w R :=
  calls_of_eq Try.mix Try.f39 [(.slice text1.base text1.len text1.cap)] [kS] R 44 [.tmp 2] (by kernel_rfl) (by kernel_rfl) (by kernel_rfl) (by kernel_rfl) (by kernel_rfl)
    (.s .o (.s .o (.s (.s .o (.b (.l [(3, kS), (4, kI)] (.s (.s .o (.c .o .o)) (.s (.b (.s .o (.s (.b (.l [(5, kI)] (.s (.s .o (.c .o .o)) (.b .o)))) (.s .o (.s .o (.s .o .o)))))) .o))))) (.s .o .o))))
    (by kernel_rfl) h
/-- winepressref17.Valid -/
def ref17_Valid.E (last1 : Sl) (index2 : Int) (R : Bool → World → Prop) (w : World) : Prop :=
 Cl Try.prog [kS, kI] n_ref17_Back ⟨[(.slice last1.base last1.len last1.cap), (.int .i64 index2)]⟩ w fun (r4 : Sl) (r5 : Int) (w_3 : World) =>
 R (((r5 : Int) == (0 : Int))) w_3
theorem ref17_Valid.ok (last1 : Sl) (index2 : Int) (R : Bool → World → Prop) (w : World) (h : ref17_Valid.E last1 index2 R w) : Cl Try.prog [kB] n_ref17_Valid ⟨[(.slice last1.base last1.len last1.cap), (.int .i64 index2)]⟩ w R :=
  calls_of_eq Try.mix Try.f41 [(.slice last1.base last1.len last1.cap), (.int .i64 index2)] [kB] R 15 [.tmp 4] (by kernel_rfl) (by kernel_rfl) (by kernel_rfl) (by kernel_rfl) (by kernel_rfl)
    (.s .o (.s .o (.s .o .o)))
    (by kernel_rfl) h
set_option maxRecDepth 100000 in
/-- winepressref17.After -/
def ref17_After.E (last1 : Sl) (R : Sl → World → Prop) (w : World) : Prop :=
 Nw 53 ⟨List.replicate 256 (.int .i64 0)⟩ w fun (b3 : Nat) (w_2 : World) =>
 Nw 53 ⟨List.replicate 256 (.int .i64 0)⟩ w_2 fun (b5 : Nat) (w_4 : World) =>
 ∃ (I_6 : Int → World → Prop) (m_7 : Int → World → Nat), I_6 (0) w_4 ∧
 ∀ (i8 : Int), ∀ (w_9 : World), I_6 i8 w_9 →
 IfB (decide ((i8 : Int) < ((last1.len : Int) : Int)))
 (Idx last1 i8 1 fun (q10 : Addr) =>
 Ld (kInt .u8) q10 w_9 fun (x11 : Int) =>
 ∃ (I_12 : Int → World → Prop) (m_13 : Int → World → Nat), I_12 ((i64 (((i64 x11) : Int) + (1 : Int)))) w_9 ∧
 ∀ (c14 : Int), ∀ (w_15 : World), I_12 c14 w_15 →
 IfB (decide ((c14 : Int) < (256 : Int)))
 (IdxP (⟨b3, 0, none⟩ : Addr) 256 c14 1 fun (q16 : Addr) =>
 Ld kI q16 w_15 fun (x17 : Int) =>
 IdxP (⟨b3, 0, none⟩ : Addr) 256 c14 1 fun (q18 : Addr) =>
 St q18 (.int .i64 (i64 ((x17 : Int) + (1 : Int)))) w_15 fun (w_19 : World) =>
 I_12 ((i64 ((c14 : Int) + (1 : Int)))) w_19 ∧ m_13 ((i64 ((c14 : Int) + (1 : Int)))) w_19 < m_13 c14 w_15)
 (I_6 ((i64 ((i8 : Int) + (1 : Int)))) w_15 ∧ m_7 ((i64 ((i8 : Int) + (1 : Int)))) w_15 < m_7 i8 w_9))
 (∃ (I_20 : Sl → Int → World → Prop) (m_21 : Sl → Int → World → Nat), I_20 ((⟨none, 0, 0⟩ : Sl)) (0) w_9 ∧
 ∀ (out22 : Sl) (i23 : Int), ∀ (w_24 : World), I_20 out22 i23 w_24 →
 IfB (decide ((i23 : Int) < ((last1.len : Int) : Int)))
 (Idx last1 i23 1 fun (q25 : Addr) =>
 Ld (kInt .u8) q25 w_24 fun (x26 : Int) =>
 Held w_24 fun (S27 : World → Prop) (w_28 : World) =>
 IdxP (⟨b3, 0, none⟩ : Addr) 256 x26 1 fun (q29 : Addr) =>
 LdS kI q29 S27 fun (x30 : Int) =>
 IdxP (⟨b5, 0, none⟩ : Addr) 256 x26 1 fun (q31 : Addr) =>
 LdS kI q31 S27 fun (x32 : Int) =>
 Nw 3 ⟨[(.int .i64 (i64 (((i64 ((1 : Int) + (x30 : Int))) : Int) + (x32 : Int))))]⟩ w_28 fun (b34 : Nat) (w_33 : World) =>
 S27 w_33 ∧
 Run Try.prog (Builtin.append_ #[24, 24] 24 ⟨[(.slice out22.base out22.len out22.cap), (.slice (⟨some ⟨b34, 0, none⟩, 1, 1⟩ : Sl).base (⟨some ⟨b34, 0, none⟩, 1, 1⟩ : Sl).len (⟨some ⟨b34, 0, none⟩, 1, 1⟩ : Sl).cap)]⟩) kS w_33 fun (s36 : Sl) (w_35 : World) =>
 S27 w_35 ∧
 IdxP (⟨b5, 0, none⟩ : Addr) 256 x26 1 fun (q37 : Addr) =>
 Ld kI q37 w_35 fun (x38 : Int) =>
 IdxP (⟨b5, 0, none⟩ : Addr) 256 x26 1 fun (q39 : Addr) =>
 St q39 (.int .i64 (i64 ((x38 : Int) + (1 : Int)))) w_35 fun (w_40 : World) =>
 I_20 (s36) ((i64 ((i23 : Int) + (1 : Int)))) w_40 ∧ m_21 (s36) ((i64 ((i23 : Int) + (1 : Int)))) w_40 < m_21 out22 i23 w_24)
 (R (out22) w_24))
set_option maxRecDepth 100000 in
theorem ref17_After.ok (last1 : Sl) (R : Sl → World → Prop) (w : World) (h : ref17_After.E last1 R w) : Cl Try.prog [kS] n_ref17_After ⟨[(.slice last1.base last1.len last1.cap)]⟩ w R :=
  calls_of_eq Try.mix Try.f49 [(.slice last1.base last1.len last1.cap)] [kS] R 58 [.tmp 2] (by kernel_rfl) (by kernel_rfl) (by kernel_rfl) (by kernel_rfl) (by kernel_rfl)
    (.s .o (.s .o (.s (.s .o (.b (.l [(5, kI)] (.s (.s .o (.c .o .o)) (.s (.b (.s .o (.b (.l [(6, kI)] (.s (.s .o (.c .o .o)) (.s (.b .o) .o)))))) .o))))) (.s .o (.s (.s .o (.b (.l [(7, kS), (8, kI)] (.s (.s .o (.c .o .o)) (.s (.b (.s .o (.s .o .o))) .o))))) (.s .o .o))))))
    (by kernel_rfl) h
/-- winepressref17.Turned -/
def ref17_Turned.E (text1 : Sl) (R : Sl → World → Prop) (w : World) : Prop :=
 ∃ (I_2 : Sl → Int → World → Prop) (m_3 : Sl → Int → World → Nat), I_2 ((⟨none, 0, 0⟩ : Sl)) ((i64 (((text1.len : Int) : Int) - (1 : Int)))) w ∧
 ∀ (out4 : Sl) (i5 : Int), ∀ (w_6 : World), I_2 out4 i5 w_6 →
 IfB (decide ((i5 : Int) ≥ (0 : Int)))
 (Idx text1 i5 1 fun (q7 : Addr) =>
 Ld (kInt .u8) q7 w_6 fun (x8 : Int) =>
 Nw 5 ⟨[(.int .u8 x8)]⟩ w_6 fun (b10 : Nat) (w_9 : World) =>
 Run Try.prog (Builtin.append_ #[42, 42] 42 ⟨[(.slice out4.base out4.len out4.cap), (.slice (⟨some ⟨b10, 0, none⟩, 1, 1⟩ : Sl).base (⟨some ⟨b10, 0, none⟩, 1, 1⟩ : Sl).len (⟨some ⟨b10, 0, none⟩, 1, 1⟩ : Sl).cap)]⟩) kS w_9 fun (s12 : Sl) (w_11 : World) =>
 I_2 (s12) ((i64 ((i5 : Int) - (1 : Int)))) w_11 ∧ m_3 (s12) ((i64 ((i5 : Int) - (1 : Int)))) w_11 < m_3 out4 i5 w_6)
 (R (out4) w_6)
theorem ref17_Turned.ok (text1 : Sl) (R : Sl → World → Prop) (w : World) (h : ref17_Turned.E text1 R w) : Cl Try.prog [kS] n_ref17_Turned ⟨[(.slice text1.base text1.len text1.cap)]⟩ w R :=
  calls_of_eq Try.mix Try.f50 [(.slice text1.base text1.len text1.cap)] [kS] R 20 [.tmp 2] (by kernel_rfl) (by kernel_rfl) (by kernel_rfl) (by kernel_rfl) (by kernel_rfl)
    (.s .o (.s .o (.s (.s .o (.b (.l [(3, kS), (4, kI)] (.s (.s .o (.c .o .o)) (.s (.b .o) .o))))) (.s .o .o))))
    (by kernel_rfl) h
end Go.Proofs.Ytbldlpljfppmgaa
