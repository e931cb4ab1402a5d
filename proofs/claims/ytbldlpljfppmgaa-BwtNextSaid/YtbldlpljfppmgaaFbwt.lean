/-
  The formulas of the functions of this translation, printed by program: each is the verification condition of its function, and holds of no other. Conditions: none.
-/
import Derived.Test.YtbldlpljfppmgaaF
namespace Go.Proofs.Ytbldlpljfppmgaa
open Go Go.Vc
set_option maxRecDepth 100000 in
/-- bwt.Turn -/
def bwt_Turn.E (text1 : Sl) (R : Sl → Int → World → Prop) (w : World) : Prop :=
 Cl Try.prog [kS] n_bwt_Order ⟨[(.slice text1.base text1.len text1.cap)]⟩ w fun (r3 : Sl) (w_2 : World) =>
 ∃ (I_4 : Sl → Int → Int → World → Prop) (m_5 : Sl → Int → Int → World → Nat), I_4 ((⟨none, 0, 0⟩ : Sl)) (0) (0) w_2 ∧
 ∀ (last6 : Sl) (index7 : Int) (t9_8 : Int), ∀ (w_9 : World), I_4 last6 index7 t9_8 w_9 →
 IfB (decide ((t9_8 : Int) < ((r3.len : Int) : Int)))
 (Idx r3 t9_8 1 fun (q10 : Addr) =>
 Ld kI q10 w_9 fun (x11 : Int) =>
 IfB ((x11 : Int) == (0 : Int))
 (I_4 (last6) (t9_8) ((i64 ((t9_8 : Int) + (1 : Int)))) w_9 ∧ m_5 (last6) (t9_8) ((i64 ((t9_8 : Int) + (1 : Int)))) w_9 < m_5 last6 index7 t9_8 w_9)
 (Idx text1 (i64 ((x11 : Int) - (1 : Int))) 1 fun (q12 : Addr) =>
 Ld (kInt .u8) q12 w_9 fun (x13 : Int) =>
 Nw 5 ⟨[(.int .u8 x13)]⟩ w_9 fun (b15 : Nat) (w_14 : World) =>
 Run Try.prog (Builtin.append_ #[42, 42] 42 ⟨[(.slice last6.base last6.len last6.cap), (.slice (⟨some ⟨b15, 0, none⟩, 1, 1⟩ : Sl).base (⟨some ⟨b15, 0, none⟩, 1, 1⟩ : Sl).len (⟨some ⟨b15, 0, none⟩, 1, 1⟩ : Sl).cap)]⟩) kS w_14 fun (s17 : Sl) (w_16 : World) =>
 I_4 (s17) (index7) ((i64 ((t9_8 : Int) + (1 : Int)))) w_16 ∧ m_5 (s17) (index7) ((i64 ((t9_8 : Int) + (1 : Int)))) w_16 < m_5 last6 index7 t9_8 w_9))
 (R (last6) (index7) w_9)
set_option maxRecDepth 100000 in
theorem bwt_Turn.ok (text1 : Sl) (R : Sl → Int → World → Prop) (w : World) (h : bwt_Turn.E text1 R w) : Cl Try.prog [kS, kI] n_bwt_Turn ⟨[(.slice text1.base text1.len text1.cap)]⟩ w R :=
  calls_of_eq Try.mix Try.f29 [(.slice text1.base text1.len text1.cap)] [kS, kI] R 28 [.tmp 2, .tmp 3] (by kernel_rfl) (by kernel_rfl) (by kernel_rfl) (by kernel_rfl) (by kernel_rfl)
    (.s .o (.s (.s .o (.b (.l [(2, kS), (3, kI), (9, kI)] (.s .o (.s (.c .o .o) (.s (.b (.s .o (.s (.s .o (.c (.s .o .o) .o)) .o))) .o)))))) (.s .o .o)))
    (by kernel_rfl) h
set_option maxRecDepth 100000 in
/-- bwt.Next -/
def bwt_Next.E (last1 : Sl) (index2 : Int) (row3 : Int) (R : Int → Int → Bool → World → Prop) (w : World) : Prop :=
 Cl Try.prog [kI, kB] n_bwt_place ⟨[(.slice last1.base last1.len last1.cap), (.int .i64 index2), (.int .i64 row3)]⟩ w fun (r5 : Int) (r6 : Bool) (w_4 : World) =>
 IfB (!r6)
 (R (0) (0) (false) w_4)
 (Idx last1 r5 1 fun (q7 : Addr) =>
 Ld (kInt .u8) q7 w_4 fun (x8 : Int) =>
 ∃ (I_9 : Int → Int → World → Prop) (m_10 : Int → Int → World → Nat), I_9 (1) (0) w_4 ∧
 ∀ (next11 : Int) (t27_12 : Int), ∀ (w_13 : World), I_9 next11 t27_12 w_13 →
 IfB (decide ((t27_12 : Int) < ((last1.len : Int) : Int)))
 (Idx last1 t27_12 1 fun (q14 : Addr) =>
 Ld (kInt .u8) q14 w_13 fun (x15 : Int) =>
 IfB (decide ((x15 : Int) < (x8 : Int)))
 (I_9 ((i64 ((next11 : Int) + (1 : Int)))) ((i64 ((t27_12 : Int) + (1 : Int)))) w_13 ∧ m_10 ((i64 ((next11 : Int) + (1 : Int)))) ((i64 ((t27_12 : Int) + (1 : Int)))) w_13 < m_10 next11 t27_12 w_13)
 (IfB ((x15 : Int) == (x8 : Int))
 (IfB (decide ((t27_12 : Int) < (r5 : Int)))
 (I_9 ((i64 ((next11 : Int) + (1 : Int)))) ((i64 ((t27_12 : Int) + (1 : Int)))) w_13 ∧ m_10 ((i64 ((next11 : Int) + (1 : Int)))) ((i64 ((t27_12 : Int) + (1 : Int)))) w_13 < m_10 next11 t27_12 w_13)
 (I_9 (next11) ((i64 ((t27_12 : Int) + (1 : Int)))) w_13 ∧ m_10 (next11) ((i64 ((t27_12 : Int) + (1 : Int)))) w_13 < m_10 next11 t27_12 w_13))
 (I_9 (next11) ((i64 ((t27_12 : Int) + (1 : Int)))) w_13 ∧ m_10 (next11) ((i64 ((t27_12 : Int) + (1 : Int)))) w_13 < m_10 next11 t27_12 w_13)))
 (R (next11) (x8) (true) w_13))
set_option maxRecDepth 100000 in
theorem bwt_Next.ok (last1 : Sl) (index2 : Int) (row3 : Int) (R : Int → Int → Bool → World → Prop) (w : World) (h : bwt_Next.E last1 index2 row3 R w) : Cl Try.prog [kI, (kInt .u8), kB] n_bwt_Next ⟨[(.slice last1.base last1.len last1.cap), (.int .i64 index2), (.int .i64 row3)]⟩ w R :=
  calls_of_eq Try.mix Try.f31 [(.slice last1.base last1.len last1.cap), (.int .i64 index2), (.int .i64 row3)] [kI, (kInt .u8), kB] R 50 [.tmp 6, .tmp 7, .tmp 8] (by kernel_rfl) (by kernel_rfl) (by kernel_rfl) (by kernel_rfl) (by kernel_rfl)
    (.s .o (.s .o (.s (.s .o (.c (.s .o .o) .o)) (.s .o (.s (.s .o (.b (.l [(6, kI), (27, kI)] (.s .o (.s (.c .o .o) (.s (.b (.s .o (.s .o (.c .o .o)))) .o)))))) (.s .o .o))))))
    (by kernel_rfl) h
set_option maxRecDepth 100000 in
/-- bwt.Back -/
def bwt_Back.E (last1 : Sl) (index2 : Int) (R : Sl → Int → World → Prop) (w : World) : Prop :=
 Join (fun (w_4 : World) =>
 Cl Try.prog [kS] n_bwt_behind ⟨[(.slice last1.base last1.len last1.cap), (.int .i64 index2)]⟩ w_4 fun (r6 : Sl) (w_5 : World) =>
 Run Try.prog (Instr.makeSlice 42 (.int .i64 (last1.len : Int)) (.int .i64 (last1.len : Int))) kS w_5 fun (s8 : Sl) (w_7 : World) =>
 ∃ (I_9 : Int → Int → World → Prop) (m_10 : Int → Int → World → Nat), I_9 (0) ((i64 (((last1.len : Int) : Int) - (1 : Int)))) w_7 ∧
 ∀ (row11 : Int) (i12 : Int), ∀ (w_13 : World), I_9 row11 i12 w_13 →
 IfB (decide ((i12 : Int) ≥ (0 : Int)))
 (Cl Try.prog [kI, kB] n_bwt_place ⟨[(.slice last1.base last1.len last1.cap), (.int .i64 index2), (.int .i64 row11)]⟩ w_13 fun (r15 : Int) (r16 : Bool) (w_14 : World) =>
 IfB (!r16)
 (R ((⟨none, 0, 0⟩ : Sl)) (170) w_14)
 (Idx last1 r15 1 fun (q17 : Addr) =>
 Ld (kInt .u8) q17 w_14 fun (x18 : Int) =>
 Idx s8 i12 1 fun (q19 : Addr) =>
 St q19 (.int .u8 x18) w_14 fun (w_20 : World) =>
 Idx r6 row11 1 fun (q21 : Addr) =>
 Ld kI q21 w_20 fun (x22 : Int) =>
 I_9 (x22) ((i64 ((i12 : Int) - (1 : Int)))) w_20 ∧ m_10 (x22) ((i64 ((i12 : Int) - (1 : Int)))) w_20 < m_10 row11 i12 w_13))
 (IfB ((row11 : Int) != (index2 : Int))
 (R ((⟨none, 0, 0⟩ : Sl)) (170) w_13)
 (R (s8) (0) w_13))) fun (K_3 : World → Prop) =>
 IfB (decide ((index2 : Int) < (0 : Int)))
 (R ((⟨none, 0, 0⟩ : Sl)) (170) w)
 (IfB (decide ((index2 : Int) > ((last1.len : Int) : Int)))
 (R ((⟨none, 0, 0⟩ : Sl)) (170) w)
 (IfB ((index2 : Int) == (0 : Int))
 (IfB (decide (((last1.len : Int) : Int) > (0 : Int)))
 (R ((⟨none, 0, 0⟩ : Sl)) (170) w)
 (K_3  w))
 (K_3  w)))
set_option maxRecDepth 100000 in
theorem bwt_Back.ok (last1 : Sl) (index2 : Int) (R : Sl → Int → World → Prop) (w : World) (h : bwt_Back.E last1 index2 R w) : Cl Try.prog [kS, kI] n_bwt_Back ⟨[(.slice last1.base last1.len last1.cap), (.int .i64 index2)]⟩ w R :=
  calls_of_eq Try.mix Try.f33 [(.slice last1.base last1.len last1.cap), (.int .i64 index2)] [kS, kI] R 65 [.tmp 4, .tmp 5] (by kernel_rfl) (by kernel_rfl) (by kernel_rfl) (by kernel_rfl) (by kernel_rfl)
    (.s .o (.s .o (.j [] (.s .o (.c (.s .o .o) .o)) (.s .o (.s .o (.s (.s .o (.b (.l [(9, kI), (10, kI)] (.s (.s .o (.c .o .o)) (.s (.b (.s .o (.s (.s .o (.c (.s .o .o) .o)) (.s .o .o)))) .o))))) (.s (.s .o (.c (.s .o .o) .o)) (.s .o .o))))))))
    (by kernel_rfl) h
/-- bwt.Less -/
def bwt_Less.E (text1 : Sl) (i2 : Int) (k3 : Int) (R : Bool → World → Prop) (w : World) : Prop :=
 IfB (decide (((if (k3 : Int) < (i2 : Int) then (k3 : Int) else (i2 : Int)) : Int) < (0 : Int)))
 (R (false) w)
 (IfB (decide (((if (k3 : Int) > (i2 : Int) then (k3 : Int) else (i2 : Int)) : Int) > ((text1.len : Int) : Int)))
 (R (false) w)
 (Drw w fun (w_4 : World) =>
 Slc text1 i2 (text1).len (text1).cap 1 fun (s5 : Sl) =>
 Slc text1 k3 (text1).len (text1).cap 1 fun (s6 : Sl) =>
 Cl Try.prog [kI] n_bytes_Compare ⟨[(.slice s5.base s5.len s5.cap), (.slice s6.base s6.len s6.cap)]⟩ w_4 fun (r8 : Int) (w_7 : World) =>
 R ((decide ((r8 : Int) < (0 : Int)))) w_7))
theorem bwt_Less.ok (text1 : Sl) (i2 : Int) (k3 : Int) (R : Bool → World → Prop) (w : World) (h : bwt_Less.E text1 i2 k3 R w) : Cl Try.prog [kB] n_bwt_Less ⟨[(.slice text1.base text1.len text1.cap), (.int .i64 i2), (.int .i64 k3)]⟩ w R :=
  calls_of_eq Try.mix Try.f35 [(.slice text1.base text1.len text1.cap), (.int .i64 i2), (.int .i64 k3)] [kB] R 27 [.tmp 6] (by kernel_rfl) (by kernel_rfl) (by kernel_rfl) (by kernel_rfl) (by kernel_rfl)
    (.s .o (.s (.s .o (.c (.s .o .o) .o)) (.s .o .o)))
    (by kernel_rfl) h
/-- bwt.Order -/
def bwt_Order.E (text1 : Sl) (R : Sl → World → Prop) (w : World) : Prop :=
 Cl Try.prog [kS] n_bwt_ranks ⟨[(.slice text1.base text1.len text1.cap)]⟩ w fun (r3 : Sl) (w_2 : World) =>
 Run Try.prog (Instr.makeSlice 24 (.int .i64 (r3.len : Int)) (.int .i64 (r3.len : Int))) kS w_2 fun (s5 : Sl) (w_4 : World) =>
 ∃ (I_6 : Int → World → Prop) (m_7 : Int → World → Nat), I_6 (0) w_4 ∧
 ∀ (t14_8 : Int), ∀ (w_9 : World), I_6 t14_8 w_9 →
 IfB (decide ((t14_8 : Int) < ((r3.len : Int) : Int)))
 (Idx r3 t14_8 1 fun (q10 : Addr) =>
 Ld kI q10 w_9 fun (x11 : Int) =>
 Idx s5 x11 1 fun (q12 : Addr) =>
 St q12 (.int .i64 t14_8) w_9 fun (w_13 : World) =>
 I_6 ((i64 ((t14_8 : Int) + (1 : Int)))) w_13 ∧ m_7 ((i64 ((t14_8 : Int) + (1 : Int)))) w_13 < m_7 t14_8 w_9)
 (R (s5) w_9)
theorem bwt_Order.ok (text1 : Sl) (R : Sl → World → Prop) (w : World) (h : bwt_Order.E text1 R w) : Cl Try.prog [kS] n_bwt_Order ⟨[(.slice text1.base text1.len text1.cap)]⟩ w R :=
  calls_of_eq Try.mix Try.f38 [(.slice text1.base text1.len text1.cap)] [kS] R 25 [.tmp 2] (by kernel_rfl) (by kernel_rfl) (by kernel_rfl) (by kernel_rfl) (by kernel_rfl)
    (.s .o (.s .o (.s .o (.s (.s .o (.b (.l [(14, kI)] (.s .o (.s (.c .o .o) (.s (.b (.s .o .o)) .o)))))) (.s .o .o)))))
    (by kernel_rfl) h
/-- bwt.Valid -/
def bwt_Valid.E (last1 : Sl) (index2 : Int) (R : Bool → World → Prop) (w : World) : Prop :=
 Cl Try.prog [kS, kI] n_bwt_Back ⟨[(.slice last1.base last1.len last1.cap), (.int .i64 index2)]⟩ w fun (r4 : Sl) (r5 : Int) (w_3 : World) =>
 R (((r5 : Int) == (0 : Int))) w_3
theorem bwt_Valid.ok (last1 : Sl) (index2 : Int) (R : Bool → World → Prop) (w : World) (h : bwt_Valid.E last1 index2 R w) : Cl Try.prog [kB] n_bwt_Valid ⟨[(.slice last1.base last1.len last1.cap), (.int .i64 index2)]⟩ w R :=
  calls_of_eq Try.mix Try.f40 [(.slice last1.base last1.len last1.cap), (.int .i64 index2)] [kB] R 15 [.tmp 4] (by kernel_rfl) (by kernel_rfl) (by kernel_rfl) (by kernel_rfl) (by kernel_rfl)
    (.s .o (.s .o (.s .o .o)))
    (by kernel_rfl) h
/-- bwt.place -/
def bwt_place.E (last1 : Sl) (index2 : Int) (row3 : Int) (R : Int → Bool → World → Prop) (w : World) : Prop :=
 IfB (decide ((index2 : Int) < (0 : Int)))
 (R (0) (false) w)
 (IfB (decide ((index2 : Int) > ((last1.len : Int) : Int)))
 (R (0) (false) w)
 (IfB (decide ((row3 : Int) < (0 : Int)))
 (R (0) (false) w)
 (IfB (decide ((row3 : Int) > ((last1.len : Int) : Int)))
 (R (0) (false) w)
 (IfB ((row3 : Int) == (index2 : Int))
 (R (0) (false) w)
 (IfB (decide ((row3 : Int) > (index2 : Int)))
 (R ((i64 ((row3 : Int) - (1 : Int)))) (true) w)
 (R (row3) (true) w))))))
theorem bwt_place.ok (last1 : Sl) (index2 : Int) (row3 : Int) (R : Int → Bool → World → Prop) (w : World) (h : bwt_place.E last1 index2 row3 R w) : Cl Try.prog [kI, kB] n_bwt_place ⟨[(.slice last1.base last1.len last1.cap), (.int .i64 index2), (.int .i64 row3)]⟩ w R :=
  calls_of_eq Try.mix Try.f47 [(.slice last1.base last1.len last1.cap), (.int .i64 index2), (.int .i64 row3)] [kI, kB] R 37 [.tmp 6, .tmp 7] (by kernel_rfl) (by kernel_rfl) (by kernel_rfl) (by kernel_rfl) (by kernel_rfl)
    (.s .o (.s (.s .o (.c (.s .o .o) .o)) (.s (.s .o (.c .o .o)) (.s .o .o))))
    (by kernel_rfl) h
set_option maxRecDepth 100000 in
/-- bwt.behind -/
def bwt_behind.E (last1 : Sl) (index2 : Int) (R : Sl → World → Prop) (w : World) : Prop :=
 Nw 72 ⟨List.replicate 257 (.int .i64 0)⟩ w fun (b4 : Nat) (w_3 : World) =>
 ∃ (I_5 : Int → World → Prop) (m_6 : Int → World → Nat), I_5 (0) w_3 ∧
 ∀ (t16_7 : Int), ∀ (w_8 : World), I_5 t16_7 w_8 →
 IfB (decide ((t16_7 : Int) < ((last1.len : Int) : Int)))
 (Idx last1 t16_7 1 fun (q9 : Addr) =>
 Ld (kInt .u8) q9 w_8 fun (x10 : Int) =>
 IdxP (⟨b4, 0, none⟩ : Addr) 257 (i64 (((i64 x10) : Int) + (1 : Int))) 1 fun (q11 : Addr) =>
 Ld kI q11 w_8 fun (x12 : Int) =>
 IdxP (⟨b4, 0, none⟩ : Addr) 257 (i64 (((i64 x10) : Int) + (1 : Int))) 1 fun (q13 : Addr) =>
 St q13 (.int .i64 (i64 ((x12 : Int) + (1 : Int)))) w_8 fun (w_14 : World) =>
 I_5 ((i64 ((t16_7 : Int) + (1 : Int)))) w_14 ∧ m_6 ((i64 ((t16_7 : Int) + (1 : Int)))) w_14 < m_6 t16_7 w_8)
 (∃ (I_15 : Int → World → Prop) (m_16 : Int → World → Nat), I_15 (0) w_8 ∧
 ∀ (t28_17 : Int), ∀ (w_18 : World), I_15 t28_17 w_18 →
 IfB (decide ((t28_17 : Int) < (256 : Int)))
 (Drw w_18 fun (w_19 : World) =>
 IdxP (⟨b4, 0, none⟩ : Addr) 257 (i64 ((t28_17 : Int) + (1 : Int))) 1 fun (q20 : Addr) =>
 Ld kI q20 w_19 fun (x21 : Int) =>
 IdxP (⟨b4, 0, none⟩ : Addr) 257 t28_17 1 fun (q22 : Addr) =>
 Ld kI q22 w_19 fun (x23 : Int) =>
 IdxP (⟨b4, 0, none⟩ : Addr) 257 (i64 ((t28_17 : Int) + (1 : Int))) 1 fun (q24 : Addr) =>
 St q24 (.int .i64 (i64 ((x21 : Int) + (x23 : Int)))) w_19 fun (w_25 : World) =>
 I_15 ((i64 ((t28_17 : Int) + (1 : Int)))) w_25 ∧ m_16 ((i64 ((t28_17 : Int) + (1 : Int)))) w_25 < m_16 t28_17 w_18)
 (Run Try.prog (Instr.makeSlice 24 (.int .i64 (i64 (((last1.len : Int) : Int) + (1 : Int)))) (.int .i64 (i64 (((last1.len : Int) : Int) + (1 : Int))))) kS w_18 fun (s27 : Sl) (w_26 : World) =>
 ∃ (I_28 : Int → World → Prop) (m_29 : Int → World → Nat), I_28 (0) w_26 ∧
 ∀ (t47_30 : Int), ∀ (w_31 : World), I_28 t47_30 w_31 →
 IfB (decide ((t47_30 : Int) < ((s27.len : Int) : Int)))
 (Cl Try.prog [kI, kB] n_bwt_place ⟨[(.slice last1.base last1.len last1.cap), (.int .i64 index2), (.int .i64 t47_30)]⟩ w_31 fun (r33 : Int) (r34 : Bool) (w_32 : World) =>
 IfB r34
 (Idx last1 r33 1 fun (q35 : Addr) =>
 Ld (kInt .u8) q35 w_32 fun (x36 : Int) =>
 IdxP (⟨b4, 0, none⟩ : Addr) 257 x36 1 fun (q37 : Addr) =>
 Ld kI q37 w_32 fun (x38 : Int) =>
 IdxP (⟨b4, 0, none⟩ : Addr) 257 x36 1 fun (q39 : Addr) =>
 St q39 (.int .i64 (i64 ((x38 : Int) + (1 : Int)))) w_32 fun (w_40 : World) =>
 IdxP (⟨b4, 0, none⟩ : Addr) 257 x36 1 fun (q41 : Addr) =>
 Ld kI q41 w_40 fun (x42 : Int) =>
 Idx s27 t47_30 1 fun (q43 : Addr) =>
 St q43 (.int .i64 x42) w_40 fun (w_44 : World) =>
 I_28 ((i64 ((t47_30 : Int) + (1 : Int)))) w_44 ∧ m_29 ((i64 ((t47_30 : Int) + (1 : Int)))) w_44 < m_29 t47_30 w_31)
 (I_28 ((i64 ((t47_30 : Int) + (1 : Int)))) w_32 ∧ m_29 ((i64 ((t47_30 : Int) + (1 : Int)))) w_32 < m_29 t47_30 w_31))
 (R (s27) w_31)))
set_option maxRecDepth 100000 in
theorem bwt_behind.ok (last1 : Sl) (index2 : Int) (R : Sl → World → Prop) (w : World) (h : bwt_behind.E last1 index2 R w) : Cl Try.prog [kS] n_bwt_behind ⟨[(.slice last1.base last1.len last1.cap), (.int .i64 index2)]⟩ w R :=
  calls_of_eq Try.mix Try.f48 [(.slice last1.base last1.len last1.cap), (.int .i64 index2)] [kS] R 75 [.tmp 4] (by kernel_rfl) (by kernel_rfl) (by kernel_rfl) (by kernel_rfl) (by kernel_rfl)
    (.s .o (.s .o (.s (.s .o (.b (.l [(16, kI)] (.s .o (.s (.c .o .o) (.s (.b (.s .o .o)) .o)))))) (.s (.s .o (.b (.l [(28, kI)] (.s .o (.s (.c .o .o) (.s (.b (.s .o .o)) .o)))))) (.s .o (.s (.s .o (.b (.l [(47, kI)] (.s .o (.s (.c .o .o) (.s (.b (.s .o (.s .o (.s .o (.c (.s .o (.s .o .o)) .o))))) .o)))))) (.s .o .o)))))))
    (by kernel_rfl) h
set_option maxRecDepth 100000 in
/-- bwt.ranks -/
def bwt_ranks.E (text1 : Sl) (R : Sl → World → Prop) (w : World) : Prop :=
 Run Try.prog (Instr.makeSlice 73 (.int .i64 (i64 (((text1.len : Int) : Int) + (1 : Int)))) (.int .i64 (i64 (((text1.len : Int) : Int) + (1 : Int))))) kS w fun (s3 : Sl) (w_2 : World) =>
 ∃ (I_4 : Int → World → Prop) (m_5 : Int → World → Nat), I_4 (0) w_2 ∧
 ∀ (t16_6 : Int), ∀ (w_7 : World), I_4 t16_6 w_7 →
 IfB (decide ((t16_6 : Int) < ((text1.len : Int) : Int)))
 (Idx text1 t16_6 1 fun (q8 : Addr) =>
 Ld (kInt .u8) q8 w_7 fun (x9 : Int) =>
 Idx s3 t16_6 2 fun (q10 : Addr) =>
 St (q10.add 0) (.int .i64 (i64 ((1 : Int) + ((i64 x9) : Int)))) w_7 fun (w_11 : World) =>
 I_4 ((i64 ((t16_6 : Int) + (1 : Int)))) w_11 ∧ m_5 ((i64 ((t16_6 : Int) + (1 : Int)))) w_11 < m_5 t16_6 w_7)
 (Cl Try.prog [kS, kI] n_bwt_ranked ⟨[(.slice s3.base s3.len s3.cap)]⟩ w_7 fun (r13 : Sl) (r14 : Int) (w_12 : World) =>
 ∃ (I_15 : Sl → Int → Int → World → Prop) (m_16 : Sl → Int → Int → World → Nat), I_15 (r13) (r14) (1) w_12 ∧
 ∀ (r17 : Sl) (all_18 : Int) (wide19 : Int), ∀ (w_20 : World), I_15 r17 all_18 wide19 w_20 →
 IfB (decide ((all_18 : Int) < ((s3.len : Int) : Int)))
 (∃ (I_21 : Int → World → Prop) (m_22 : Int → World → Nat), I_21 (0) w_20 ∧
 ∀ (t42_23 : Int), ∀ (w_24 : World), I_21 t42_23 w_24 →
 IfB (decide ((t42_23 : Int) < ((s3.len : Int) : Int)))
 (Idx r17 t42_23 1 fun (q25 : Addr) =>
 Ld kI q25 w_24 fun (x26 : Int) =>
 Idx s3 t42_23 2 fun (q27 : Addr) =>
 StC q27 [(.int .i64 x26), (.int .i64 (-1))] 0 w_24 fun (w_28 : World) =>
 IfB (decide (((i64 ((t42_23 : Int) + (wide19 : Int))) : Int) < ((s3.len : Int) : Int)))
 (Idx r17 (i64 ((t42_23 : Int) + (wide19 : Int))) 1 fun (q29 : Addr) =>
 Ld kI q29 w_28 fun (x30 : Int) =>
 Idx s3 t42_23 2 fun (q31 : Addr) =>
 St (q31.add 1) (.int .i64 x30) w_28 fun (w_32 : World) =>
 I_21 ((i64 ((t42_23 : Int) + (1 : Int)))) w_32 ∧ m_22 ((i64 ((t42_23 : Int) + (1 : Int)))) w_32 < m_22 t42_23 w_24)
 (I_21 ((i64 ((t42_23 : Int) + (1 : Int)))) w_28 ∧ m_22 ((i64 ((t42_23 : Int) + (1 : Int)))) w_28 < m_22 t42_23 w_24))
 (Cl Try.prog [kS, kI] n_bwt_ranked ⟨[(.slice s3.base s3.len s3.cap)]⟩ w_24 fun (r34 : Sl) (r35 : Int) (w_33 : World) =>
 0 ≤ (1 : Int) ∧
 I_15 (r34) (r35) ((ishl .i64 (wide19 : Int) (1 : Int))) w_33 ∧ m_16 (r34) (r35) ((ishl .i64 (wide19 : Int) (1 : Int))) w_33 < m_16 r17 all_18 wide19 w_20))
 (R (r17) w_20))
set_option maxRecDepth 100000 in
theorem bwt_ranks.ok (text1 : Sl) (R : Sl → World → Prop) (w : World) (h : bwt_ranks.E text1 R w) : Cl Try.prog [kS] n_bwt_ranks ⟨[(.slice text1.base text1.len text1.cap)]⟩ w R :=
  calls_of_eq Try.mix Try.f52 [(.slice text1.base text1.len text1.cap)] [kS] R 76 [.tmp 2] (by kernel_rfl) (by kernel_rfl) (by kernel_rfl) (by kernel_rfl) (by kernel_rfl)
    (.s .o (.s .o (.s (.s .o (.b (.l [(16, kI)] (.s .o (.s (.c .o .o) (.s (.b (.s .o .o)) .o)))))) (.s .o (.s (.s .o (.b (.l [(6, kS), (7, kI), (8, kI)] (.s (.s .o (.c .o .o)) (.s (.b (.s (.s .o (.b (.l [(42, kI)] (.s .o (.s (.c .o .o) (.s (.b (.s .o (.s .o (.s .o (.c .o .o))))) .o)))))) .o)) .o))))) (.s .o .o))))))
    (by kernel_rfl) h
set_option maxRecDepth 100000 in
/-- bwt.ranked -/
def bwt_ranked.E (l1 : Sl) (R : Sl → Int → World → Prop) (w : World) : Prop :=
 Cl Try.prog [kS] n_slices_Clone_bwt_pair_bwt_pair ⟨[(.slice l1.base l1.len l1.cap)]⟩ w fun (r3 : Sl) (w_2 : World) =>
 Cl Try.prog [] n_slices_SortFunc_bwt_pair_bwt_pair ⟨[(.slice r3.base r3.len r3.cap), (.func (.func 70) ⟨[]⟩ ⟨[]⟩)]⟩ w_2 fun  (w_4 : World) =>
 Run Try.prog (Instr.makeMap 92 none) kM w_4 fun (m_6 : Option Nat) (w_5 : World) =>
 ∃ (I_7 : Int → World → Prop) (m_8 : Int → World → Nat), I_7 (0) w_5 ∧
 ∀ (t19_9 : Int), ∀ (w_10 : World), I_7 t19_9 w_10 →
 IfB (decide ((t19_9 : Int) < ((r3.len : Int) : Int)))
 (Idx r3 t19_9 2 fun (q11 : Addr) =>
 Ld (.st [.int .i64, .int .i64]) q11 w_10 fun (x12 : (TT [.int .i64, .int .i64])) =>
 Nw 75 ⟨[(.int .i64 0), (.int .i64 0)]⟩ w_10 fun (b14 : Nat) (w_13 : World) =>
 StC (⟨b14, 0, none⟩ : Addr) [(.int .i64 x12.1), (.int .i64 x12.2.1)] 0 w_13 fun (w_15 : World) =>
 Ld (.st [.int .i64, .int .i64]) (⟨b14, 0, none⟩ : Addr) w_15 fun (x16 : (TT [.int .i64, .int .i64])) =>
 RunR Try.prog (Instr.lookup 92 (.map m_6) (.agg ⟨[(.int .i64 x16.1), (.int .i64 x16.2.1)]⟩) true) [kI, kB] w_15 fun (e18 : Int) (e19 : Bool) (w_17 : World) =>
 IfB (!e19)
 (Ld (.st [.int .i64, .int .i64]) (⟨b14, 0, none⟩ : Addr) w_17 fun (x20 : (TT [.int .i64, .int .i64])) =>
 Run Try.prog (Builtin.len_ #[92] 3 ⟨[(.map m_6)]⟩) kI w_17 fun (n22 : Int) (w_21 : World) =>
 Run Try.prog (do Instr.mapUpdate 92 (.map m_6) (.agg ⟨[(.int .i64 x20.1), (.int .i64 x20.2.1)]⟩) (.int .i64 n22); pure undef) kV w_21 fun (_ : Value) (w_23 : World) =>
 I_7 ((i64 ((t19_9 : Int) + (1 : Int)))) w_23 ∧ m_8 ((i64 ((t19_9 : Int) + (1 : Int)))) w_23 < m_8 t19_9 w_10)
 (I_7 ((i64 ((t19_9 : Int) + (1 : Int)))) w_17 ∧ m_8 ((i64 ((t19_9 : Int) + (1 : Int)))) w_17 < m_8 t19_9 w_10))
 (∃ (I_24 : Sl → Int → World → Prop) (m_25 : Sl → Int → World → Nat), I_24 ((⟨none, 0, 0⟩ : Sl)) (0) w_10 ∧
 ∀ (ranks26 : Sl) (t38_27 : Int), ∀ (w_28 : World), I_24 ranks26 t38_27 w_28 →
 IfB (decide ((t38_27 : Int) < ((l1.len : Int) : Int)))
 (Idx l1 t38_27 2 fun (q29 : Addr) =>
 Ld (.st [.int .i64, .int .i64]) q29 w_28 fun (x30 : (TT [.int .i64, .int .i64])) =>
 Nw 75 ⟨[(.int .i64 0), (.int .i64 0)]⟩ w_28 fun (b32 : Nat) (w_31 : World) =>
 StC (⟨b32, 0, none⟩ : Addr) [(.int .i64 x30.1), (.int .i64 x30.2.1)] 0 w_31 fun (w_33 : World) =>
 Ld (.st [.int .i64, .int .i64]) (⟨b32, 0, none⟩ : Addr) w_33 fun (x34 : (TT [.int .i64, .int .i64])) =>
 Run Try.prog (Instr.lookup 92 (.map m_6) (.agg ⟨[(.int .i64 x34.1), (.int .i64 x34.2.1)]⟩) false) kI w_33 fun (e36 : Int) (w_35 : World) =>
 Nw 3 ⟨[(.int .i64 e36)]⟩ w_35 fun (b38 : Nat) (w_37 : World) =>
 Run Try.prog (Builtin.append_ #[24, 24] 24 ⟨[(.slice ranks26.base ranks26.len ranks26.cap), (.slice (⟨some ⟨b38, 0, none⟩, 1, 1⟩ : Sl).base (⟨some ⟨b38, 0, none⟩, 1, 1⟩ : Sl).len (⟨some ⟨b38, 0, none⟩, 1, 1⟩ : Sl).cap)]⟩) kS w_37 fun (s40 : Sl) (w_39 : World) =>
 I_24 (s40) ((i64 ((t38_27 : Int) + (1 : Int)))) w_39 ∧ m_25 (s40) ((i64 ((t38_27 : Int) + (1 : Int)))) w_39 < m_25 ranks26 t38_27 w_28)
 (Run Try.prog (Builtin.len_ #[92] 3 ⟨[(.map m_6)]⟩) kI w_28 fun (n42 : Int) (w_41 : World) =>
 R (ranks26) (n42) w_41))
set_option maxRecDepth 100000 in
theorem bwt_ranked.ok (l1 : Sl) (R : Sl → Int → World → Prop) (w : World) (h : bwt_ranked.E l1 R w) : Cl Try.prog [kS, kI] n_bwt_ranked ⟨[(.slice l1.base l1.len l1.cap)]⟩ w R :=
  calls_of_eq Try.mix Try.f57 [(.slice l1.base l1.len l1.cap)] [kS, kI] R 52 [.tmp 2, .tmp 3] (by kernel_rfl) (by kernel_rfl) (by kernel_rfl) (by kernel_rfl) (by kernel_rfl)
    (.s .o (.s .o (.s .o (.s .o (.s (.s .o (.b (.l [(19, kI)] (.s .o (.s (.c .o .o) (.s (.b (.s .o (.s .o (.s .o (.c .o .o))))) .o)))))) (.s (.s .o (.b (.l [(2, kS), (38, kI)] (.s .o (.s (.c .o .o) (.s (.b (.s .o .o)) .o)))))) (.s .o .o)))))))
    (by kernel_rfl) h
/-- bwt.ranked$1 -/
def bwt_ranked_1.E (a1 : (TT [.int .i64, .int .i64])) (b2 : (TT [.int .i64, .int .i64])) (R : Int → World → Prop) (w : World) : Prop :=
 Nw 75 ⟨[(.int .i64 a1.1), (.int .i64 a1.2.1)]⟩ w fun (b4 : Nat) (w_3 : World) =>
 Nw 75 ⟨[(.int .i64 b2.1), (.int .i64 b2.2.1)]⟩ w_3 fun (b6 : Nat) (w_5 : World) =>
 Held w_5 fun (S7 : World → Prop) (w_8 : World) =>
 LdS kI ((⟨b4, 0, none⟩ : Addr).add 0) S7 fun (first_9 : Int) =>
 LdS kI ((⟨b6, 0, none⟩ : Addr).add 0) S7 fun (first_10 : Int) =>
 LdS kI ((⟨b4, 0, none⟩ : Addr).add 1) S7 fun (second11 : Int) =>
 LdS kI ((⟨b6, 0, none⟩ : Addr).add 1) S7 fun (second12 : Int) =>
 Cl Try.prog [kI] n_cmp_Compare_int ⟨[(.int .i64 first_9), (.int .i64 first_10)]⟩ w_8 fun (r14 : Int) (w_13 : World) =>
 S7 w_13 ∧
 Cl Try.prog [kI] n_cmp_Compare_int ⟨[(.int .i64 second11), (.int .i64 second12)]⟩ w_13 fun (r16 : Int) (w_15 : World) =>
 S7 w_15 ∧
 Nw 3 ⟨[(.int .i64 r14), (.int .i64 r16)]⟩ w_15 fun (b18 : Nat) (w_17 : World) =>
 S7 w_17 ∧
 Cl Try.prog [kI] n_cmp_Or_int ⟨[(.slice (⟨some ⟨b18, 0, none⟩, 2, 2⟩ : Sl).base (⟨some ⟨b18, 0, none⟩, 2, 2⟩ : Sl).len (⟨some ⟨b18, 0, none⟩, 2, 2⟩ : Sl).cap)]⟩ w_17 fun (r20 : Int) (w_19 : World) =>
 S7 w_19 ∧
 R (r20) w_19
theorem bwt_ranked_1.ok (a1 : (TT [.int .i64, .int .i64])) (b2 : (TT [.int .i64, .int .i64])) (R : Int → World → Prop) (w : World) (h : bwt_ranked_1.E a1 b2 R w) : Cl Try.prog [kI] n_bwt_ranked_1 ⟨[(.agg ⟨[(.int .i64 a1.1), (.int .i64 a1.2.1)]⟩), (.agg ⟨[(.int .i64 b2.1), (.int .i64 b2.2.1)]⟩)]⟩ w R :=
  calls_of_eq Try.mix Try.f70 [(.agg ⟨[(.int .i64 a1.1), (.int .i64 a1.2.1)]⟩), (.agg ⟨[(.int .i64 b2.1), (.int .i64 b2.2.1)]⟩)] [kI] R 17 [.tmp 4] (by kernel_rfl) (by kernel_rfl) (by kernel_rfl) (by kernel_rfl) (by kernel_rfl)
    (.s .o (.s .o .o))
    (by kernel_rfl) h
end Go.Proofs.Ytbldlpljfppmgaa
