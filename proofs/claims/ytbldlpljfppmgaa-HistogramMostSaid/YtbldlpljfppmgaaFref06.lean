/-
  The formulas of the functions of this translation, printed by program: each is the verification condition of its function, and holds of no other. Conditions: none.
-/
import Derived.Test.YtbldlpljfppmgaaF
namespace Go.Proofs.Ytbldlpljfppmgaa
open Go Go.Vc
set_option maxRecDepth 100000 in
/-- winepressref06.Of -/
def ref06_Of.E (symbols1 : Sl) (R : (Array Value) → Int → World → Prop) (w : World) : Prop :=
 Nw 23 ⟨List.replicate 258 (.int .i64 0)⟩ w fun (b3 : Nat) (w_2 : World) =>
 Bld Try.prog 23 [] fun (cs4 : Array Value) =>
 Cl Try.prog [(.arr 258), kI] n_ref06_Add ⟨[(.agg cs4), (.slice symbols1.base symbols1.len symbols1.cap)]⟩ w_2 fun (r6 : (Array Value)) (r7 : Int) (w_5 : World) =>
 StA 258 (⟨b3, 0, none⟩ : Addr) r6 w_5 fun (w_8 : World) =>
 Ld (.arr 258) (⟨b3, 0, none⟩ : Addr) w_8 fun (res9 : (Array Value)) =>
 R (res9) (r7) w_8
set_option maxRecDepth 100000 in
theorem ref06_Of.ok (symbols1 : Sl) (R : (Array Value) → Int → World → Prop) (w : World) (h : ref06_Of.E symbols1 R w) : Cl Try.prog [(.arr 258), kI] n_ref06_Of ⟨[(.slice symbols1.base symbols1.len symbols1.cap)]⟩ w R :=
  calls_of_eq Try.mix Try.f14 [(.slice symbols1.base symbols1.len symbols1.cap)] [(.arr 258), kI] R 9 [.cell 2 23, .tmp 3] (by kernel_rfl) (by kernel_rfl) (by kernel_rfl) (by kernel_rfl) (by kernel_rfl)
    (.s .o (.s .o .o))
    (by kernel_rfl) h
set_option maxRecDepth 100000 in
/-- winepressref06.Add -/
def ref06_Add.E (t1 : (Array Value)) (symbols2 : Sl) (R : (Array Value) → Int → World → Prop) (w : World) : Prop :=
 Nw 23 t1 w fun (b4 : Nat) (w_3 : World) =>
 Nw 23 ⟨List.replicate 258 (.int .i64 0)⟩ w_3 fun (b6 : Nat) (w_5 : World) =>
 Ld (.arr 258) (⟨b4, 0, none⟩ : Addr) w_5 fun (x7 : (Array Value)) =>
 Cl Try.prog [kB] n_ref06_Valid ⟨[(.agg x7)]⟩ w_5 fun (r9 : Bool) (w_8 : World) =>
 IfB (!r9)
 (Ld (.arr 258) (⟨b4, 0, none⟩ : Addr) w_8 fun (x10 : (Array Value)) =>
 StA 258 (⟨b6, 0, none⟩ : Addr) x10 w_8 fun (w_11 : World) =>
 Ld (.arr 258) (⟨b6, 0, none⟩ : Addr) w_11 fun (res12 : (Array Value)) =>
 R (res12) (2) w_11)
 (Ld (.arr 258) (⟨b4, 0, none⟩ : Addr) w_8 fun (x13 : (Array Value)) =>
 Nw 23 ⟨List.replicate 258 (.int .i64 0)⟩ w_8 fun (b15 : Nat) (w_14 : World) =>
 StA 258 (⟨b15, 0, none⟩ : Addr) x13 w_14 fun (w_16 : World) =>
 ∃ (I_17 : Int → World → Prop) (m_18 : Int → World → Nat), I_17 (0) w_16 ∧
 ∀ (i19 : Int), ∀ (w_20 : World), I_17 i19 w_20 →
 IfB (decide ((i19 : Int) < ((symbols2.len : Int) : Int)))
 (Idx symbols2 i19 1 fun (q21 : Addr) =>
 Ld kI q21 w_20 fun (x22 : Int) =>
 IfB (decide ((x22 : Int) < (0 : Int)))
 (Ld (.arr 258) (⟨b4, 0, none⟩ : Addr) w_20 fun (x23 : (Array Value)) =>
 StA 258 (⟨b6, 0, none⟩ : Addr) x23 w_20 fun (w_24 : World) =>
 Ld (.arr 258) (⟨b6, 0, none⟩ : Addr) w_24 fun (res25 : (Array Value)) =>
 R (res25) (2) w_24)
 (Idx symbols2 i19 1 fun (q26 : Addr) =>
 Ld kI q26 w_20 fun (x27 : Int) =>
 IfB (decide ((x27 : Int) ≥ (258 : Int)))
 (Ld (.arr 258) (⟨b4, 0, none⟩ : Addr) w_20 fun (x28 : (Array Value)) =>
 StA 258 (⟨b6, 0, none⟩ : Addr) x28 w_20 fun (w_29 : World) =>
 Ld (.arr 258) (⟨b6, 0, none⟩ : Addr) w_29 fun (res30 : (Array Value)) =>
 R (res30) (2) w_29)
 (Idx symbols2 i19 1 fun (q31 : Addr) =>
 Ld kI q31 w_20 fun (x32 : Int) =>
 IdxP (⟨b15, 0, none⟩ : Addr) 258 x32 1 fun (q33 : Addr) =>
 Ld kI q33 w_20 fun (x34 : Int) =>
 IdxP (⟨b15, 0, none⟩ : Addr) 258 x32 1 fun (q35 : Addr) =>
 St q35 (.int .i64 (i64 ((x34 : Int) + (1 : Int)))) w_20 fun (w_36 : World) =>
 I_17 ((i64 ((i19 : Int) + (1 : Int)))) w_36 ∧ m_18 ((i64 ((i19 : Int) + (1 : Int)))) w_36 < m_18 i19 w_20)))
 (Ld (.arr 258) (⟨b15, 0, none⟩ : Addr) w_20 fun (x37 : (Array Value)) =>
 Cl Try.prog [kB] n_ref06_Valid ⟨[(.agg x37)]⟩ w_20 fun (r39 : Bool) (w_38 : World) =>
 IfB (!r39)
 (Ld (.arr 258) (⟨b4, 0, none⟩ : Addr) w_38 fun (x40 : (Array Value)) =>
 StA 258 (⟨b6, 0, none⟩ : Addr) x40 w_38 fun (w_41 : World) =>
 Ld (.arr 258) (⟨b6, 0, none⟩ : Addr) w_41 fun (res42 : (Array Value)) =>
 R (res42) (2) w_41)
 (Ld (.arr 258) (⟨b15, 0, none⟩ : Addr) w_38 fun (x43 : (Array Value)) =>
 StA 258 (⟨b6, 0, none⟩ : Addr) x43 w_38 fun (w_44 : World) =>
 Ld (.arr 258) (⟨b6, 0, none⟩ : Addr) w_44 fun (res45 : (Array Value)) =>
 R (res45) (0) w_44)))
set_option maxRecDepth 100000 in
theorem ref06_Add.ok (t1 : (Array Value)) (symbols2 : Sl) (R : (Array Value) → Int → World → Prop) (w : World) (h : ref06_Add.E t1 symbols2 R w) : Cl Try.prog [(.arr 258), kI] n_ref06_Add ⟨[(.agg t1), (.slice symbols2.base symbols2.len symbols2.cap)]⟩ w R :=
  calls_of_eq Try.mix Try.f16 [(.agg t1), (.slice symbols2.base symbols2.len symbols2.cap)] [(.arr 258), kI] R 45 [.cell 4 23, .tmp 5] (by kernel_rfl) (by kernel_rfl) (by kernel_rfl) (by kernel_rfl) (by kernel_rfl)
    (.s .o (.s (.s .o (.c (.s .o .o) .o)) (.s .o (.s (.s .o (.b (.l [(7, kI)] (.s (.s .o (.c .o .o)) (.s (.b (.s (.s .o (.c (.s .o .o) .o)) .o)) .o))))) (.s (.s .o (.c (.s .o .o) .o)) (.s .o .o))))))
    (by kernel_rfl) h
/-- winepressref06.Valid -/
def ref06_Valid.E (t1 : (Array Value)) (R : Bool → World → Prop) (w : World) : Prop :=
 Nw 23 t1 w fun (b3 : Nat) (w_2 : World) =>
 ∃ (I_4 : Int → World → Prop) (m_5 : Int → World → Nat), I_4 (0) w_2 ∧
 ∀ (s6 : Int), ∀ (w_7 : World), I_4 s6 w_7 →
 IfB (decide ((s6 : Int) < (258 : Int)))
 (IdxP (⟨b3, 0, none⟩ : Addr) 258 s6 1 fun (q8 : Addr) =>
 Ld kI q8 w_7 fun (x9 : Int) =>
 IfB (decide ((x9 : Int) < (0 : Int)))
 (R (false) w_7)
 (IdxP (⟨b3, 0, none⟩ : Addr) 258 s6 1 fun (q10 : Addr) =>
 Ld kI q10 w_7 fun (x11 : Int) =>
 IfB (decide ((x11 : Int) > (2147483647 : Int)))
 (R (false) w_7)
 (I_4 ((i64 ((s6 : Int) + (1 : Int)))) w_7 ∧ m_5 ((i64 ((s6 : Int) + (1 : Int)))) w_7 < m_5 s6 w_7)))
 (R (true) w_7)
theorem ref06_Valid.ok (t1 : (Array Value)) (R : Bool → World → Prop) (w : World) (h : ref06_Valid.E t1 R w) : Cl Try.prog [kB] n_ref06_Valid ⟨[(.agg t1)]⟩ w R :=
  calls_of_eq Try.mix Try.f18 [(.agg t1)] [kB] R 18 [.tmp 2] (by kernel_rfl) (by kernel_rfl) (by kernel_rfl) (by kernel_rfl) (by kernel_rfl)
    (.s .o (.s (.s .o (.b (.l [(3, kI)] (.s (.s .o (.c .o .o)) (.s (.b (.s .o (.c (.s .o .o) .o))) .o))))) (.s .o .o)))
    (by kernel_rfl) h
/-- winepressref06.Sum -/
def ref06_Sum.E (t1 : (Array Value)) (R : Int → World → Prop) (w : World) : Prop :=
 Nw 23 t1 w fun (b3 : Nat) (w_2 : World) =>
 ∃ (I_4 : Int → Int → World → Prop) (m_5 : Int → Int → World → Nat), I_4 (0) (0) w_2 ∧
 ∀ (n6 : Int) (s7 : Int), ∀ (w_8 : World), I_4 n6 s7 w_8 →
 IfB (decide ((s7 : Int) < (258 : Int)))
 (Ld (.arr 258) (⟨b3, 0, none⟩ : Addr) w_8 fun (x9 : (Array Value)) =>
 Cl Try.prog [kB] n_ref06_Valid ⟨[(.agg x9)]⟩ w_8 fun (r11 : Bool) (w_10 : World) =>
 IfB r11
 (IdxP (⟨b3, 0, none⟩ : Addr) 258 s7 1 fun (q12 : Addr) =>
 Ld kI q12 w_10 fun (x13 : Int) =>
 I_4 ((i64 ((n6 : Int) + (x13 : Int)))) ((i64 ((s7 : Int) + (1 : Int)))) w_10 ∧ m_5 ((i64 ((n6 : Int) + (x13 : Int)))) ((i64 ((s7 : Int) + (1 : Int)))) w_10 < m_5 n6 s7 w_8)
 (R (n6) w_10))
 (R (n6) w_8)
theorem ref06_Sum.ok (t1 : (Array Value)) (R : Int → World → Prop) (w : World) (h : ref06_Sum.E t1 R w) : Cl Try.prog [kI] n_ref06_Sum ⟨[(.agg t1)]⟩ w R :=
  calls_of_eq Try.mix Try.f20 [(.agg t1)] [kI] R 19 [.tmp 2] (by kernel_rfl) (by kernel_rfl) (by kernel_rfl) (by kernel_rfl) (by kernel_rfl)
    (.s .o (.s .o (.s (.s .o (.b (.l [(3, kI), (4, kI)] (.s (.s .o (.c .o .o)) (.s (.b .o) .o))))) (.s .o .o))))
    (by kernel_rfl) h
/-- winepressref06.Used -/
def ref06_Used.E (t1 : (Array Value)) (R : Sl → World → Prop) (w : World) : Prop :=
 Nw 23 t1 w fun (b3 : Nat) (w_2 : World) =>
 ∃ (I_4 : Sl → Int → World → Prop) (m_5 : Sl → Int → World → Nat), I_4 ((⟨none, 0, 0⟩ : Sl)) (0) w_2 ∧
 ∀ (out6 : Sl) (s7 : Int), ∀ (w_8 : World), I_4 out6 s7 w_8 →
 IfB (decide ((s7 : Int) < (258 : Int)))
 (Ld (.arr 258) (⟨b3, 0, none⟩ : Addr) w_8 fun (x9 : (Array Value)) =>
 Cl Try.prog [kB] n_ref06_Valid ⟨[(.agg x9)]⟩ w_8 fun (r11 : Bool) (w_10 : World) =>
 IfB r11
 (IdxP (⟨b3, 0, none⟩ : Addr) 258 s7 1 fun (q12 : Addr) =>
 Ld kI q12 w_10 fun (x13 : Int) =>
 IfB (decide ((x13 : Int) > (0 : Int)))
 (Nw 3 ⟨[(.int .i64 s7)]⟩ w_10 fun (b15 : Nat) (w_14 : World) =>
 Run Try.prog (Builtin.append_ #[24, 24] 24 ⟨[(.slice out6.base out6.len out6.cap), (.slice (⟨some ⟨b15, 0, none⟩, 1, 1⟩ : Sl).base (⟨some ⟨b15, 0, none⟩, 1, 1⟩ : Sl).len (⟨some ⟨b15, 0, none⟩, 1, 1⟩ : Sl).cap)]⟩) kS w_14 fun (s17 : Sl) (w_16 : World) =>
 I_4 (s17) ((i64 ((s7 : Int) + (1 : Int)))) w_16 ∧ m_5 (s17) ((i64 ((s7 : Int) + (1 : Int)))) w_16 < m_5 out6 s7 w_8)
 (I_4 (out6) ((i64 ((s7 : Int) + (1 : Int)))) w_10 ∧ m_5 (out6) ((i64 ((s7 : Int) + (1 : Int)))) w_10 < m_5 out6 s7 w_8))
 (R (out6) w_10))
 (R (out6) w_8)
theorem ref06_Used.ok (t1 : (Array Value)) (R : Sl → World → Prop) (w : World) (h : ref06_Used.E t1 R w) : Cl Try.prog [kS] n_ref06_Used ⟨[(.agg t1)]⟩ w R :=
  calls_of_eq Try.mix Try.f23 [(.agg t1)] [kS] R 22 [.tmp 2] (by kernel_rfl) (by kernel_rfl) (by kernel_rfl) (by kernel_rfl) (by kernel_rfl)
    (.s .o (.s .o (.s (.s .o (.b (.l [(3, kS), (4, kI)] (.s (.s .o (.c .o .o)) (.s (.b (.s .o (.c .o .o))) .o))))) (.s .o .o))))
    (by kernel_rfl) h
set_option maxRecDepth 100000 in
/-- winepressref06.Ranks -/
def ref06_Ranks.E (t1 : (Array Value)) (R : Sl → World → Prop) (w : World) : Prop :=
 Nw 23 t1 w fun (b3 : Nat) (w_2 : World) =>
 Ld (.arr 258) (⟨b3, 0, none⟩ : Addr) w_2 fun (x4 : (Array Value)) =>
 Cl Try.prog [kS] n_ref06_Used ⟨[(.agg x4)]⟩ w_2 fun (r6 : Sl) (w_5 : World) =>
 Run Try.prog (Instr.makeSlice 24 (.int .i64 (r6.len : Int)) (.int .i64 (r6.len : Int))) kS w_5 fun (s8 : Sl) (w_7 : World) =>
 ∃ (I_9 : Int → World → Prop) (m_10 : Int → World → Nat), I_9 (0) w_7 ∧
 ∀ (i11 : Int), ∀ (w_12 : World), I_9 i11 w_12 →
 IfB (decide ((i11 : Int) < ((r6.len : Int) : Int)))
 (∃ (I_13 : Int → Int → World → Prop) (m_14 : Int → Int → World → Nat), I_13 (0) (0) w_12 ∧
 ∀ (ahead15 : Int) (k16 : Int), ∀ (w_17 : World), I_13 ahead15 k16 w_17 →
 IfB (decide ((k16 : Int) < ((r6.len : Int) : Int)))
 (Drw w_17 fun (w_18 : World) =>
 Idx r6 k16 1 fun (q19 : Addr) =>
 Ld kI q19 w_18 fun (x20 : Int) =>
 IdxP (⟨b3, 0, none⟩ : Addr) 258 x20 1 fun (q21 : Addr) =>
 Ld kI q21 w_18 fun (x22 : Int) =>
 Idx r6 i11 1 fun (q23 : Addr) =>
 Ld kI q23 w_18 fun (x24 : Int) =>
 IdxP (⟨b3, 0, none⟩ : Addr) 258 x24 1 fun (q25 : Addr) =>
 Ld kI q25 w_18 fun (x26 : Int) =>
 IfB (decide ((x22 : Int) < (x26 : Int)))
 (I_13 ((i64 ((ahead15 : Int) + (1 : Int)))) ((i64 ((k16 : Int) + (1 : Int)))) w_18 ∧ m_14 ((i64 ((ahead15 : Int) + (1 : Int)))) ((i64 ((k16 : Int) + (1 : Int)))) w_18 < m_14 ahead15 k16 w_17)
 (Idx r6 k16 1 fun (q27 : Addr) =>
 Ld kI q27 w_18 fun (x28 : Int) =>
 IdxP (⟨b3, 0, none⟩ : Addr) 258 x28 1 fun (q29 : Addr) =>
 Ld kI q29 w_18 fun (x30 : Int) =>
 Idx r6 i11 1 fun (q31 : Addr) =>
 Ld kI q31 w_18 fun (x32 : Int) =>
 IdxP (⟨b3, 0, none⟩ : Addr) 258 x32 1 fun (q33 : Addr) =>
 Ld kI q33 w_18 fun (x34 : Int) =>
 IfB ((x30 : Int) == (x34 : Int))
 (Idx r6 k16 1 fun (q35 : Addr) =>
 Ld kI q35 w_18 fun (x36 : Int) =>
 Idx r6 i11 1 fun (q37 : Addr) =>
 Ld kI q37 w_18 fun (x38 : Int) =>
 IfB (decide ((x36 : Int) < (x38 : Int)))
 (I_13 ((i64 ((ahead15 : Int) + (1 : Int)))) ((i64 ((k16 : Int) + (1 : Int)))) w_18 ∧ m_14 ((i64 ((ahead15 : Int) + (1 : Int)))) ((i64 ((k16 : Int) + (1 : Int)))) w_18 < m_14 ahead15 k16 w_17)
 (I_13 (ahead15) ((i64 ((k16 : Int) + (1 : Int)))) w_18 ∧ m_14 (ahead15) ((i64 ((k16 : Int) + (1 : Int)))) w_18 < m_14 ahead15 k16 w_17))
 (I_13 (ahead15) ((i64 ((k16 : Int) + (1 : Int)))) w_18 ∧ m_14 (ahead15) ((i64 ((k16 : Int) + (1 : Int)))) w_18 < m_14 ahead15 k16 w_17)))
 (Idx r6 i11 1 fun (q39 : Addr) =>
 Ld kI q39 w_17 fun (x40 : Int) =>
 Idx s8 ahead15 1 fun (q41 : Addr) =>
 St q41 (.int .i64 x40) w_17 fun (w_42 : World) =>
 I_9 ((i64 ((i11 : Int) + (1 : Int)))) w_42 ∧ m_10 ((i64 ((i11 : Int) + (1 : Int)))) w_42 < m_10 i11 w_12))
 (R (s8) w_12)
set_option maxRecDepth 100000 in
theorem ref06_Ranks.ok (t1 : (Array Value)) (R : Sl → World → Prop) (w : World) (h : ref06_Ranks.E t1 R w) : Cl Try.prog [kS] n_ref06_Ranks ⟨[(.agg t1)]⟩ w R :=
  calls_of_eq Try.mix Try.f25 [(.agg t1)] [kS] R 74 [.tmp 2] (by kernel_rfl) (by kernel_rfl) (by kernel_rfl) (by kernel_rfl) (by kernel_rfl)
    (.s .o (.s .o (.s .o (.s (.s .o (.b (.l [(5, kI)] (.s (.s .o (.c .o .o)) (.s (.b (.s .o (.s (.s .o (.b (.l [(6, kI), (7, kI)] (.s (.s .o (.c .o .o)) (.s (.b (.s .o (.c .o .o))) .o))))) .o))) .o))))) (.s .o .o)))))
    (by kernel_rfl) h
/-- winepressref06.Different -/
def ref06_Different.E (l1 : Sl) (R : Int → World → Prop) (w : World) : Prop :=
 ∃ (I_2 : Int → Int → World → Prop) (m_3 : Int → Int → World → Nat), I_2 (0) (0) w ∧
 ∀ (n4 : Int) (i5 : Int), ∀ (w_6 : World), I_2 n4 i5 w_6 →
 IfB (decide ((i5 : Int) < ((l1.len : Int) : Int)))
 (∃ (I_7 : Int → World → Prop) (m_8 : Int → World → Nat), I_7 (0) w_6 ∧
 ∀ (k9 : Int), ∀ (w_10 : World), I_7 k9 w_10 →
 Drw w_10 fun (w_11 : World) =>
 Idx l1 k9 258 fun (q12 : Addr) =>
 Ld (.arr 258) q12 w_11 fun (x13 : (Array Value)) =>
 Idx l1 i5 258 fun (q14 : Addr) =>
 Ld (.arr 258) q14 w_11 fun (x15 : (Array Value)) =>
 EqA .i64 258 x13 x15 fun (eq16 : Bool) =>
 IfB (!eq16)
 (I_7 ((i64 ((k9 : Int) + (1 : Int)))) w_11 ∧ m_8 ((i64 ((k9 : Int) + (1 : Int)))) w_11 < m_8 k9 w_10)
 (IfB ((k9 : Int) == (i5 : Int))
 (I_2 ((i64 ((n4 : Int) + (1 : Int)))) ((i64 ((i5 : Int) + (1 : Int)))) w_11 ∧ m_3 ((i64 ((n4 : Int) + (1 : Int)))) ((i64 ((i5 : Int) + (1 : Int)))) w_11 < m_3 n4 i5 w_6)
 (I_2 (n4) ((i64 ((i5 : Int) + (1 : Int)))) w_11 ∧ m_3 (n4) ((i64 ((i5 : Int) + (1 : Int)))) w_11 < m_3 n4 i5 w_6)))
 (R (n4) w_6)
theorem ref06_Different.ok (l1 : Sl) (R : Int → World → Prop) (w : World) (h : ref06_Different.E l1 R w) : Cl Try.prog [kI] n_ref06_Different ⟨[(.slice l1.base l1.len l1.cap)]⟩ w R :=
  calls_of_eq Try.mix Try.f27 [(.slice l1.base l1.len l1.cap)] [kI] R 29 [.tmp 2] (by kernel_rfl) (by kernel_rfl) (by kernel_rfl) (by kernel_rfl) (by kernel_rfl)
    (.s .o (.s .o (.s (.s .o (.b (.l [(3, kI), (4, kI)] (.s (.s .o (.c .o .o)) (.s (.b (.s .o (.s (.b (.l [(5, kI)] (.s (.s .o (.c .o .o)) (.b .o)))) (.s .o (.c .o .o))))) .o))))) (.s .o .o))))
    (by kernel_rfl) h
end Go.Proofs.Ytbldlpljfppmgaa
