/-
  The formulas of the functions of this translation, printed by program: each is the verification condition of its function, and holds of no other. Conditions: none.
-/
import Derived.Test.YtbldlpljfppmgaaF
namespace Go.Proofs.Ytbldlpljfppmgaa
open Go Go.Vc
set_option maxRecDepth 100000 in
/-- histogram.Of -/
def histogram_Of.E (symbols1 : Sl) (R : (Array Value) → Int → World → Prop) (w : World) : Prop :=
 Nw 23 ⟨List.replicate 258 (.int .i64 0)⟩ w fun (b3 : Nat) (w_2 : World) =>
 Bld Try.prog 23 [] fun (cs4 : Array Value) =>
 Cl Try.prog [(.arr 258), kI] n_histogram_Add ⟨[(.agg cs4), (.slice symbols1.base symbols1.len symbols1.cap)]⟩ w_2 fun (r6 : (Array Value)) (r7 : Int) (w_5 : World) =>
 StA 258 (⟨b3, 0, none⟩ : Addr) r6 w_5 fun (w_8 : World) =>
 Ld (.arr 258) (⟨b3, 0, none⟩ : Addr) w_8 fun (res9 : (Array Value)) =>
 R (res9) (r7) w_8
set_option maxRecDepth 100000 in
theorem histogram_Of.ok (symbols1 : Sl) (R : (Array Value) → Int → World → Prop) (w : World) (h : histogram_Of.E symbols1 R w) : Cl Try.prog [(.arr 258), kI] n_histogram_Of ⟨[(.slice symbols1.base symbols1.len symbols1.cap)]⟩ w R :=
  calls_of_eq Try.mix Try.f13 [(.slice symbols1.base symbols1.len symbols1.cap)] [(.arr 258), kI] R 9 [.cell 2 23, .tmp 3] (by kernel_rfl) (by kernel_rfl) (by kernel_rfl) (by kernel_rfl) (by kernel_rfl)
    (.s .o (.s .o .o))
    (by kernel_rfl) h
set_option maxRecDepth 100000 in
/-- histogram.Add -/
def histogram_Add.E (t1 : (Array Value)) (symbols2 : Sl) (R : (Array Value) → Int → World → Prop) (w : World) : Prop :=
 Nw 23 t1 w fun (b4 : Nat) (w_3 : World) =>
 Nw 23 ⟨List.replicate 258 (.int .i64 0)⟩ w_3 fun (b6 : Nat) (w_5 : World) =>
 Ld (.arr 258) (⟨b4, 0, none⟩ : Addr) w_5 fun (x7 : (Array Value)) =>
 Cl Try.prog [kB] n_histogram_Valid ⟨[(.agg x7)]⟩ w_5 fun (r9 : Bool) (w_8 : World) =>
 IfB (!r9)
 (Ld (.arr 258) (⟨b4, 0, none⟩ : Addr) w_8 fun (x10 : (Array Value)) =>
 StA 258 (⟨b6, 0, none⟩ : Addr) x10 w_8 fun (w_11 : World) =>
 Ld (.arr 258) (⟨b6, 0, none⟩ : Addr) w_11 fun (res12 : (Array Value)) =>
 R (res12) (2) w_11)
 (Ld (.arr 258) (⟨b4, 0, none⟩ : Addr) w_8 fun (x13 : (Array Value)) =>
 Nw 23 ⟨List.replicate 258 (.int .i64 0)⟩ w_8 fun (b15 : Nat) (w_14 : World) =>
 StA 258 (⟨b15, 0, none⟩ : Addr) x13 w_14 fun (w_16 : World) =>
 ∃ (I_17 : Int → World → Prop) (m_18 : Int → World → Nat), I_17 (0) w_16 ∧
 ∀ (t16_19 : Int), ∀ (w_20 : World), I_17 t16_19 w_20 →
 IfB (decide ((t16_19 : Int) < ((symbols2.len : Int) : Int)))
 (Idx symbols2 t16_19 1 fun (q21 : Addr) =>
 Ld kI q21 w_20 fun (x22 : Int) =>
 Cl Try.prog [kB] n_histogram_is ⟨[(.int .i64 x22)]⟩ w_20 fun (r24 : Bool) (w_23 : World) =>
 IfB (!r24)
 (Ld (.arr 258) (⟨b15, 0, none⟩ : Addr) w_23 fun (x25 : (Array Value)) =>
 StA 258 (⟨b6, 0, none⟩ : Addr) x25 w_23 fun (w_26 : World) =>
 Ld (.arr 258) (⟨b6, 0, none⟩ : Addr) w_26 fun (res27 : (Array Value)) =>
 R (res27) (2) w_26)
 (IdxP (⟨b4, 0, none⟩ : Addr) 258 x22 1 fun (q28 : Addr) =>
 Ld kI q28 w_23 fun (x29 : Int) =>
 IfB ((x29 : Int) == (2147483647 : Int))
 (Ld (.arr 258) (⟨b15, 0, none⟩ : Addr) w_23 fun (x30 : (Array Value)) =>
 StA 258 (⟨b6, 0, none⟩ : Addr) x30 w_23 fun (w_31 : World) =>
 Ld (.arr 258) (⟨b6, 0, none⟩ : Addr) w_31 fun (res32 : (Array Value)) =>
 R (res32) (2) w_31)
 (IdxP (⟨b4, 0, none⟩ : Addr) 258 x22 1 fun (q33 : Addr) =>
 Ld kI q33 w_23 fun (x34 : Int) =>
 IdxP (⟨b4, 0, none⟩ : Addr) 258 x22 1 fun (q35 : Addr) =>
 St q35 (.int .i64 (i64 ((x34 : Int) + (1 : Int)))) w_23 fun (w_36 : World) =>
 I_17 ((i64 ((t16_19 : Int) + (1 : Int)))) w_36 ∧ m_18 ((i64 ((t16_19 : Int) + (1 : Int)))) w_36 < m_18 t16_19 w_20)))
 (Ld (.arr 258) (⟨b4, 0, none⟩ : Addr) w_20 fun (x37 : (Array Value)) =>
 StA 258 (⟨b6, 0, none⟩ : Addr) x37 w_20 fun (w_38 : World) =>
 Ld (.arr 258) (⟨b6, 0, none⟩ : Addr) w_38 fun (res39 : (Array Value)) =>
 R (res39) (0) w_38))
set_option maxRecDepth 100000 in
theorem histogram_Add.ok (t1 : (Array Value)) (symbols2 : Sl) (R : (Array Value) → Int → World → Prop) (w : World) (h : histogram_Add.E t1 symbols2 R w) : Cl Try.prog [(.arr 258), kI] n_histogram_Add ⟨[(.agg t1), (.slice symbols2.base symbols2.len symbols2.cap)]⟩ w R :=
  calls_of_eq Try.mix Try.f15 [(.agg t1), (.slice symbols2.base symbols2.len symbols2.cap)] [(.arr 258), kI] R 37 [.cell 4 23, .tmp 5] (by kernel_rfl) (by kernel_rfl) (by kernel_rfl) (by kernel_rfl) (by kernel_rfl)
    (.s .o (.s (.s .o (.c (.s .o .o) .o)) (.s .o (.s (.s .o (.b (.l [(16, kI)] (.s .o (.s (.c .o .o) (.s (.b (.s .o (.s (.s .o (.c (.s .o .o) .o)) .o))) .o)))))) (.s .o .o)))))
    (by kernel_rfl) h
/-- histogram.Valid -/
def histogram_Valid.E (t1 : (Array Value)) (R : Bool → World → Prop) (w : World) : Prop :=
 Nw 23 t1 w fun (b3 : Nat) (w_2 : World) =>
 Ld (.arr 258) (⟨b3, 0, none⟩ : Addr) w_2 fun (x4 : (Array Value)) =>
 ∃ (I_5 : Int → World → Prop) (m_6 : Int → World → Nat), I_5 (0) w_2 ∧
 ∀ (t6_7 : Int), ∀ (w_8 : World), I_5 t6_7 w_8 →
 IfB (decide ((t6_7 : Int) < (258 : Int)))
 (IdxV (.int .i64) x4 258 t6_7 fun (e9 : Int) =>
 IfB (decide ((e9 : Int) < (0 : Int)))
 (R (false) w_8)
 (IfB (decide ((e9 : Int) > (2147483647 : Int)))
 (R (false) w_8)
 (I_5 ((i64 ((t6_7 : Int) + (1 : Int)))) w_8 ∧ m_6 ((i64 ((t6_7 : Int) + (1 : Int)))) w_8 < m_6 t6_7 w_8)))
 (R (true) w_8)
theorem histogram_Valid.ok (t1 : (Array Value)) (R : Bool → World → Prop) (w : World) (h : histogram_Valid.E t1 R w) : Cl Try.prog [kB] n_histogram_Valid ⟨[(.agg t1)]⟩ w R :=
  calls_of_eq Try.mix Try.f17 [(.agg t1)] [kB] R 16 [.tmp 2] (by kernel_rfl) (by kernel_rfl) (by kernel_rfl) (by kernel_rfl) (by kernel_rfl)
    (.s .o (.s (.s .o (.b (.l [(6, kI)] (.s .o (.s (.c .o .o) (.s (.b (.s .o (.s .o (.c (.s .o .o) .o)))) .o)))))) (.s .o .o)))
    (by kernel_rfl) h
/-- histogram.Sum -/
def histogram_Sum.E (t1 : (Array Value)) (R : Int → World → Prop) (w : World) : Prop :=
 Nw 23 t1 w fun (b3 : Nat) (w_2 : World) =>
 Ld (.arr 258) (⟨b3, 0, none⟩ : Addr) w_2 fun (x4 : (Array Value)) =>
 Cl Try.prog [kB] n_histogram_Valid ⟨[(.agg x4)]⟩ w_2 fun (r6 : Bool) (w_5 : World) =>
 IfB (!r6)
 (R (0) w_5)
 (Ld (.arr 258) (⟨b3, 0, none⟩ : Addr) w_5 fun (x7 : (Array Value)) =>
 ∃ (I_8 : Int → Int → World → Prop) (m_9 : Int → Int → World → Nat), I_8 (0) (0) w_5 ∧
 ∀ (sum10 : Int) (t9_11 : Int), ∀ (w_12 : World), I_8 sum10 t9_11 w_12 →
 IfB (decide ((t9_11 : Int) < (258 : Int)))
 (IdxV (.int .i64) x7 258 t9_11 fun (e13 : Int) =>
 I_8 ((i64 ((sum10 : Int) + (e13 : Int)))) ((i64 ((t9_11 : Int) + (1 : Int)))) w_12 ∧ m_9 ((i64 ((sum10 : Int) + (e13 : Int)))) ((i64 ((t9_11 : Int) + (1 : Int)))) w_12 < m_9 sum10 t9_11 w_12)
 (R (sum10) w_12))
theorem histogram_Sum.ok (t1 : (Array Value)) (R : Int → World → Prop) (w : World) (h : histogram_Sum.E t1 R w) : Cl Try.prog [kI] n_histogram_Sum ⟨[(.agg t1)]⟩ w R :=
  calls_of_eq Try.mix Try.f19 [(.agg t1)] [kI] R 17 [.tmp 2] (by kernel_rfl) (by kernel_rfl) (by kernel_rfl) (by kernel_rfl) (by kernel_rfl)
    (.s .o (.s (.s .o (.c (.s .o .o) .o)) (.s (.s .o (.b (.l [(2, kI), (9, kI)] (.s .o (.s (.c .o .o) (.s (.b (.s .o .o)) .o)))))) (.s .o .o))))
    (by kernel_rfl) h
/-- histogram.Used -/
def histogram_Used.E (t1 : (Array Value)) (R : Sl → World → Prop) (w : World) : Prop :=
 Nw 23 t1 w fun (b3 : Nat) (w_2 : World) =>
 Ld (.arr 258) (⟨b3, 0, none⟩ : Addr) w_2 fun (x4 : (Array Value)) =>
 Cl Try.prog [kB] n_histogram_Valid ⟨[(.agg x4)]⟩ w_2 fun (r6 : Bool) (w_5 : World) =>
 IfB (!r6)
 (R ((⟨none, 0, 0⟩ : Sl)) w_5)
 (Ld (.arr 258) (⟨b3, 0, none⟩ : Addr) w_5 fun (x7 : (Array Value)) =>
 ∃ (I_8 : Sl → Int → World → Prop) (m_9 : Sl → Int → World → Nat), I_8 ((⟨none, 0, 0⟩ : Sl)) (0) w_5 ∧
 ∀ (l10 : Sl) (t9_11 : Int), ∀ (w_12 : World), I_8 l10 t9_11 w_12 →
 IfB (decide ((t9_11 : Int) < (258 : Int)))
 (IdxV (.int .i64) x7 258 t9_11 fun (e13 : Int) =>
 IfB (decide ((e13 : Int) > (0 : Int)))
 (Nw 3 ⟨[(.int .i64 t9_11)]⟩ w_12 fun (b15 : Nat) (w_14 : World) =>
 Run Try.prog (Builtin.append_ #[24, 24] 24 ⟨[(.slice l10.base l10.len l10.cap), (.slice (⟨some ⟨b15, 0, none⟩, 1, 1⟩ : Sl).base (⟨some ⟨b15, 0, none⟩, 1, 1⟩ : Sl).len (⟨some ⟨b15, 0, none⟩, 1, 1⟩ : Sl).cap)]⟩) kS w_14 fun (s17 : Sl) (w_16 : World) =>
 I_8 (s17) ((i64 ((t9_11 : Int) + (1 : Int)))) w_16 ∧ m_9 (s17) ((i64 ((t9_11 : Int) + (1 : Int)))) w_16 < m_9 l10 t9_11 w_12)
 (I_8 (l10) ((i64 ((t9_11 : Int) + (1 : Int)))) w_12 ∧ m_9 (l10) ((i64 ((t9_11 : Int) + (1 : Int)))) w_12 < m_9 l10 t9_11 w_12))
 (R (l10) w_12))
theorem histogram_Used.ok (t1 : (Array Value)) (R : Sl → World → Prop) (w : World) (h : histogram_Used.E t1 R w) : Cl Try.prog [kS] n_histogram_Used ⟨[(.agg t1)]⟩ w R :=
  calls_of_eq Try.mix Try.f22 [(.agg t1)] [kS] R 21 [.tmp 2] (by kernel_rfl) (by kernel_rfl) (by kernel_rfl) (by kernel_rfl) (by kernel_rfl)
    (.s .o (.s (.s .o (.c (.s .o .o) .o)) (.s (.s .o (.b (.l [(2, kS), (9, kI)] (.s .o (.s (.c .o .o) (.s (.b (.s .o (.s .o (.c .o .o)))) .o)))))) (.s .o .o))))
    (by kernel_rfl) h
set_option maxRecDepth 100000 in
/-- histogram.Ranks -/
def histogram_Ranks.E (t1 : (Array Value)) (R : Sl → World → Prop) (w : World) : Prop :=
 Nw 23 t1 w fun (b3 : Nat) (w_2 : World) =>
 Ld (.arr 258) (⟨b3, 0, none⟩ : Addr) w_2 fun (x4 : (Array Value)) =>
 Cl Try.prog [kS] n_histogram_Used ⟨[(.agg x4)]⟩ w_2 fun (r6 : Sl) (w_5 : World) =>
 ∃ (I_7 : Sl → Int → World → Prop) (m_8 : Sl → Int → World → Nat), I_7 ((⟨none, 0, 0⟩ : Sl)) (0) w_5 ∧
 ∀ (ranks9 : Sl) (t11_10 : Int), ∀ (w_11 : World), I_7 ranks9 t11_10 w_11 →
 IfB (decide ((t11_10 : Int) < ((r6.len : Int) : Int)))
 (Idx r6 t11_10 1 fun (q12 : Addr) =>
 Ld kI q12 w_11 fun (x13 : Int) =>
 IdxP (⟨b3, 0, none⟩ : Addr) 258 x13 1 fun (q14 : Addr) =>
 Ld kI q14 w_11 fun (x15 : Int) =>
 Nw 58 ⟨[(.int .i64 x15), (.int .i64 x13)]⟩ w_11 fun (b17 : Nat) (w_16 : World) =>
 Run Try.prog (Builtin.append_ #[56, 56] 56 ⟨[(.slice ranks9.base ranks9.len ranks9.cap), (.slice (⟨some ⟨b17, 0, none⟩, 1, 1⟩ : Sl).base (⟨some ⟨b17, 0, none⟩, 1, 1⟩ : Sl).len (⟨some ⟨b17, 0, none⟩, 1, 1⟩ : Sl).cap)]⟩) kS w_16 fun (s19 : Sl) (w_18 : World) =>
 I_7 (s19) ((i64 ((t11_10 : Int) + (1 : Int)))) w_18 ∧ m_8 (s19) ((i64 ((t11_10 : Int) + (1 : Int)))) w_18 < m_8 ranks9 t11_10 w_11)
 (Cl Try.prog [] n_slices_SortFunc_histogram_rank_histogram_rank ⟨[(.slice ranks9.base ranks9.len ranks9.cap), (.func (.func 44) ⟨[]⟩ ⟨[]⟩)]⟩ w_11 fun  (w_20 : World) =>
 ∃ (I_21 : Sl → Int → World → Prop) (m_22 : Sl → Int → World → Nat), I_21 ((⟨none, 0, 0⟩ : Sl)) (0) w_20 ∧
 ∀ (l23 : Sl) (t28_24 : Int), ∀ (w_25 : World), I_21 l23 t28_24 w_25 →
 IfB (decide ((t28_24 : Int) < ((ranks9.len : Int) : Int)))
 (Idx ranks9 t28_24 2 fun (q26 : Addr) =>
 Ld (.st [.int .i64, .int .i64]) q26 w_25 fun (x27 : (TT [.int .i64, .int .i64])) =>
 Nw 58 ⟨[(.int .i64 0), (.int .i64 0)]⟩ w_25 fun (b29 : Nat) (w_28 : World) =>
 StC (⟨b29, 0, none⟩ : Addr) [(.int .i64 x27.1), (.int .i64 x27.2.1)] 0 w_28 fun (w_30 : World) =>
 Ld kI ((⟨b29, 0, none⟩ : Addr).add 1) w_30 fun (symbol31 : Int) =>
 Nw 3 ⟨[(.int .i64 symbol31)]⟩ w_30 fun (b33 : Nat) (w_32 : World) =>
 Run Try.prog (Builtin.append_ #[24, 24] 24 ⟨[(.slice l23.base l23.len l23.cap), (.slice (⟨some ⟨b33, 0, none⟩, 1, 1⟩ : Sl).base (⟨some ⟨b33, 0, none⟩, 1, 1⟩ : Sl).len (⟨some ⟨b33, 0, none⟩, 1, 1⟩ : Sl).cap)]⟩) kS w_32 fun (s35 : Sl) (w_34 : World) =>
 I_21 (s35) ((i64 ((t28_24 : Int) + (1 : Int)))) w_34 ∧ m_22 (s35) ((i64 ((t28_24 : Int) + (1 : Int)))) w_34 < m_22 l23 t28_24 w_25)
 (R (l23) w_25))
set_option maxRecDepth 100000 in
theorem histogram_Ranks.ok (t1 : (Array Value)) (R : Sl → World → Prop) (w : World) (h : histogram_Ranks.E t1 R w) : Cl Try.prog [kS] n_histogram_Ranks ⟨[(.agg t1)]⟩ w R :=
  calls_of_eq Try.mix Try.f24 [(.agg t1)] [kS] R 39 [.tmp 2] (by kernel_rfl) (by kernel_rfl) (by kernel_rfl) (by kernel_rfl) (by kernel_rfl)
    (.s .o (.s .o (.s (.s .o (.b (.l [(3, kS), (11, kI)] (.s .o (.s (.c .o .o) (.s (.b (.s .o .o)) .o)))))) (.s .o (.s (.s .o (.b (.l [(2, kS), (28, kI)] (.s .o (.s (.c .o .o) (.s (.b (.s .o .o)) .o)))))) (.s .o .o))))))
    (by kernel_rfl) h
set_option maxRecDepth 100000 in
/-- histogram.Different -/
def histogram_Different.E (l1 : Sl) (R : Int → World → Prop) (w : World) : Prop :=
 Run Try.prog (Instr.makeMap 63 none) kM w fun (m_3 : Option Nat) (w_2 : World) =>
 ∃ (I_4 : Int → World → Prop) (m_5 : Int → World → Nat), I_4 (0) w_2 ∧
 ∀ (t9_6 : Int), ∀ (w_7 : World), I_4 t9_6 w_7 →
 IfB (decide ((t9_6 : Int) < ((l1.len : Int) : Int)))
 (Idx l1 t9_6 258 fun (q8 : Addr) =>
 Ld (.arr 258) q8 w_7 fun (x9 : (Array Value)) =>
 Nw 23 ⟨List.replicate 258 (.int .i64 0)⟩ w_7 fun (b11 : Nat) (w_10 : World) =>
 StA 258 (⟨b11, 0, none⟩ : Addr) x9 w_10 fun (w_12 : World) =>
 Held w_12 fun (S13 : World → Prop) (w_14 : World) =>
 LdS (.arr 258) (⟨b11, 0, none⟩ : Addr) S13 fun (x15 : (Array Value)) =>
 (Run Try.prog (Instr.lookup 63 (.map m_3) (.agg x15) false) kI w_14 fun (e17 : Int) (w_16 : World) =>
 S13 w_16 ∧
 RunR Try.prog (Instr.mapEntry 63 (.map m_3) (.agg x15)) [kI, kI] w_16 fun (e19 : Int) (born20 : Int) (w_18 : World) =>
 S13 w_18 ∧
 Run Try.prog (do Instr.entryStore 63 (.map m_3) (.int .i64 born20) (.int .i64 (i64 ((e17 : Int) + (1 : Int)))); pure undef) kV w_18 fun (_ : Value) (w_21 : World) =>
 S13 w_21 ∧
 I_4 ((i64 ((t9_6 : Int) + (1 : Int)))) w_21 ∧ m_5 ((i64 ((t9_6 : Int) + (1 : Int)))) w_21 < m_5 t9_6 w_7) ∧
 (RunR Try.prog (Instr.mapEntry 63 (.map m_3) (.agg x15)) [kI, kI] w_14 fun (e23 : Int) (born24 : Int) (w_22 : World) =>
 S13 w_22 ∧
 Run Try.prog (Instr.lookup 63 (.map m_3) (.agg x15) false) kI w_22 fun (e26 : Int) (w_25 : World) =>
 S13 w_25 ∧
 Run Try.prog (do Instr.entryStore 63 (.map m_3) (.int .i64 born24) (.int .i64 (i64 ((e26 : Int) + (1 : Int)))); pure undef) kV w_25 fun (_ : Value) (w_27 : World) =>
 S13 w_27 ∧
 I_4 ((i64 ((t9_6 : Int) + (1 : Int)))) w_27 ∧ m_5 ((i64 ((t9_6 : Int) + (1 : Int)))) w_27 < m_5 t9_6 w_7))
 (Run Try.prog (Builtin.len_ #[63] 3 ⟨[(.map m_3)]⟩) kI w_7 fun (n29 : Int) (w_28 : World) =>
 R (n29) w_28)
set_option maxRecDepth 100000 in
theorem histogram_Different.ok (l1 : Sl) (R : Int → World → Prop) (w : World) (h : histogram_Different.E l1 R w) : Cl Try.prog [kI] n_histogram_Different ⟨[(.slice l1.base l1.len l1.cap)]⟩ w R :=
  calls_of_eq Try.mix Try.f26 [(.slice l1.base l1.len l1.cap)] [kI] R 22 [.tmp 2] (by kernel_rfl) (by kernel_rfl) (by kernel_rfl) (by kernel_rfl) (by kernel_rfl)
    (.s .o (.s .o (.s (.s .o (.b (.l [(9, kI)] (.s .o (.s (.c .o .o) (.s (.b (.s .o .o)) .o)))))) (.s .o .o))))
    (by kernel_rfl) h
/-- histogram.is -/
def histogram_is.E (s1 : Int) (R : Bool → World → Prop) (w : World) : Prop :=
 IfB (decide ((s1 : Int) ≥ (0 : Int)))
 (R ((decide ((s1 : Int) < (258 : Int)))) w)
 (R (false) w)
theorem histogram_is.ok (s1 : Int) (R : Bool → World → Prop) (w : World) (h : histogram_is.E s1 R w) : Cl Try.prog [kB] n_histogram_is ⟨[(.int .i64 s1)]⟩ w R :=
  calls_of_eq Try.mix Try.f42 [(.int .i64 s1)] [kB] R 9 [.tmp 2] (by kernel_rfl) (by kernel_rfl) (by kernel_rfl) (by kernel_rfl) (by kernel_rfl)
    (.s .o (.s .o .o))
    (by kernel_rfl) h
/-- histogram.Ranks$1 -/
def histogram_Ranks_1.E (a1 : (TT [.int .i64, .int .i64])) (b2 : (TT [.int .i64, .int .i64])) (R : Int → World → Prop) (w : World) : Prop :=
 Nw 58 ⟨[(.int .i64 a1.1), (.int .i64 a1.2.1)]⟩ w fun (b4 : Nat) (w_3 : World) =>
 Nw 58 ⟨[(.int .i64 b2.1), (.int .i64 b2.2.1)]⟩ w_3 fun (b6 : Nat) (w_5 : World) =>
 Held w_5 fun (S7 : World → Prop) (w_8 : World) =>
 LdS kI ((⟨b4, 0, none⟩ : Addr).add 0) S7 fun (many9 : Int) =>
 LdS kI ((⟨b6, 0, none⟩ : Addr).add 0) S7 fun (many10 : Int) =>
 LdS kI ((⟨b4, 0, none⟩ : Addr).add 1) S7 fun (symbol11 : Int) =>
 LdS kI ((⟨b6, 0, none⟩ : Addr).add 1) S7 fun (symbol12 : Int) =>
 Cl Try.prog [kI] n_cmp_Compare_int ⟨[(.int .i64 many9), (.int .i64 many10)]⟩ w_8 fun (r14 : Int) (w_13 : World) =>
 S7 w_13 ∧
 Cl Try.prog [kI] n_cmp_Compare_int ⟨[(.int .i64 symbol11), (.int .i64 symbol12)]⟩ w_13 fun (r16 : Int) (w_15 : World) =>
 S7 w_15 ∧
 Nw 3 ⟨[(.int .i64 r14), (.int .i64 r16)]⟩ w_15 fun (b18 : Nat) (w_17 : World) =>
 S7 w_17 ∧
 Cl Try.prog [kI] n_cmp_Or_int ⟨[(.slice (⟨some ⟨b18, 0, none⟩, 2, 2⟩ : Sl).base (⟨some ⟨b18, 0, none⟩, 2, 2⟩ : Sl).len (⟨some ⟨b18, 0, none⟩, 2, 2⟩ : Sl).cap)]⟩ w_17 fun (r20 : Int) (w_19 : World) =>
 S7 w_19 ∧
 R (r20) w_19
theorem histogram_Ranks_1.ok (a1 : (TT [.int .i64, .int .i64])) (b2 : (TT [.int .i64, .int .i64])) (R : Int → World → Prop) (w : World) (h : histogram_Ranks_1.E a1 b2 R w) : Cl Try.prog [kI] n_histogram_Ranks_1 ⟨[(.agg ⟨[(.int .i64 a1.1), (.int .i64 a1.2.1)]⟩), (.agg ⟨[(.int .i64 b2.1), (.int .i64 b2.2.1)]⟩)]⟩ w R :=
  calls_of_eq Try.mix Try.f44 [(.agg ⟨[(.int .i64 a1.1), (.int .i64 a1.2.1)]⟩), (.agg ⟨[(.int .i64 b2.1), (.int .i64 b2.2.1)]⟩)] [kI] R 17 [.tmp 4] (by kernel_rfl) (by kernel_rfl) (by kernel_rfl) (by kernel_rfl) (by kernel_rfl)
    (.s .o (.s .o .o))
    (by kernel_rfl) h
end Go.Proofs.Ytbldlpljfppmgaa
