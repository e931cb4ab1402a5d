/-
  The formulas of the functions of this translation, printed by program: each is the verification condition of its function, and holds of no other. Conditions: none.
-/
import Derived.Test.YtbldlpljfppmgaaF
namespace Go.Proofs.Ytbldlpljfppmgaa
open Go Go.Vc
set_option maxRecDepth 100000 in
/-- winepresslaw06.HistogramMatches -/
def law06_HistogramMatches.E (t1 : (Array Value)) (symbols2 : Sl) (l3 : Sl) (R : Bool → World → Prop) (w : World) : Prop :=
 Nw 23 t1 w fun (b5 : Nat) (w_4 : World) =>
 Join (fun (w_11 : World) =>
 Cl Try.prog [(.arr 258), kI] n_histogram_Of ⟨[(.slice symbols2.base symbols2.len symbols2.cap)]⟩ w_11 fun (r13 : (Array Value)) (r14 : Int) (w_12 : World) =>
 Nw 23 ⟨List.replicate 258 (.int .i64 0)⟩ w_12 fun (b16 : Nat) (w_15 : World) =>
 StA 258 (⟨b16, 0, none⟩ : Addr) r13 w_15 fun (w_17 : World) =>
 Cl Try.prog [(.arr 258), kI] n_ref06_Of ⟨[(.slice symbols2.base symbols2.len symbols2.cap)]⟩ w_17 fun (r19 : (Array Value)) (r20 : Int) (w_18 : World) =>
 Nw 23 ⟨List.replicate 258 (.int .i64 0)⟩ w_18 fun (b22 : Nat) (w_21 : World) =>
 StA 258 (⟨b22, 0, none⟩ : Addr) r19 w_21 fun (w_23 : World) =>
 Ld (.arr 258) (⟨b5, 0, none⟩ : Addr) w_23 fun (x24 : (Array Value)) =>
 Cl Try.prog [(.arr 258), kI] n_histogram_Add ⟨[(.agg x24), (.slice symbols2.base symbols2.len symbols2.cap)]⟩ w_23 fun (r26 : (Array Value)) (r27 : Int) (w_25 : World) =>
 Nw 23 ⟨List.replicate 258 (.int .i64 0)⟩ w_25 fun (b29 : Nat) (w_28 : World) =>
 StA 258 (⟨b29, 0, none⟩ : Addr) r26 w_28 fun (w_30 : World) =>
 Ld (.arr 258) (⟨b5, 0, none⟩ : Addr) w_30 fun (x31 : (Array Value)) =>
 Cl Try.prog [(.arr 258), kI] n_ref06_Add ⟨[(.agg x31), (.slice symbols2.base symbols2.len symbols2.cap)]⟩ w_30 fun (r33 : (Array Value)) (r34 : Int) (w_32 : World) =>
 Nw 23 ⟨List.replicate 258 (.int .i64 0)⟩ w_32 fun (b36 : Nat) (w_35 : World) =>
 StA 258 (⟨b36, 0, none⟩ : Addr) r33 w_35 fun (w_37 : World) =>
 Join (fun (w_59 : World) =>
 Held w_59 fun (S60 : World → Prop) (w_61 : World) =>
 LdS (.arr 258) (⟨b5, 0, none⟩ : Addr) S60 fun (x62 : (Array Value)) =>
 LdS (.arr 258) (⟨b5, 0, none⟩ : Addr) S60 fun (x63 : (Array Value)) =>
 Cl Try.prog [kS] n_histogram_Used ⟨[(.agg x62)]⟩ w_61 fun (r65 : Sl) (w_64 : World) =>
 S60 w_64 ∧
 Cl Try.prog [kS] n_ref06_Used ⟨[(.agg x63)]⟩ w_64 fun (r67 : Sl) (w_66 : World) =>
 S60 w_66 ∧
 Cl Try.prog [kB] n_ref02_Ints ⟨[(.slice r65.base r65.len r65.cap), (.slice r67.base r67.len r67.cap)]⟩ w_66 fun (r69 : Bool) (w_68 : World) =>
 S60 w_68 ∧
 IfB r69
 (LdS (.arr 258) (⟨b5, 0, none⟩ : Addr) S60 fun (x70 : (Array Value)) =>
 LdS (.arr 258) (⟨b5, 0, none⟩ : Addr) S60 fun (x71 : (Array Value)) =>
 Cl Try.prog [kS] n_histogram_Ranks ⟨[(.agg x70)]⟩ w_68 fun (r73 : Sl) (w_72 : World) =>
 S60 w_72 ∧
 Cl Try.prog [kS] n_ref06_Ranks ⟨[(.agg x71)]⟩ w_72 fun (r75 : Sl) (w_74 : World) =>
 S60 w_74 ∧
 Cl Try.prog [kB] n_ref02_Ints ⟨[(.slice r73.base r73.len r73.cap), (.slice r75.base r75.len r75.cap)]⟩ w_74 fun (r77 : Bool) (w_76 : World) =>
 S60 w_76 ∧
 IfB r77
 (Cl Try.prog [kI] n_histogram_Different ⟨[(.slice l3.base l3.len l3.cap)]⟩ w_76 fun (r79 : Int) (w_78 : World) =>
 S60 w_78 ∧
 Cl Try.prog [kI] n_ref06_Different ⟨[(.slice l3.base l3.len l3.cap)]⟩ w_78 fun (r81 : Int) (w_80 : World) =>
 S60 w_80 ∧
 IfB ((r79 : Int) == (r81 : Int))
 (Cl Try.prog [kB] n_law06_wakes ⟨[]⟩ w_80 fun (r83 : Bool) (w_82 : World) =>
 S60 w_82 ∧
 R (r83) w_82)
 (R (false) w_80))
 (R (false) w_76))
 (R (false) w_68)) fun (K_38 : World → Prop) =>
 Held w_37 fun (S39 : World → Prop) (w_40 : World) =>
 LdS (.arr 258) (⟨b16, 0, none⟩ : Addr) S39 fun (x41 : (Array Value)) =>
 LdS (.arr 258) (⟨b22, 0, none⟩ : Addr) S39 fun (x42 : (Array Value)) =>
 EqA .i64 258 x41 x42 fun (eq43 : Bool) =>
 IfB (!eq43)
 (R (false) w_40)
 (IfB ((r14 : Int) != (r20 : Int))
 (R (false) w_40)
 (LdS (.arr 258) (⟨b29, 0, none⟩ : Addr) S39 fun (x44 : (Array Value)) =>
 LdS (.arr 258) (⟨b36, 0, none⟩ : Addr) S39 fun (x45 : (Array Value)) =>
 EqA .i64 258 x44 x45 fun (eq46 : Bool) =>
 IfB (!eq46)
 (R (false) w_40)
 (IfB ((r27 : Int) != (r34 : Int))
 (R (false) w_40)
 (LdS (.arr 258) (⟨b5, 0, none⟩ : Addr) S39 fun (x47 : (Array Value)) =>
 LdS (.arr 258) (⟨b5, 0, none⟩ : Addr) S39 fun (x48 : (Array Value)) =>
 Cl Try.prog [kB] n_histogram_Valid ⟨[(.agg x47)]⟩ w_40 fun (r50 : Bool) (w_49 : World) =>
 S39 w_49 ∧
 Cl Try.prog [kB] n_ref06_Valid ⟨[(.agg x48)]⟩ w_49 fun (r52 : Bool) (w_51 : World) =>
 S39 w_51 ∧
 IfB (!(r50 == r52))
 (R (false) w_51)
 (LdS (.arr 258) (⟨b5, 0, none⟩ : Addr) S39 fun (x53 : (Array Value)) =>
 LdS (.arr 258) (⟨b5, 0, none⟩ : Addr) S39 fun (x54 : (Array Value)) =>
 Cl Try.prog [kI] n_histogram_Sum ⟨[(.agg x53)]⟩ w_51 fun (r56 : Int) (w_55 : World) =>
 S39 w_55 ∧
 Cl Try.prog [kI] n_ref06_Sum ⟨[(.agg x54)]⟩ w_55 fun (r58 : Int) (w_57 : World) =>
 S39 w_57 ∧
 IfB ((r56 : Int) != (r58 : Int))
 (R (false) w_57)
 (K_38  w_57))))))) fun (K_6 : World → Prop) =>
 IfB (decide (((symbols2.len : Int) : Int) > (300 : Int)))
 (Cl Try.prog [kB] n_law06_wakes ⟨[]⟩ w_4 fun (r8 : Bool) (w_7 : World) =>
 R (r8) w_7)
 (IfB (decide (((l3.len : Int) : Int) > (20 : Int)))
 (Cl Try.prog [kB] n_law06_wakes ⟨[]⟩ w_4 fun (r10 : Bool) (w_9 : World) =>
 R (r10) w_9)
 (K_6  w_4))
set_option maxRecDepth 100000 in
theorem law06_HistogramMatches.ok (t1 : (Array Value)) (symbols2 : Sl) (l3 : Sl) (R : Bool → World → Prop) (w : World) (h : law06_HistogramMatches.E t1 symbols2 l3 R w) : Cl Try.prog [kB] n_law06_HistogramMatches ⟨[(.agg t1), (.slice symbols2.base symbols2.len symbols2.cap), (.slice l3.base l3.len l3.cap)]⟩ w R :=
  calls_of_eq Try.mix Try.f3 [(.agg t1), (.slice symbols2.base symbols2.len symbols2.cap), (.slice l3.base l3.len l3.cap)] [kB] R 100 [.tmp 6] (by kernel_rfl) (by kernel_rfl) (by kernel_rfl) (by kernel_rfl) (by kernel_rfl)
    (.s .o (.j [] (.s .o (.c (.s .o .o) .o)) (.s .o (.s .o (.s .o (.s .o (.j [] (.s .o (.c (.s .o .o) .o)) (.s .o .o))))))))
    (by kernel_rfl) h
set_option maxRecDepth 100000 in
/-- winepresslaw06.HistogramOrder -/
def law06_HistogramOrder.E (symbols1 : Sl) (i2 : Int) (k3 : Int) (at_4 : Int) (R : Bool → World → Prop) (w : World) : Prop :=
 IfB (decide (((symbols1.len : Int) : Int) > (300 : Int)))
 (Cl Try.prog [kB] n_law06_wakes ⟨[]⟩ w fun (r6 : Bool) (w_5 : World) =>
 R (r6) w_5)
 (Cl Try.prog [(.arr 258), kI] n_histogram_Of ⟨[(.slice symbols1.base symbols1.len symbols1.cap)]⟩ w fun (r8 : (Array Value)) (r9 : Int) (w_7 : World) =>
 Nw 23 ⟨List.replicate 258 (.int .i64 0)⟩ w_7 fun (b11 : Nat) (w_10 : World) =>
 StA 258 (⟨b11, 0, none⟩ : Addr) r8 w_10 fun (w_12 : World) =>
 IfB ((r9 : Int) != (0 : Int))
 (∃ (I_13 : Bool → Int → World → Prop) (m_14 : Bool → Int → World → Nat), I_13 (true) (0) w_12 ∧
 ∀ (none_15 : Bool) (j16 : Int), ∀ (w_17 : World), I_13 none_15 j16 w_17 →
 IfB (decide ((j16 : Int) < ((symbols1.len : Int) : Int)))
 (IfB none_15
 (Idx symbols1 j16 1 fun (q18 : Addr) =>
 Ld kI q18 w_17 fun (x19 : Int) =>
 IfB (decide ((x19 : Int) ≥ (0 : Int)))
 (Idx symbols1 j16 1 fun (q20 : Addr) =>
 Ld kI q20 w_17 fun (x21 : Int) =>
 I_13 ((decide ((x21 : Int) < (258 : Int)))) ((i64 ((j16 : Int) + (1 : Int)))) w_17 ∧ m_14 ((decide ((x21 : Int) < (258 : Int)))) ((i64 ((j16 : Int) + (1 : Int)))) w_17 < m_14 none_15 j16 w_17)
 (I_13 (false) ((i64 ((j16 : Int) + (1 : Int)))) w_17 ∧ m_14 (false) ((i64 ((j16 : Int) + (1 : Int)))) w_17 < m_14 none_15 j16 w_17))
 (I_13 (false) ((i64 ((j16 : Int) + (1 : Int)))) w_17 ∧ m_14 (false) ((i64 ((j16 : Int) + (1 : Int)))) w_17 < m_14 none_15 j16 w_17))
 (IfB ((r9 : Int) == (2 : Int))
 (IfB (!none_15)
 (Ld (.arr 258) (⟨b11, 0, none⟩ : Addr) w_17 fun (x22 : (Array Value)) =>
 Bld Try.prog 23 [] fun (cs23 : Array Value) =>
 EqA .i64 258 x22 cs23 fun (eq24 : Bool) =>
 IfB eq24
 (Cl Try.prog [kB] n_law06_wakes ⟨[]⟩ w_17 fun (r26 : Bool) (w_25 : World) =>
 R (r26) w_25)
 (R (false) w_17))
 (R (false) w_17))
 (R (false) w_17)))
 (Slc symbols1 0 (if ((symbols1.len : Int) : Int) < ((if (0 : Int) > (at_4 : Int) then (0 : Int) else (at_4 : Int)) : Int) then ((symbols1.len : Int) : Int) else ((if (0 : Int) > (at_4 : Int) then (0 : Int) else (at_4 : Int)) : Int)) (symbols1).cap 1 fun (s27 : Sl) =>
 Cl Try.prog [(.arr 258), kI] n_histogram_Of ⟨[(.slice s27.base s27.len s27.cap)]⟩ w_12 fun (r29 : (Array Value)) (r30 : Int) (w_28 : World) =>
 Nw 23 ⟨List.replicate 258 (.int .i64 0)⟩ w_28 fun (b32 : Nat) (w_31 : World) =>
 StA 258 (⟨b32, 0, none⟩ : Addr) r29 w_31 fun (w_33 : World) =>
 Held w_33 fun (S34 : World → Prop) (w_35 : World) =>
 LdS (.arr 258) (⟨b32, 0, none⟩ : Addr) S34 fun (x36 : (Array Value)) =>
 Slc symbols1 (if ((symbols1.len : Int) : Int) < ((if (0 : Int) > (at_4 : Int) then (0 : Int) else (at_4 : Int)) : Int) then ((symbols1.len : Int) : Int) else ((if (0 : Int) > (at_4 : Int) then (0 : Int) else (at_4 : Int)) : Int)) (symbols1).len (symbols1).cap 1 fun (s37 : Sl) =>
 (Cl Try.prog [(.arr 258), kI] n_histogram_Add ⟨[(.agg x36), (.slice s37.base s37.len s37.cap)]⟩ w_35 fun (r39 : (Array Value)) (r40 : Int) (w_38 : World) =>
 S34 w_38 ∧
 Nw 23 ⟨List.replicate 258 (.int .i64 0)⟩ w_38 fun (b42 : Nat) (w_41 : World) =>
 S34 w_41 ∧
 StA 258 (⟨b42, 0, none⟩ : Addr) r39 w_41 fun (w_43 : World) =>
 S34 w_43 ∧
 Join (fun (w_51 : World) =>
 IfB (((symbols1.len : Int) : Int) == (0 : Int))
 (Ld (.arr 258) (⟨b11, 0, none⟩ : Addr) w_51 fun (x52 : (Array Value)) =>
 Bld Try.prog 23 [] fun (cs53 : Array Value) =>
 EqA .i64 258 x52 cs53 fun (eq54 : Bool) =>
 IfB eq54
 (Cl Try.prog [kB] n_law06_wakes ⟨[]⟩ w_51 fun (r56 : Bool) (w_55 : World) =>
 R (r56) w_55)
 (R (false) w_51))
 (Nw 3 ⟨[]⟩ w_51 fun (b58 : Nat) (w_57 : World) =>
 Run Try.prog (Builtin.append_ #[24, 24] 24 ⟨[(.slice (⟨some ⟨b58, 0, none⟩, 0, 0⟩ : Sl).base (⟨some ⟨b58, 0, none⟩, 0, 0⟩ : Sl).len (⟨some ⟨b58, 0, none⟩, 0, 0⟩ : Sl).cap), (.slice symbols1.base symbols1.len symbols1.cap)]⟩) kS w_57 fun (s60 : Sl) (w_59 : World) =>
 Drw w_59 fun (w_61 : World) =>
 Idx s60 (if ((i64 (((symbols1.len : Int) : Int) - (1 : Int))) : Int) < ((if (0 : Int) > (k3 : Int) then (0 : Int) else (k3 : Int)) : Int) then ((i64 (((symbols1.len : Int) : Int) - (1 : Int))) : Int) else ((if (0 : Int) > (k3 : Int) then (0 : Int) else (k3 : Int)) : Int)) 1 fun (q62 : Addr) =>
 Ld kI q62 w_61 fun (x63 : Int) =>
 Idx s60 (if ((i64 (((symbols1.len : Int) : Int) - (1 : Int))) : Int) < ((if (0 : Int) > (i2 : Int) then (0 : Int) else (i2 : Int)) : Int) then ((i64 (((symbols1.len : Int) : Int) - (1 : Int))) : Int) else ((if (0 : Int) > (i2 : Int) then (0 : Int) else (i2 : Int)) : Int)) 1 fun (q64 : Addr) =>
 Ld kI q64 w_61 fun (x65 : Int) =>
 Idx s60 (if ((i64 (((symbols1.len : Int) : Int) - (1 : Int))) : Int) < ((if (0 : Int) > (i2 : Int) then (0 : Int) else (i2 : Int)) : Int) then ((i64 (((symbols1.len : Int) : Int) - (1 : Int))) : Int) else ((if (0 : Int) > (i2 : Int) then (0 : Int) else (i2 : Int)) : Int)) 1 fun (q66 : Addr) =>
 St q66 (.int .i64 x63) w_61 fun (w_67 : World) =>
 Idx s60 (if ((i64 (((symbols1.len : Int) : Int) - (1 : Int))) : Int) < ((if (0 : Int) > (k3 : Int) then (0 : Int) else (k3 : Int)) : Int) then ((i64 (((symbols1.len : Int) : Int) - (1 : Int))) : Int) else ((if (0 : Int) > (k3 : Int) then (0 : Int) else (k3 : Int)) : Int)) 1 fun (q68 : Addr) =>
 St q68 (.int .i64 x65) w_67 fun (w_69 : World) =>
 Cl Try.prog [(.arr 258), kI] n_histogram_Of ⟨[(.slice s60.base s60.len s60.cap)]⟩ w_69 fun (r71 : (Array Value)) (r72 : Int) (w_70 : World) =>
 Nw 23 ⟨List.replicate 258 (.int .i64 0)⟩ w_70 fun (b74 : Nat) (w_73 : World) =>
 StA 258 (⟨b74, 0, none⟩ : Addr) r71 w_73 fun (w_75 : World) =>
 IfB ((r72 : Int) == (0 : Int))
 (Ld (.arr 258) (⟨b74, 0, none⟩ : Addr) w_75 fun (x76 : (Array Value)) =>
 Ld (.arr 258) (⟨b11, 0, none⟩ : Addr) w_75 fun (x77 : (Array Value)) =>
 EqA .i64 258 x76 x77 fun (eq78 : Bool) =>
 IfB eq78
 (Ld (.arr 258) (⟨b11, 0, none⟩ : Addr) w_75 fun (x79 : (Array Value)) =>
 Ld (.arr 258) (⟨b74, 0, none⟩ : Addr) w_75 fun (x80 : (Array Value)) =>
 Ld (.arr 258) (⟨b32, 0, none⟩ : Addr) w_75 fun (x81 : (Array Value)) =>
 BldS Try.prog 23 3 [(0, (.agg x79)), (1, (.agg x80)), (2, (.agg x81))] fun (cs84 : Array Value) =>
 Nw 23 cs84 w_75 fun (b83 : Nat) (w_82 : World) =>
 Cl Try.prog [kI] n_histogram_Different ⟨[(.slice (⟨some ⟨b83, 0, none⟩, 3, 3⟩ : Sl).base (⟨some ⟨b83, 0, none⟩, 3, 3⟩ : Sl).len (⟨some ⟨b83, 0, none⟩, 3, 3⟩ : Sl).cap)]⟩ w_82 fun (r86 : Int) (w_85 : World) =>
 IfB (decide ((r86 : Int) ≤ (2 : Int)))
 (Cl Try.prog [kB] n_law06_wakes ⟨[]⟩ w_85 fun (r88 : Bool) (w_87 : World) =>
 R (r88) w_87)
 (R (false) w_85))
 (R (false) w_75))
 (R (false) w_75))) fun (K_44 : World → Prop) =>
 IfB ((r30 : Int) != (0 : Int))
 (R (false) w_43)
 (IfB ((r40 : Int) != (0 : Int))
 (R (false) w_43)
 (Ld (.arr 258) (⟨b42, 0, none⟩ : Addr) w_43 fun (x45 : (Array Value)) =>
 Ld (.arr 258) (⟨b11, 0, none⟩ : Addr) w_43 fun (x46 : (Array Value)) =>
 EqA .i64 258 x45 x46 fun (eq47 : Bool) =>
 IfB (!eq47)
 (R (false) w_43)
 (Ld (.arr 258) (⟨b11, 0, none⟩ : Addr) w_43 fun (x48 : (Array Value)) =>
 Cl Try.prog [kI] n_histogram_Sum ⟨[(.agg x48)]⟩ w_43 fun (r50 : Int) (w_49 : World) =>
 IfB ((r50 : Int) != ((symbols1.len : Int) : Int))
 (R (false) w_49)
 (K_44  w_49))))) ∧
 (Nw 23 ⟨List.replicate 258 (.int .i64 0)⟩ w_35 fun (b90 : Nat) (w_89 : World) =>
 S34 w_89 ∧
 Cl Try.prog [(.arr 258), kI] n_histogram_Add ⟨[(.agg x36), (.slice s37.base s37.len s37.cap)]⟩ w_89 fun (r92 : (Array Value)) (r93 : Int) (w_91 : World) =>
 S34 w_91 ∧
 StA 258 (⟨b90, 0, none⟩ : Addr) r92 w_91 fun (w_94 : World) =>
 S34 w_94 ∧
 Join (fun (w_102 : World) =>
 IfB (((symbols1.len : Int) : Int) == (0 : Int))
 (Ld (.arr 258) (⟨b11, 0, none⟩ : Addr) w_102 fun (x103 : (Array Value)) =>
 Bld Try.prog 23 [] fun (cs104 : Array Value) =>
 EqA .i64 258 x103 cs104 fun (eq105 : Bool) =>
 IfB eq105
 (Cl Try.prog [kB] n_law06_wakes ⟨[]⟩ w_102 fun (r107 : Bool) (w_106 : World) =>
 R (r107) w_106)
 (R (false) w_102))
 (Nw 3 ⟨[]⟩ w_102 fun (b109 : Nat) (w_108 : World) =>
 Run Try.prog (Builtin.append_ #[24, 24] 24 ⟨[(.slice (⟨some ⟨b109, 0, none⟩, 0, 0⟩ : Sl).base (⟨some ⟨b109, 0, none⟩, 0, 0⟩ : Sl).len (⟨some ⟨b109, 0, none⟩, 0, 0⟩ : Sl).cap), (.slice symbols1.base symbols1.len symbols1.cap)]⟩) kS w_108 fun (s111 : Sl) (w_110 : World) =>
 Drw w_110 fun (w_112 : World) =>
 Idx s111 (if ((i64 (((symbols1.len : Int) : Int) - (1 : Int))) : Int) < ((if (0 : Int) > (k3 : Int) then (0 : Int) else (k3 : Int)) : Int) then ((i64 (((symbols1.len : Int) : Int) - (1 : Int))) : Int) else ((if (0 : Int) > (k3 : Int) then (0 : Int) else (k3 : Int)) : Int)) 1 fun (q113 : Addr) =>
 Ld kI q113 w_112 fun (x114 : Int) =>
 Idx s111 (if ((i64 (((symbols1.len : Int) : Int) - (1 : Int))) : Int) < ((if (0 : Int) > (i2 : Int) then (0 : Int) else (i2 : Int)) : Int) then ((i64 (((symbols1.len : Int) : Int) - (1 : Int))) : Int) else ((if (0 : Int) > (i2 : Int) then (0 : Int) else (i2 : Int)) : Int)) 1 fun (q115 : Addr) =>
 Ld kI q115 w_112 fun (x116 : Int) =>
 Idx s111 (if ((i64 (((symbols1.len : Int) : Int) - (1 : Int))) : Int) < ((if (0 : Int) > (i2 : Int) then (0 : Int) else (i2 : Int)) : Int) then ((i64 (((symbols1.len : Int) : Int) - (1 : Int))) : Int) else ((if (0 : Int) > (i2 : Int) then (0 : Int) else (i2 : Int)) : Int)) 1 fun (q117 : Addr) =>
 St q117 (.int .i64 x114) w_112 fun (w_118 : World) =>
 Idx s111 (if ((i64 (((symbols1.len : Int) : Int) - (1 : Int))) : Int) < ((if (0 : Int) > (k3 : Int) then (0 : Int) else (k3 : Int)) : Int) then ((i64 (((symbols1.len : Int) : Int) - (1 : Int))) : Int) else ((if (0 : Int) > (k3 : Int) then (0 : Int) else (k3 : Int)) : Int)) 1 fun (q119 : Addr) =>
 St q119 (.int .i64 x116) w_118 fun (w_120 : World) =>
 Cl Try.prog [(.arr 258), kI] n_histogram_Of ⟨[(.slice s111.base s111.len s111.cap)]⟩ w_120 fun (r122 : (Array Value)) (r123 : Int) (w_121 : World) =>
 Nw 23 ⟨List.replicate 258 (.int .i64 0)⟩ w_121 fun (b125 : Nat) (w_124 : World) =>
 StA 258 (⟨b125, 0, none⟩ : Addr) r122 w_124 fun (w_126 : World) =>
 IfB ((r123 : Int) == (0 : Int))
 (Ld (.arr 258) (⟨b125, 0, none⟩ : Addr) w_126 fun (x127 : (Array Value)) =>
 Ld (.arr 258) (⟨b11, 0, none⟩ : Addr) w_126 fun (x128 : (Array Value)) =>
 EqA .i64 258 x127 x128 fun (eq129 : Bool) =>
 IfB eq129
 (Ld (.arr 258) (⟨b11, 0, none⟩ : Addr) w_126 fun (x130 : (Array Value)) =>
 Ld (.arr 258) (⟨b125, 0, none⟩ : Addr) w_126 fun (x131 : (Array Value)) =>
 Ld (.arr 258) (⟨b32, 0, none⟩ : Addr) w_126 fun (x132 : (Array Value)) =>
 BldS Try.prog 23 3 [(0, (.agg x130)), (1, (.agg x131)), (2, (.agg x132))] fun (cs135 : Array Value) =>
 Nw 23 cs135 w_126 fun (b134 : Nat) (w_133 : World) =>
 Cl Try.prog [kI] n_histogram_Different ⟨[(.slice (⟨some ⟨b134, 0, none⟩, 3, 3⟩ : Sl).base (⟨some ⟨b134, 0, none⟩, 3, 3⟩ : Sl).len (⟨some ⟨b134, 0, none⟩, 3, 3⟩ : Sl).cap)]⟩ w_133 fun (r137 : Int) (w_136 : World) =>
 IfB (decide ((r137 : Int) ≤ (2 : Int)))
 (Cl Try.prog [kB] n_law06_wakes ⟨[]⟩ w_136 fun (r139 : Bool) (w_138 : World) =>
 R (r139) w_138)
 (R (false) w_136))
 (R (false) w_126))
 (R (false) w_126))) fun (K_95 : World → Prop) =>
 IfB ((r30 : Int) != (0 : Int))
 (R (false) w_94)
 (IfB ((r93 : Int) != (0 : Int))
 (R (false) w_94)
 (Ld (.arr 258) (⟨b90, 0, none⟩ : Addr) w_94 fun (x96 : (Array Value)) =>
 Ld (.arr 258) (⟨b11, 0, none⟩ : Addr) w_94 fun (x97 : (Array Value)) =>
 EqA .i64 258 x96 x97 fun (eq98 : Bool) =>
 IfB (!eq98)
 (R (false) w_94)
 (Ld (.arr 258) (⟨b11, 0, none⟩ : Addr) w_94 fun (x99 : (Array Value)) =>
 Cl Try.prog [kI] n_histogram_Sum ⟨[(.agg x99)]⟩ w_94 fun (r101 : Int) (w_100 : World) =>
 IfB ((r101 : Int) != ((symbols1.len : Int) : Int))
 (R (false) w_100)
 (K_95  w_100)))))))
set_option maxRecDepth 100000 in
theorem law06_HistogramOrder.ok (symbols1 : Sl) (i2 : Int) (k3 : Int) (at_4 : Int) (R : Bool → World → Prop) (w : World) (h : law06_HistogramOrder.E symbols1 i2 k3 at_4 R w) : Cl Try.prog [kB] n_law06_HistogramOrder ⟨[(.slice symbols1.base symbols1.len symbols1.cap), (.int .i64 i2), (.int .i64 k3), (.int .i64 at_4)]⟩ w R :=
  calls_of_eq Try.mix Try.f4 [(.slice symbols1.base symbols1.len symbols1.cap), (.int .i64 i2), (.int .i64 k3), (.int .i64 at_4)] [kB] R 163 [.tmp 8] (by kernel_rfl) (by kernel_rfl) (by kernel_rfl) (by kernel_rfl) (by kernel_rfl)
    (.s .o (.s (.s .o (.c (.s .o .o) .o)) (.s .o (.s (.s .o (.c (.s .o (.s (.s .o (.b (.l [(11, kB), (12, kI)] (.s (.s .o (.c .o .o)) (.s (.b .o) .o))))) (.s .o .o))) .o)) (.s .o (.s .o (.s .o (.s .o (.j [] (.s .o (.c (.s .o .o) .o)) (.s (.s .o (.c (.s .o .o) .o)) (.s .o (.s .o (.s .o (.s .o (.s .o .o)))))))))))))))
    (by kernel_rfl) h
set_option maxRecDepth 100000 in
/-- winepresslaw06.HistogramRanks -/
def law06_HistogramRanks.E (t1 : (Array Value)) (R : Bool → World → Prop) (w : World) : Prop :=
 Nw 23 t1 w fun (b3 : Nat) (w_2 : World) =>
 Ld (.arr 258) (⟨b3, 0, none⟩ : Addr) w_2 fun (x4 : (Array Value)) =>
 Cl Try.prog [kB] n_ref06_Valid ⟨[(.agg x4)]⟩ w_2 fun (r6 : Bool) (w_5 : World) =>
 IfB (!r6)
 (Ld (.arr 258) (⟨b3, 0, none⟩ : Addr) w_5 fun (x7 : (Array Value)) =>
 Cl Try.prog [kS] n_histogram_Used ⟨[(.agg x7)]⟩ w_5 fun (r9 : Sl) (w_8 : World) =>
 IfB (((r9.len : Int) : Int) == (0 : Int))
 (Ld (.arr 258) (⟨b3, 0, none⟩ : Addr) w_8 fun (x10 : (Array Value)) =>
 Cl Try.prog [kS] n_histogram_Ranks ⟨[(.agg x10)]⟩ w_8 fun (r12 : Sl) (w_11 : World) =>
 IfB (((r12.len : Int) : Int) == (0 : Int))
 (Cl Try.prog [kB] n_law06_wakes ⟨[]⟩ w_11 fun (r14 : Bool) (w_13 : World) =>
 R (r14) w_13)
 (R (false) w_11))
 (R (false) w_8))
 (Held w_5 fun (S15 : World → Prop) (w_16 : World) =>
 LdS (.arr 258) (⟨b3, 0, none⟩ : Addr) S15 fun (x17 : (Array Value)) =>
 LdS (.arr 258) (⟨b3, 0, none⟩ : Addr) S15 fun (x18 : (Array Value)) =>
 Cl Try.prog [kS] n_histogram_Used ⟨[(.agg x17)]⟩ w_16 fun (r20 : Sl) (w_19 : World) =>
 S15 w_19 ∧
 Cl Try.prog [kS] n_histogram_Ranks ⟨[(.agg x18)]⟩ w_19 fun (r22 : Sl) (w_21 : World) =>
 S15 w_21 ∧
 IfB (((r20.len : Int) : Int) != ((r22.len : Int) : Int))
 (R (false) w_21)
 (∃ (I_23 : Int → Int → World → Prop) (m_24 : Int → Int → World → Nat), I_23 (0) (0) w_21 ∧
 ∀ (there25 : Int) (s26 : Int), ∀ (w_27 : World), I_23 there25 s26 w_27 →
 IfB (decide ((s26 : Int) < (258 : Int)))
 (IdxP (⟨b3, 0, none⟩ : Addr) 258 s26 1 fun (q28 : Addr) =>
 Ld kI q28 w_27 fun (x29 : Int) =>
 IfB (decide ((x29 : Int) > (0 : Int)))
 (IfB (decide ((there25 : Int) ≥ ((r20.len : Int) : Int)))
 (R (false) w_27)
 (Idx r20 there25 1 fun (q30 : Addr) =>
 Ld kI q30 w_27 fun (x31 : Int) =>
 IfB ((x31 : Int) != (s26 : Int))
 (R (false) w_27)
 (I_23 ((i64 ((there25 : Int) + (1 : Int)))) ((i64 ((s26 : Int) + (1 : Int)))) w_27 ∧ m_24 ((i64 ((there25 : Int) + (1 : Int)))) ((i64 ((s26 : Int) + (1 : Int)))) w_27 < m_24 there25 s26 w_27)))
 (I_23 (there25) ((i64 ((s26 : Int) + (1 : Int)))) w_27 ∧ m_24 (there25) ((i64 ((s26 : Int) + (1 : Int)))) w_27 < m_24 there25 s26 w_27))
 (∃ (I_32 : Int → World → Prop) (m_33 : Int → World → Nat), I_32 (0) w_27 ∧
 ∀ (i34 : Int), ∀ (w_35 : World), I_32 i34 w_35 →
 IfB (decide ((i34 : Int) < ((r22.len : Int) : Int)))
 (Idx r22 i34 1 fun (q36 : Addr) =>
 Ld kI q36 w_35 fun (x37 : Int) =>
 Join (fun (w_41 : World) =>
 Drw w_41 fun (w_42 : World) =>
 IfB (decide ((i34 : Int) > (0 : Int)))
 (IdxP (⟨b3, 0, none⟩ : Addr) 258 x37 1 fun (q43 : Addr) =>
 Ld kI q43 w_42 fun (x44 : Int) =>
 Idx r22 (i64 ((i34 : Int) - (1 : Int))) 1 fun (q45 : Addr) =>
 Ld kI q45 w_42 fun (x46 : Int) =>
 IdxP (⟨b3, 0, none⟩ : Addr) 258 x46 1 fun (q47 : Addr) =>
 Ld kI q47 w_42 fun (x48 : Int) =>
 IfB (decide ((x44 : Int) < (x48 : Int)))
 (R (false) w_42)
 (IdxP (⟨b3, 0, none⟩ : Addr) 258 x37 1 fun (q49 : Addr) =>
 Ld kI q49 w_42 fun (x50 : Int) =>
 Idx r22 (i64 ((i34 : Int) - (1 : Int))) 1 fun (q51 : Addr) =>
 Ld kI q51 w_42 fun (x52 : Int) =>
 IdxP (⟨b3, 0, none⟩ : Addr) 258 x52 1 fun (q53 : Addr) =>
 Ld kI q53 w_42 fun (x54 : Int) =>
 IfB ((x50 : Int) == (x54 : Int))
 (Idx r22 (i64 ((i34 : Int) - (1 : Int))) 1 fun (q55 : Addr) =>
 Ld kI q55 w_42 fun (x56 : Int) =>
 IfB (decide ((x37 : Int) ≤ (x56 : Int)))
 (R (false) w_42)
 (I_32 ((i64 ((i34 : Int) + (1 : Int)))) w_42 ∧ m_33 ((i64 ((i34 : Int) + (1 : Int)))) w_42 < m_33 i34 w_35))
 (I_32 ((i64 ((i34 : Int) + (1 : Int)))) w_42 ∧ m_33 ((i64 ((i34 : Int) + (1 : Int)))) w_42 < m_33 i34 w_35)))
 (I_32 ((i64 ((i34 : Int) + (1 : Int)))) w_42 ∧ m_33 ((i64 ((i34 : Int) + (1 : Int)))) w_42 < m_33 i34 w_35)) fun (K_38 : World → Prop) =>
 IfB (decide ((x37 : Int) < (0 : Int)))
 (R (false) w_35)
 (IfB (decide ((x37 : Int) ≥ (258 : Int)))
 (R (false) w_35)
 (IdxP (⟨b3, 0, none⟩ : Addr) 258 x37 1 fun (q39 : Addr) =>
 Ld kI q39 w_35 fun (x40 : Int) =>
 IfB (decide ((x40 : Int) < (1 : Int)))
 (R (false) w_35)
 (K_38  w_35))))
 (IfB ((there25 : Int) == ((r20.len : Int) : Int))
 (Cl Try.prog [kB] n_law06_wakes ⟨[]⟩ w_35 fun (r58 : Bool) (w_57 : World) =>
 R (r58) w_57)
 (R (false) w_35)))))
set_option maxRecDepth 100000 in
theorem law06_HistogramRanks.ok (t1 : (Array Value)) (R : Bool → World → Prop) (w : World) (h : law06_HistogramRanks.E t1 R w) : Cl Try.prog [kB] n_law06_HistogramRanks ⟨[(.agg t1)]⟩ w R :=
  calls_of_eq Try.mix Try.f5 [(.agg t1)] [kB] R 122 [.tmp 2] (by kernel_rfl) (by kernel_rfl) (by kernel_rfl) (by kernel_rfl) (by kernel_rfl)
    (.s .o (.s (.s .o (.c (.s .o .o) .o)) (.s .o (.s (.s .o (.c (.s .o .o) .o)) (.s .o (.s (.s .o (.b (.l [(5, kI), (6, kI)] (.s (.s .o (.c .o .o)) (.s (.b (.s .o (.c (.s (.s .o (.c (.s .o .o) .o)) .o) .o))) .o))))) (.s (.s .o (.b (.l [(7, kI)] (.s (.s .o (.c .o .o)) (.s (.b (.s .o (.j [] (.s .o (.c (.s .o .o) .o)) (.s .o (.c (.s .o .o) .o))))) .o))))) (.s .o .o))))))))
    (by kernel_rfl) h
set_option maxRecDepth 100000 in
/-- winepresslaw06.HistogramMost -/
def law06_HistogramMost.E (s1 : Int) (more2 : Int) (R : Bool → World → Prop) (w : World) : Prop :=
 Join (fun (w_12 : World) =>
 Nw 23 ⟨List.replicate 258 (.int .i64 0)⟩ w_12 fun (b14 : Nat) (w_13 : World) =>
 IdxP (⟨b14, 0, none⟩ : Addr) 258 s1 1 fun (q15 : Addr) =>
 St q15 (.int .i64 2147483627) w_13 fun (w_16 : World) =>
 ∃ (I_17 : Sl → Int → World → Prop) (m_18 : Sl → Int → World → Nat), I_17 ((⟨none, 0, 0⟩ : Sl)) (0) w_16 ∧
 ∀ (l19 : Sl) (i20 : Int), ∀ (w_21 : World), I_17 l19 i20 w_21 →
 IfB (decide ((i20 : Int) < (more2 : Int)))
 (Nw 3 ⟨[(.int .i64 s1)]⟩ w_21 fun (b23 : Nat) (w_22 : World) =>
 Run Try.prog (Builtin.append_ #[24, 24] 24 ⟨[(.slice l19.base l19.len l19.cap), (.slice (⟨some ⟨b23, 0, none⟩, 1, 1⟩ : Sl).base (⟨some ⟨b23, 0, none⟩, 1, 1⟩ : Sl).len (⟨some ⟨b23, 0, none⟩, 1, 1⟩ : Sl).cap)]⟩) kS w_22 fun (s25 : Sl) (w_24 : World) =>
 I_17 (s25) ((i64 ((i20 : Int) + (1 : Int)))) w_24 ∧ m_18 (s25) ((i64 ((i20 : Int) + (1 : Int)))) w_24 < m_18 l19 i20 w_21)
 (Ld (.arr 258) (⟨b14, 0, none⟩ : Addr) w_21 fun (x26 : (Array Value)) =>
 Cl Try.prog [(.arr 258), kI] n_histogram_Add ⟨[(.agg x26), (.slice l19.base l19.len l19.cap)]⟩ w_21 fun (r28 : (Array Value)) (r29 : Int) (w_27 : World) =>
 Nw 23 ⟨List.replicate 258 (.int .i64 0)⟩ w_27 fun (b31 : Nat) (w_30 : World) =>
 StA 258 (⟨b31, 0, none⟩ : Addr) r28 w_30 fun (w_32 : World) =>
 IfB (decide ((more2 : Int) > (20 : Int)))
 (IfB ((r29 : Int) == (2 : Int))
 (Ld (.arr 258) (⟨b31, 0, none⟩ : Addr) w_32 fun (x33 : (Array Value)) =>
 Ld (.arr 258) (⟨b14, 0, none⟩ : Addr) w_32 fun (x34 : (Array Value)) =>
 EqA .i64 258 x33 x34 fun (eq35 : Bool) =>
 IfB eq35
 (Cl Try.prog [kB] n_law06_wakes ⟨[]⟩ w_32 fun (r37 : Bool) (w_36 : World) =>
 R (r37) w_36)
 (R (false) w_32))
 (R (false) w_32))
 (Held w_32 fun (S38 : World → Prop) (w_39 : World) =>
 IfB ((r29 : Int) == (0 : Int))
 (IdxP (⟨b31, 0, none⟩ : Addr) 258 s1 1 fun (q40 : Addr) =>
 LdS kI q40 S38 fun (x41 : Int) =>
 IdxP (⟨b14, 0, none⟩ : Addr) 258 s1 1 fun (q42 : Addr) =>
 LdS kI q42 S38 fun (x43 : Int) =>
 IfB ((x41 : Int) == ((i64 ((x43 : Int) + (more2 : Int))) : Int))
 (LdS (.arr 258) (⟨b31, 0, none⟩ : Addr) S38 fun (x44 : (Array Value)) =>
 LdS (.arr 258) (⟨b14, 0, none⟩ : Addr) S38 fun (x45 : (Array Value)) =>
 Cl Try.prog [kI] n_histogram_Sum ⟨[(.agg x44)]⟩ w_39 fun (r47 : Int) (w_46 : World) =>
 S38 w_46 ∧
 Cl Try.prog [kI] n_histogram_Sum ⟨[(.agg x45)]⟩ w_46 fun (r49 : Int) (w_48 : World) =>
 S38 w_48 ∧
 IfB ((r47 : Int) == ((i64 ((r49 : Int) + (more2 : Int))) : Int))
 (Cl Try.prog [kB] n_law06_wakes ⟨[]⟩ w_48 fun (r51 : Bool) (w_50 : World) =>
 S38 w_50 ∧
 R (r51) w_50)
 (R (false) w_48))
 (R (false) w_39))
 (R (false) w_39)))) fun (K_3 : World → Prop) =>
 IfB (decide ((s1 : Int) < (0 : Int)))
 (Cl Try.prog [kB] n_law06_wakes ⟨[]⟩ w fun (r5 : Bool) (w_4 : World) =>
 R (r5) w_4)
 (IfB (decide ((s1 : Int) ≥ (258 : Int)))
 (Cl Try.prog [kB] n_law06_wakes ⟨[]⟩ w fun (r7 : Bool) (w_6 : World) =>
 R (r7) w_6)
 (IfB (decide ((more2 : Int) < (0 : Int)))
 (Cl Try.prog [kB] n_law06_wakes ⟨[]⟩ w fun (r9 : Bool) (w_8 : World) =>
 R (r9) w_8)
 (IfB (decide ((more2 : Int) > (40 : Int)))
 (Cl Try.prog [kB] n_law06_wakes ⟨[]⟩ w fun (r11 : Bool) (w_10 : World) =>
 R (r11) w_10)
 (K_3  w))))
set_option maxRecDepth 100000 in
theorem law06_HistogramMost.ok (s1 : Int) (more2 : Int) (R : Bool → World → Prop) (w : World) (h : law06_HistogramMost.E s1 more2 R w) : Cl Try.prog [kB] n_law06_HistogramMost ⟨[(.int .i64 s1), (.int .i64 more2)]⟩ w R :=
  calls_of_eq Try.mix Try.f6 [(.int .i64 s1), (.int .i64 more2)] [kB] R 79 [.tmp 4] (by kernel_rfl) (by kernel_rfl) (by kernel_rfl) (by kernel_rfl) (by kernel_rfl)
    (.s .o (.j [] (.s .o (.c (.s .o .o) .o)) (.s .o (.s .o (.s .o (.s (.s .o (.b (.l [(6, kS), (7, kI)] (.s (.s .o (.c .o .o)) (.s (.b .o) .o))))) (.s .o (.s (.s .o (.c (.s .o .o) .o)) (.s .o .o)))))))))
    (by kernel_rfl) h
set_option maxRecDepth 100000 in
/-- winepresslaw06.wakes -/
def law06_wakes.E  (R : Bool → World → Prop) (w : World) : Prop :=
 Nw 3 ⟨[(.int .i64 3), (.int .i64 1), (.int .i64 3), (.int .i64 257)]⟩ w fun (b2 : Nat) (w_1 : World) =>
 Cl Try.prog [(.arr 258), kI] n_histogram_Of ⟨[(.slice (⟨some ⟨b2, 0, none⟩, 4, 4⟩ : Sl).base (⟨some ⟨b2, 0, none⟩, 4, 4⟩ : Sl).len (⟨some ⟨b2, 0, none⟩, 4, 4⟩ : Sl).cap)]⟩ w_1 fun (r4 : (Array Value)) (r5 : Int) (w_3 : World) =>
 Nw 23 ⟨List.replicate 258 (.int .i64 0)⟩ w_3 fun (b7 : Nat) (w_6 : World) =>
 StA 258 (⟨b7, 0, none⟩ : Addr) r4 w_6 fun (w_8 : World) =>
 Nw 3 ⟨[(.int .i64 258)]⟩ w_8 fun (b10 : Nat) (w_9 : World) =>
 Cl Try.prog [(.arr 258), kI] n_histogram_Of ⟨[(.slice (⟨some ⟨b10, 0, none⟩, 1, 1⟩ : Sl).base (⟨some ⟨b10, 0, none⟩, 1, 1⟩ : Sl).len (⟨some ⟨b10, 0, none⟩, 1, 1⟩ : Sl).cap)]⟩ w_9 fun (r12 : (Array Value)) (r13 : Int) (w_11 : World) =>
 Nw 23 ⟨List.replicate 258 (.int .i64 0)⟩ w_11 fun (b15 : Nat) (w_14 : World) =>
 StA 258 (⟨b15, 0, none⟩ : Addr) r12 w_14 fun (w_16 : World) =>
 Ld (.arr 258) (⟨b7, 0, none⟩ : Addr) w_16 fun (x17 : (Array Value)) =>
 Nw 3 ⟨[(.int .i64 1), (.int .i64 1)]⟩ w_16 fun (b19 : Nat) (w_18 : World) =>
 Cl Try.prog [(.arr 258), kI] n_histogram_Add ⟨[(.agg x17), (.slice (⟨some ⟨b19, 0, none⟩, 2, 2⟩ : Sl).base (⟨some ⟨b19, 0, none⟩, 2, 2⟩ : Sl).len (⟨some ⟨b19, 0, none⟩, 2, 2⟩ : Sl).cap)]⟩ w_18 fun (r21 : (Array Value)) (r22 : Int) (w_20 : World) =>
 Nw 23 ⟨List.replicate 258 (.int .i64 0)⟩ w_20 fun (b24 : Nat) (w_23 : World) =>
 StA 258 (⟨b24, 0, none⟩ : Addr) r21 w_23 fun (w_25 : World) =>
 Bld Try.prog 23 [(0, (.int .i64 (-1)))] fun (cs26 : Array Value) =>
 Cl Try.prog [(.arr 258), kI] n_histogram_Add ⟨[(.agg cs26), (.slice none 0 0)]⟩ w_25 fun (r28 : (Array Value)) (r29 : Int) (w_27 : World) =>
 Nw 23 ⟨List.replicate 258 (.int .i64 0)⟩ w_27 fun (b31 : Nat) (w_30 : World) =>
 StA 258 (⟨b31, 0, none⟩ : Addr) r28 w_30 fun (w_32 : World) =>
 IfB ((r5 : Int) == (0 : Int))
 (IdxP (⟨b7, 0, none⟩ : Addr) 258 3 1 fun (q33 : Addr) =>
 Ld kI q33 w_32 fun (x34 : Int) =>
 IfB ((x34 : Int) == (2 : Int))
 (IdxP (⟨b7, 0, none⟩ : Addr) 258 1 1 fun (q35 : Addr) =>
 Ld kI q35 w_32 fun (x36 : Int) =>
 IfB ((x36 : Int) == (1 : Int))
 (IdxP (⟨b7, 0, none⟩ : Addr) 258 257 1 fun (q37 : Addr) =>
 Ld kI q37 w_32 fun (x38 : Int) =>
 IfB ((x38 : Int) == (1 : Int))
 (IdxP (⟨b7, 0, none⟩ : Addr) 258 0 1 fun (q39 : Addr) =>
 Ld kI q39 w_32 fun (x40 : Int) =>
 IfB ((x40 : Int) == (0 : Int))
 (IfB ((r13 : Int) == (2 : Int))
 (IfB ((r22 : Int) == (0 : Int))
 (IdxP (⟨b24, 0, none⟩ : Addr) 258 1 1 fun (q41 : Addr) =>
 Ld kI q41 w_32 fun (x42 : Int) =>
 IfB ((x42 : Int) == (3 : Int))
 (IfB ((r29 : Int) == (2 : Int))
 (Ld (.arr 258) (⟨b7, 0, none⟩ : Addr) w_32 fun (x43 : (Array Value)) =>
 Cl Try.prog [kI] n_histogram_Sum ⟨[(.agg x43)]⟩ w_32 fun (r45 : Int) (w_44 : World) =>
 IfB ((r45 : Int) == (4 : Int))
 (Ld (.arr 258) (⟨b7, 0, none⟩ : Addr) w_44 fun (x46 : (Array Value)) =>
 Cl Try.prog [kS] n_histogram_Used ⟨[(.agg x46)]⟩ w_44 fun (r48 : Sl) (w_47 : World) =>
 Nw 3 ⟨[(.int .i64 1), (.int .i64 3), (.int .i64 257)]⟩ w_47 fun (b50 : Nat) (w_49 : World) =>
 Cl Try.prog [kB] n_ref02_Ints ⟨[(.slice r48.base r48.len r48.cap), (.slice (⟨some ⟨b50, 0, none⟩, 3, 3⟩ : Sl).base (⟨some ⟨b50, 0, none⟩, 3, 3⟩ : Sl).len (⟨some ⟨b50, 0, none⟩, 3, 3⟩ : Sl).cap)]⟩ w_49 fun (r52 : Bool) (w_51 : World) =>
 IfB r52
 (Ld (.arr 258) (⟨b7, 0, none⟩ : Addr) w_51 fun (x53 : (Array Value)) =>
 Cl Try.prog [kS] n_histogram_Ranks ⟨[(.agg x53)]⟩ w_51 fun (r55 : Sl) (w_54 : World) =>
 Nw 3 ⟨[(.int .i64 1), (.int .i64 257), (.int .i64 3)]⟩ w_54 fun (b57 : Nat) (w_56 : World) =>
 Cl Try.prog [kB] n_ref02_Ints ⟨[(.slice r55.base r55.len r55.cap), (.slice (⟨some ⟨b57, 0, none⟩, 3, 3⟩ : Sl).base (⟨some ⟨b57, 0, none⟩, 3, 3⟩ : Sl).len (⟨some ⟨b57, 0, none⟩, 3, 3⟩ : Sl).cap)]⟩ w_56 fun (r59 : Bool) (w_58 : World) =>
 IfB r59
 (Ld (.arr 258) (⟨b7, 0, none⟩ : Addr) w_58 fun (x60 : (Array Value)) =>
 Ld (.arr 258) (⟨b24, 0, none⟩ : Addr) w_58 fun (x61 : (Array Value)) =>
 Ld (.arr 258) (⟨b7, 0, none⟩ : Addr) w_58 fun (x62 : (Array Value)) =>
 BldS Try.prog 23 3 [(0, (.agg x60)), (1, (.agg x61)), (2, (.agg x62))] fun (cs65 : Array Value) =>
 Nw 23 cs65 w_58 fun (b64 : Nat) (w_63 : World) =>
 Cl Try.prog [kI] n_histogram_Different ⟨[(.slice (⟨some ⟨b64, 0, none⟩, 3, 3⟩ : Sl).base (⟨some ⟨b64, 0, none⟩, 3, 3⟩ : Sl).len (⟨some ⟨b64, 0, none⟩, 3, 3⟩ : Sl).cap)]⟩ w_63 fun (r67 : Int) (w_66 : World) =>
 IfB ((r67 : Int) == (2 : Int))
 (Ld (.arr 258) (⟨b7, 0, none⟩ : Addr) w_66 fun (x68 : (Array Value)) =>
 Cl Try.prog [kB] n_histogram_Valid ⟨[(.agg x68)]⟩ w_66 fun (r70 : Bool) (w_69 : World) =>
 IfB r70
 (Bld Try.prog 23 [(0, (.int .i64 (-1)))] fun (cs71 : Array Value) =>
 Cl Try.prog [kB] n_histogram_Valid ⟨[(.agg cs71)]⟩ w_69 fun (r73 : Bool) (w_72 : World) =>
 IfB (!r73)
 (Cl Try.prog [kI] n_histogram_Different ⟨[(.slice none 0 0)]⟩ w_72 fun (r75 : Int) (w_74 : World) =>
 R (((r75 : Int) == (0 : Int))) w_74)
 (R (false) w_72))
 (R (false) w_69))
 (R (false) w_66))
 (R (false) w_58))
 (R (false) w_51))
 (R (false) w_44))
 (R (false) w_32))
 (R (false) w_32))
 (R (false) w_32))
 (R (false) w_32))
 (R (false) w_32))
 (R (false) w_32))
 (R (false) w_32))
 (R (false) w_32))
 (R (false) w_32)
set_option maxRecDepth 100000 in
theorem law06_wakes.ok  (R : Bool → World → Prop) (w : World) (h : law06_wakes.E  R w) : Cl Try.prog [kB] n_law06_wakes ⟨[]⟩ w R :=
  calls_of_eq Try.mix Try.f12 [] [kB] R 107 [.tmp 0] (by kernel_rfl) (by kernel_rfl) (by kernel_rfl) (by kernel_rfl) (by kernel_rfl)
    (.s .o (.s .o (.s .o (.s .o (.s .o (.s .o .o))))))
    (by kernel_rfl) h
end Go.Proofs.Ytbldlpljfppmgaa
