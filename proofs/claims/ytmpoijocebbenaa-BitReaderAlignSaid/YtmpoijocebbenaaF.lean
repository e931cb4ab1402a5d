/-
  The formulas of the functions of this translation, printed by program: each is the verification condition of its function, and holds of no other. Conditions: none.
-/
import Derived.Test.YtmpoijocebbenaaVc
import Derived.Test.YtmpoijocebbenaaChecked
namespace Go.Proofs.Ytmpoijocebbenaa
open Go Go.Vc
abbrev n_law03_BitReaderMatches : Nat := 3
abbrev n_law03_BitReaderAll : Nat := 4
abbrev n_law03_BitReaderAlign : Nat := 5
abbrev n_law03_BitReaderOwn : Nat := 6
abbrev n_law03_BitReaderPeeks : Nat := 7
abbrev n_law03_small : Nat := 8
abbrev n_law03_wakes : Nat := 9
abbrev n_bitreader_New : Nat := 10
abbrev n_bitreader_Reader_Feed : Nat := 11
abbrev n_ref03_Reader_Feed : Nat := 12
abbrev n_bitreader_Reader_Peek : Nat := 13
abbrev n_ref03_Reader_Peek : Nat := 14
abbrev n_bitreader_Reader_Take : Nat := 15
abbrev n_ref03_Reader_Take : Nat := 16
abbrev n_bitreader_Reader_Align : Nat := 17
abbrev n_ref03_Reader_Align : Nat := 18
abbrev n_bitreader_Reader_End : Nat := 19
abbrev n_bitreader_Reader_Left : Nat := 20
abbrev n_ref03_Reader_Left : Nat := 21
abbrev n_bitreader_Reader_Used : Nat := 22
abbrev n_bitreader_Reader_Ended : Nat := 23
abbrev n_ref03_Great : Nat := 24
abbrev n_ref03_Join : Nat := 25
abbrev n_ref03_Bit : Nat := 26
theorem Try.mix : Try.prog.follows .mixedOrders = true := by kernel_rfl
/-- winepresslaw03.BitReaderMatches -/
def law03_BitReaderMatches.E (l1 : Sl) (R : Bool → World → Prop) (w : World) : Prop :=
 Cl Try.prog [kB] n_law03_small ⟨[(.slice l1.base l1.len l1.cap)]⟩ w fun (r3 : Bool) (w_2 : World) =>
 IfB (!r3)
 (Cl Try.prog [kB] n_law03_wakes ⟨[]⟩ w_2 fun (r5 : Bool) (w_4 : World) =>
 R (r5) w_4)
 (Cl Try.prog [kP] n_bitreader_New ⟨[]⟩ w_2 fun (r7 : (Option Addr)) (w_6 : World) =>
 Nw 30 ⟨[(.slice none 0 0), (.int .i64 0), (.bool false)]⟩ w_6 fun (b9 : Nat) (w_8 : World) =>
 IfB (Option.isNone (r7 : Option Addr))
 (R (false) w_8)
 (∃ (I_10 : Int → World → Prop) (m_11 : Int → World → Nat), I_10 (0) w_8 ∧
 ∀ (i12 : Int), ∀ (w_13 : World), I_10 i12 w_13 →
 IfB (decide ((i12 : Int) < ((l1.len : Int) : Int)))
 (Join (fun (w_76 : World) =>
 I_10 ((i64 ((i12 : Int) + (1 : Int)))) w_76 ∧ m_11 ((i64 ((i12 : Int) + (1 : Int)))) w_76 < m_11 i12 w_13) fun (K_14 : World → Prop) =>
 Join (fun (ok62 : Bool) (w_63 : World) =>
 Held w_63 fun (S64 : World → Prop) (w_65 : World) =>
 IfB (!ok62)
 (R (false) w_65)
 (Cl Try.prog [kI] n_bitreader_Reader_Left ⟨[(.pointer r7)]⟩ w_65 fun (r67 : Int) (w_66 : World) =>
 S64 w_66 ∧
 Cl Try.prog [kI] n_ref03_Reader_Left ⟨[(.pointer (some (⟨b9, 0, none⟩ : Addr)))]⟩ w_66 fun (r69 : Int) (w_68 : World) =>
 S64 w_68 ∧
 IfB ((r67 : Int) != (r69 : Int))
 (R (false) w_68)
 (LdS kI ((⟨b9, 0, none⟩ : Addr).add 1) S64 fun (Used70 : Int) =>
 Cl Try.prog [kI] n_bitreader_Reader_Used ⟨[(.pointer r7)]⟩ w_68 fun (r72 : Int) (w_71 : World) =>
 S64 w_71 ∧
 IfB ((r72 : Int) != (Used70 : Int))
 (R (false) w_71)
 (LdS kB ((⟨b9, 0, none⟩ : Addr).add 2) S64 fun (Ended73 : Bool) =>
 Cl Try.prog [kB] n_bitreader_Reader_Ended ⟨[(.pointer r7)]⟩ w_71 fun (r75 : Bool) (w_74 : World) =>
 S64 w_74 ∧
 IfB (!(r75 == Ended73))
 (R (false) w_74)
 (K_14  w_74))))) fun (K_15 : Bool → World → Prop) =>
 Idx l1 i12 3 fun (q16 : Addr) =>
 Ld kI (q16.add 0) w_13 fun (Do17 : Int) =>
 IfB ((Do17 : Int) == (0 : Int))
 (Held w_13 fun (S18 : World → Prop) (w_19 : World) =>
 Idx l1 i12 3 fun (q20 : Addr) =>
 LdS kS (q20.add 2) S18 fun (Chunk21 : Sl) =>
 Idx l1 i12 3 fun (q22 : Addr) =>
 LdS kS (q22.add 2) S18 fun (Chunk23 : Sl) =>
 Nw 28 ⟨[(.slice Chunk21.base Chunk21.len Chunk21.cap)]⟩ w_19 fun (b25 : Nat) (w_24 : World) =>
 S18 w_24 ∧
 Cl Try.prog [kB] n_bitreader_Reader_Feed ⟨[(.pointer r7), (.slice (⟨some ⟨b25, 0, none⟩, 1, 1⟩ : Sl).base (⟨some ⟨b25, 0, none⟩, 1, 1⟩ : Sl).len (⟨some ⟨b25, 0, none⟩, 1, 1⟩ : Sl).cap)]⟩ w_24 fun (r27 : Bool) (w_26 : World) =>
 S18 w_26 ∧
 Cl Try.prog [kB] n_ref03_Reader_Feed ⟨[(.pointer (some (⟨b9, 0, none⟩ : Addr))), (.slice Chunk23.base Chunk23.len Chunk23.cap)]⟩ w_26 fun (r29 : Bool) (w_28 : World) =>
 S18 w_28 ∧
 K_15 ((r27 == r29)) w_28)
 (IfB ((Do17 : Int) == (1 : Int))
 (Idx l1 i12 3 fun (q30 : Addr) =>
 Ld kI (q30.add 1) w_13 fun (Width31 : Int) =>
 Cl Try.prog [(kInt .u32), kB] n_bitreader_Reader_Peek ⟨[(.pointer r7), (.int .i64 Width31)]⟩ w_13 fun (r33 : Int) (r34 : Bool) (w_32 : World) =>
 Idx l1 i12 3 fun (q35 : Addr) =>
 Ld kI (q35.add 1) w_32 fun (Width36 : Int) =>
 Cl Try.prog [(kInt .u32), kB] n_ref03_Reader_Peek ⟨[(.pointer (some (⟨b9, 0, none⟩ : Addr))), (.int .i64 Width36)]⟩ w_32 fun (r38 : Int) (r39 : Bool) (w_37 : World) =>
 IfB ((r33 : Int) == (r38 : Int))
 (K_15 ((r34 == r39)) w_37)
 (K_15 (false) w_37))
 (IfB ((Do17 : Int) == (2 : Int))
 (Idx l1 i12 3 fun (q40 : Addr) =>
 Ld kI (q40.add 1) w_13 fun (Width41 : Int) =>
 Cl Try.prog [(kInt .u32), kB] n_bitreader_Reader_Take ⟨[(.pointer r7), (.int .i64 Width41)]⟩ w_13 fun (r43 : Int) (r44 : Bool) (w_42 : World) =>
 Idx l1 i12 3 fun (q45 : Addr) =>
 Ld kI (q45.add 1) w_42 fun (Width46 : Int) =>
 Cl Try.prog [(kInt .u32), kB] n_ref03_Reader_Take ⟨[(.pointer (some (⟨b9, 0, none⟩ : Addr))), (.int .i64 Width46)]⟩ w_42 fun (r48 : Int) (r49 : Bool) (w_47 : World) =>
 IfB ((r43 : Int) == (r48 : Int))
 (K_15 ((r44 == r49)) w_47)
 (K_15 (false) w_47))
 (IfB ((Do17 : Int) == (3 : Int))
 (Cl Try.prog [(kInt .u32), kI] n_bitreader_Reader_Align ⟨[(.pointer r7)]⟩ w_13 fun (r51 : Int) (r52 : Int) (w_50 : World) =>
 Cl Try.prog [(kInt .u32), kI] n_ref03_Reader_Align ⟨[(.pointer (some (⟨b9, 0, none⟩ : Addr)))]⟩ w_50 fun (r54 : Int) (r55 : Int) (w_53 : World) =>
 IfB ((r51 : Int) == (r54 : Int))
 (K_15 (((r52 : Int) == (r55 : Int))) w_53)
 (K_15 (false) w_53))
 (Held w_13 fun (S56 : World → Prop) (w_57 : World) =>
 LdS kB ((⟨b9, 0, none⟩ : Addr).add 2) S56 fun (Ended58 : Bool) =>
 Cl Try.prog [kB] n_bitreader_Reader_End ⟨[(.pointer r7)]⟩ w_57 fun (r60 : Bool) (w_59 : World) =>
 S56 w_59 ∧
 St ((⟨b9, 0, none⟩ : Addr).add 2) (.bool true) w_59 fun (w_61 : World) =>
 K_15 ((r60 == (!Ended58))) w_61)))))
 (Cl Try.prog [kB] n_law03_wakes ⟨[]⟩ w_13 fun (r78 : Bool) (w_77 : World) =>
 R (r78) w_77)))
theorem law03_BitReaderMatches.ok (l1 : Sl) (R : Bool → World → Prop) (w : World) (h : law03_BitReaderMatches.E l1 R w) : Cl Try.prog [kB] n_law03_BitReaderMatches ⟨[(.slice l1.base l1.len l1.cap)]⟩ w R :=
  calls_of_eq Try.mix Try.f3 [(.slice l1.base l1.len l1.cap)] [kB] R 176 [.tmp 2] (by kernel_rfl) (by kernel_rfl) (by kernel_rfl) (by kernel_rfl) (by kernel_rfl)
    (.s .o (.s (.s .o (.c (.s .o .o) .o)) (.s .o (.s .o (.s (.s .o (.c (.s .o .o) .o)) (.s (.s .o (.b (.l [(5, kI)] (.s (.s .o (.c .o .o)) (.j [] (.b (.s .o (.j [(6, kB)] (.s .o (.b (.s .o (.c .o (.s .o (.c (.s .o (.s .o .o)) (.s .o (.c (.s .o (.s .o .o)) (.s .o (.c (.s .o (.s .o .o)) (.s .o .o))))))))))) (.s .o (.c (.s .o .o) .o))))) .o))))) (.s .o .o)))))))
    (by kernel_rfl) h
/-- winepresslaw03.BitReaderAll -/
def law03_BitReaderAll.E (chunks1 : Sl) (widths2 : Sl) (R : Bool → World → Prop) (w : World) : Prop :=
 Join (fun (w_10 : World) =>
 Cl Try.prog [kS] n_ref03_Join ⟨[(.slice chunks1.base chunks1.len chunks1.cap)]⟩ w_10 fun (r12 : Sl) (w_11 : World) =>
 IfB (decide (((r12.len : Int) : Int) > (300 : Int)))
 (Cl Try.prog [kB] n_law03_wakes ⟨[]⟩ w_11 fun (r14 : Bool) (w_13 : World) =>
 R (r14) w_13)
 (Cl Try.prog [kP] n_bitreader_New ⟨[]⟩ w_11 fun (r16 : (Option Addr)) (w_15 : World) =>
 Cl Try.prog [kP] n_bitreader_New ⟨[]⟩ w_15 fun (r18 : (Option Addr)) (w_17 : World) =>
 Join (fun (w_24 : World) =>
 ∃ (I_25 : Int → Int → Int → World → Prop) (m_26 : Int → Int → Int → World → Nat), I_25 (0) (0) (0) w_24 ∧
 ∀ (next27 : Int) (at_28 : Int) (i29 : Int), ∀ (w_30 : World), I_25 next27 at_28 i29 w_30 →
 IfB (decide ((i29 : Int) < ((widths2.len : Int) : Int)))
 (Join (fun (next69 : Int) (at_70 : Int) (w_71 : World) =>
 I_25 (next69) (at_70) ((i64 ((i29 : Int) + (1 : Int)))) w_71 ∧ m_26 (next69) (at_70) ((i64 ((i29 : Int) + (1 : Int)))) w_71 < m_26 next27 at_28 i29 w_30) fun (K_31 : Int → Int → World → Prop) =>
 Idx widths2 i29 1 fun (q32 : Addr) =>
 Ld kI q32 w_30 fun (x33 : Int) =>
 Join (fun (next47 : Int) (w_48 : World) =>
 Cl Try.prog [(kInt .u32), kB] n_bitreader_Reader_Take ⟨[(.pointer r16), (.int .i64 (if (32 : Int) < ((if (0 : Int) > (x33 : Int) then (0 : Int) else (x33 : Int)) : Int) then (32 : Int) else ((if (0 : Int) > (x33 : Int) then (0 : Int) else (x33 : Int)) : Int)))]⟩ w_48 fun (r50 : Int) (r51 : Bool) (w_49 : World) =>
 Cl Try.prog [(kInt .u32), kB] n_bitreader_Reader_Take ⟨[(.pointer r18), (.int .i64 (if (32 : Int) < ((if (0 : Int) > (x33 : Int) then (0 : Int) else (x33 : Int)) : Int) then (32 : Int) else ((if (0 : Int) > (x33 : Int) then (0 : Int) else (x33 : Int)) : Int)))]⟩ w_49 fun (r53 : Int) (r54 : Bool) (w_52 : World) =>
 Join (fun (w_56 : World) =>
 IfB (!r51)
 (K_31 (next47) (at_28) w_56)
 (∃ (I_57 : Int → World → Prop) (m_58 : Int → World → Nat), I_57 (0) w_56 ∧
 ∀ (k59 : Int), ∀ (w_60 : World), I_57 k59 w_60 →
 IfB (decide ((k59 : Int) < ((if (32 : Int) < ((if (0 : Int) > (x33 : Int) then (0 : Int) else (x33 : Int)) : Int) then (32 : Int) else ((if (0 : Int) > (x33 : Int) then (0 : Int) else (x33 : Int)) : Int)) : Int)))
 (0 ≤ ((u64 (i64 (((i64 (((if (32 : Int) < ((if (0 : Int) > (x33 : Int) then (0 : Int) else (x33 : Int)) : Int) then (32 : Int) else ((if (0 : Int) > (x33 : Int) then (0 : Int) else (x33 : Int)) : Int)) : Int) - (1 : Int))) : Int) - (k59 : Int)))) : Int) ∧
 Cl Try.prog [kI] n_ref03_Bit ⟨[(.slice r12.base r12.len r12.cap), (.int .i64 (i64 ((at_28 : Int) + (k59 : Int))))]⟩ w_60 fun (r62 : Int) (w_61 : World) =>
 IfB (((i64 (iand .u32 ((ishr .u32 (r50 : Int) ((u64 (i64 (((i64 (((if (32 : Int) < ((if (0 : Int) > (x33 : Int) then (0 : Int) else (x33 : Int)) : Int) then (32 : Int) else ((if (0 : Int) > (x33 : Int) then (0 : Int) else (x33 : Int)) : Int)) : Int) - (1 : Int))) : Int) - (k59 : Int)))) : Int)) : Int) (1 : Int))) : Int) != (r62 : Int))
 (R (false) w_61)
 (I_57 ((i64 ((k59 : Int) + (1 : Int)))) w_61 ∧ m_58 ((i64 ((k59 : Int) + (1 : Int)))) w_61 < m_58 k59 w_60))
 (Cl Try.prog [kI] n_bitreader_Reader_Used ⟨[(.pointer r16)]⟩ w_60 fun (r64 : Int) (w_63 : World) =>
 IfB ((r64 : Int) != ((i64 ((at_28 : Int) + ((if (32 : Int) < ((if (0 : Int) > (x33 : Int) then (0 : Int) else (x33 : Int)) : Int) then (32 : Int) else ((if (0 : Int) > (x33 : Int) then (0 : Int) else (x33 : Int)) : Int)) : Int))) : Int))
 (R (false) w_63)
 (Cl Try.prog [kI] n_bitreader_Reader_Used ⟨[(.pointer r18)]⟩ w_63 fun (r66 : Int) (w_65 : World) =>
 IfB ((r66 : Int) != ((i64 ((at_28 : Int) + ((if (32 : Int) < ((if (0 : Int) > (x33 : Int) then (0 : Int) else (x33 : Int)) : Int) then (32 : Int) else ((if (0 : Int) > (x33 : Int) then (0 : Int) else (x33 : Int)) : Int)) : Int))) : Int))
 (R (false) w_65)
 (Cl Try.prog [kI] n_bitreader_Reader_Left ⟨[(.pointer r16)]⟩ w_65 fun (r68 : Int) (w_67 : World) =>
 IfB ((r68 : Int) != ((i64 (((i64 ((8 : Int) * ((r12.len : Int) : Int))) : Int) - ((i64 ((at_28 : Int) + ((if (32 : Int) < ((if (0 : Int) > (x33 : Int) then (0 : Int) else (x33 : Int)) : Int) then (32 : Int) else ((if (0 : Int) > (x33 : Int) then (0 : Int) else (x33 : Int)) : Int)) : Int))) : Int))) : Int))
 (R (false) w_67)
 (K_31 (next47) ((i64 ((at_28 : Int) + ((if (32 : Int) < ((if (0 : Int) > (x33 : Int) then (0 : Int) else (x33 : Int)) : Int) then (32 : Int) else ((if (0 : Int) > (x33 : Int) then (0 : Int) else (x33 : Int)) : Int)) : Int)))) w_67)))))) fun (K_55 : World → Prop) =>
 IfB (!(r51 == (decide (((i64 ((at_28 : Int) + ((if (32 : Int) < ((if (0 : Int) > (x33 : Int) then (0 : Int) else (x33 : Int)) : Int) then (32 : Int) else ((if (0 : Int) > (x33 : Int) then (0 : Int) else (x33 : Int)) : Int)) : Int))) : Int) ≤ ((i64 ((8 : Int) * ((r12.len : Int) : Int))) : Int)))))
 (R (false) w_52)
 (IfB (!(r54 == r51))
 (R (false) w_52)
 (IfB ((r53 : Int) != (r50 : Int))
 (R (false) w_52)
 (K_55  w_52)))) fun (K_34 : Int → World → Prop) =>
 ∃ (I_35 : Int → World → Prop) (m_36 : Int → World → Nat), I_35 (next27) w_30 ∧
 ∀ (next37 : Int), ∀ (w_38 : World), I_35 next37 w_38 →
 IfB (decide ((next37 : Int) < ((chunks1.len : Int) : Int)))
 (Cl Try.prog [kI] n_bitreader_Reader_Left ⟨[(.pointer r18)]⟩ w_38 fun (r40 : Int) (w_39 : World) =>
 IfB (decide ((r40 : Int) < ((if (32 : Int) < ((if (0 : Int) > (x33 : Int) then (0 : Int) else (x33 : Int)) : Int) then (32 : Int) else ((if (0 : Int) > (x33 : Int) then (0 : Int) else (x33 : Int)) : Int)) : Int)))
 (Idx chunks1 next37 1 fun (q41 : Addr) =>
 Ld kS q41 w_39 fun (x42 : Sl) =>
 Nw 28 ⟨[(.slice x42.base x42.len x42.cap)]⟩ w_39 fun (b44 : Nat) (w_43 : World) =>
 Cl Try.prog [kB] n_bitreader_Reader_Feed ⟨[(.pointer r18), (.slice (⟨some ⟨b44, 0, none⟩, 1, 1⟩ : Sl).base (⟨some ⟨b44, 0, none⟩, 1, 1⟩ : Sl).len (⟨some ⟨b44, 0, none⟩, 1, 1⟩ : Sl).cap)]⟩ w_43 fun (r46 : Bool) (w_45 : World) =>
 IfB (!r46)
 (R (false) w_45)
 (I_35 ((i64 ((next37 : Int) + (1 : Int)))) w_45 ∧ m_36 ((i64 ((next37 : Int) + (1 : Int)))) w_45 < m_36 next37 w_38))
 (K_34 (next37) w_39))
 (K_34 (next37) w_38))
 (Cl Try.prog [kB] n_law03_wakes ⟨[]⟩ w_30 fun (r73 : Bool) (w_72 : World) =>
 R (r73) w_72)) fun (K_19 : World → Prop) =>
 IfB (Option.isNone (r16 : Option Addr))
 (R (false) w_17)
 (IfB (Option.isNone (r18 : Option Addr))
 (R (false) w_17)
 (Nw 28 ⟨[(.slice r12.base r12.len r12.cap)]⟩ w_17 fun (b21 : Nat) (w_20 : World) =>
 Cl Try.prog [kB] n_bitreader_Reader_Feed ⟨[(.pointer r16), (.slice (⟨some ⟨b21, 0, none⟩, 1, 1⟩ : Sl).base (⟨some ⟨b21, 0, none⟩, 1, 1⟩ : Sl).len (⟨some ⟨b21, 0, none⟩, 1, 1⟩ : Sl).cap)]⟩ w_20 fun (r23 : Bool) (w_22 : World) =>
 IfB (!r23)
 (R (false) w_22)
 (K_19  w_22))))) fun (K_3 : World → Prop) =>
 Cl Try.prog [kB] n_ref03_Great ⟨[(.slice chunks1.base chunks1.len chunks1.cap)]⟩ w fun (r5 : Bool) (w_4 : World) =>
 IfB r5
 (Cl Try.prog [kB] n_law03_wakes ⟨[]⟩ w_4 fun (r7 : Bool) (w_6 : World) =>
 R (r7) w_6)
 (IfB (decide (((widths2.len : Int) : Int) > (300 : Int)))
 (Cl Try.prog [kB] n_law03_wakes ⟨[]⟩ w_4 fun (r9 : Bool) (w_8 : World) =>
 R (r9) w_8)
 (K_3  w_4))
theorem law03_BitReaderAll.ok (chunks1 : Sl) (widths2 : Sl) (R : Bool → World → Prop) (w : World) (h : law03_BitReaderAll.E chunks1 widths2 R w) : Cl Try.prog [kB] n_law03_BitReaderAll ⟨[(.slice chunks1.base chunks1.len chunks1.cap), (.slice widths2.base widths2.len widths2.cap)]⟩ w R :=
  calls_of_eq Try.mix Try.f4 [(.slice chunks1.base chunks1.len chunks1.cap), (.slice widths2.base widths2.len widths2.cap)] [kB] R 155 [.tmp 4] (by kernel_rfl) (by kernel_rfl) (by kernel_rfl) (by kernel_rfl) (by kernel_rfl)
    (.s .o (.j [] (.s .o (.c (.s .o .o) .o)) (.s .o (.s (.s .o (.c (.s .o .o) .o)) (.s .o (.j [] (.s .o (.c (.s .o .o) .o)) (.s .o (.s (.s .o (.b (.l [(8, kI), (9, kI), (10, kI)] (.s (.s .o (.c .o .o)) (.j [(8, kI), (9, kI)] (.b (.s .o (.j [(8, kI)] (.b (.l [(8, kI)] (.s (.s .o (.c .o .o)) (.b (.s (.s .o (.c (.s .o .o) .o)) .o))))) (.s .o (.s .o (.j [] (.s .o (.c (.s .o .o) .o)) (.s (.s .o (.c .o .o)) (.s (.s .o (.b (.l [(16, kI)] (.s (.s .o (.c .o .o)) (.s (.b (.s .o (.c (.s .o .o) .o))) .o))))) (.s .o (.s .o (.c (.s .o .o) .o))))))))))) .o))))) (.s .o .o)))))))))
    (by kernel_rfl) h
/-- winepresslaw03.BitReaderAlign -/
def law03_BitReaderAlign.E (b1 : Sl) (bits2 : Int) (R : Bool → World → Prop) (w : World) : Prop :=
 Join (fun (w_10 : World) =>
 Cl Try.prog [kP] n_bitreader_New ⟨[]⟩ w_10 fun (r12 : (Option Addr)) (w_11 : World) =>
 Join (fun (w_18 : World) =>
 ∃ (I_19 : Int → World → Prop) (m_20 : Int → World → Nat), I_19 (0) w_18 ∧
 ∀ (i21 : Int), ∀ (w_22 : World), I_19 i21 w_22 →
 IfB (decide ((i21 : Int) < (bits2 : Int)))
 (Cl Try.prog [(kInt .u32), kB] n_bitreader_Reader_Take ⟨[(.pointer r12), (.int .i64 1)]⟩ w_22 fun (r24 : Int) (r25 : Bool) (w_23 : World) =>
 IfB (!r25)
 (R (false) w_23)
 (I_19 ((i64 ((i21 : Int) + (1 : Int)))) w_23 ∧ m_20 ((i64 ((i21 : Int) + (1 : Int)))) w_23 < m_20 i21 w_22))
 (Cl Try.prog [(kInt .u32), kI] n_bitreader_Reader_Align ⟨[(.pointer r12)]⟩ w_22 fun (r27 : Int) (r28 : Int) (w_26 : World) =>
 (8 : Int) ≠ 0 ∧
 (8 : Int) ≠ 0 ∧
 Join (fun (w_34 : World) =>
 ∃ (I_35 : Int → World → Prop) (m_36 : Int → World → Nat), I_35 (0) w_34 ∧
 ∀ (k37 : Int), ∀ (w_38 : World), I_35 k37 w_38 →
 IfB (decide ((k37 : Int) < (r28 : Int)))
 (0 ≤ ((u64 (i64 (((i64 ((r28 : Int) - (1 : Int))) : Int) - (k37 : Int)))) : Int) ∧
 Cl Try.prog [kI] n_ref03_Bit ⟨[(.slice b1.base b1.len b1.cap), (.int .i64 (i64 ((bits2 : Int) + (k37 : Int))))]⟩ w_38 fun (r40 : Int) (w_39 : World) =>
 IfB (((i64 (iand .u32 ((ishr .u32 (r27 : Int) ((u64 (i64 (((i64 ((r28 : Int) - (1 : Int))) : Int) - (k37 : Int)))) : Int)) : Int) (1 : Int))) : Int) != (r40 : Int))
 (R (false) w_39)
 (I_35 ((i64 ((k37 : Int) + (1 : Int)))) w_39 ∧ m_36 ((i64 ((k37 : Int) + (1 : Int)))) w_39 < m_36 k37 w_38))
 (Cl Try.prog [(kInt .u32), kI] n_bitreader_Reader_Align ⟨[(.pointer r12)]⟩ w_38 fun (r42 : Int) (r43 : Int) (w_41 : World) =>
 IfB ((r42 : Int) == (0 : Int))
 (IfB ((r43 : Int) == (0 : Int))
 (IfB (decide ((r28 : Int) > (0 : Int)))
 (Cl Try.prog [kB] n_law03_wakes ⟨[]⟩ w_41 fun (r45 : Bool) (w_44 : World) =>
 R (r45) w_44)
 (IfB ((r27 : Int) == (0 : Int))
 (Cl Try.prog [kB] n_law03_wakes ⟨[]⟩ w_41 fun (r47 : Bool) (w_46 : World) =>
 R (r47) w_46)
 (R (false) w_41)))
 (R (false) w_41))
 (R (false) w_41))) fun (K_29 : World → Prop) =>
 IfB ((r28 : Int) != ((Int.tmod ((i64 ((8 : Int) - ((Int.tmod (bits2 : Int) (8 : Int)) : Int))) : Int) (8 : Int)) : Int))
 (R (false) w_26)
 (Cl Try.prog [kI] n_bitreader_Reader_Used ⟨[(.pointer r12)]⟩ w_26 fun (r31 : Int) (w_30 : World) =>
 IfB ((r31 : Int) != ((i64 ((bits2 : Int) + ((Int.tmod ((i64 ((8 : Int) - ((Int.tmod (bits2 : Int) (8 : Int)) : Int))) : Int) (8 : Int)) : Int))) : Int))
 (R (false) w_30)
 (Cl Try.prog [kI] n_bitreader_Reader_Left ⟨[(.pointer r12)]⟩ w_30 fun (r33 : Int) (w_32 : World) =>
 IfB ((r33 : Int) != ((i64 (((i64 (((i64 ((8 : Int) * ((b1.len : Int) : Int))) : Int) - (bits2 : Int))) : Int) - ((Int.tmod ((i64 ((8 : Int) - ((Int.tmod (bits2 : Int) (8 : Int)) : Int))) : Int) (8 : Int)) : Int))) : Int))
 (R (false) w_32)
 (K_29  w_32))))) fun (K_13 : World → Prop) =>
 IfB (Option.isNone (r12 : Option Addr))
 (R (false) w_11)
 (Nw 28 ⟨[(.slice b1.base b1.len b1.cap)]⟩ w_11 fun (b15 : Nat) (w_14 : World) =>
 Cl Try.prog [kB] n_bitreader_Reader_Feed ⟨[(.pointer r12), (.slice (⟨some ⟨b15, 0, none⟩, 1, 1⟩ : Sl).base (⟨some ⟨b15, 0, none⟩, 1, 1⟩ : Sl).len (⟨some ⟨b15, 0, none⟩, 1, 1⟩ : Sl).cap)]⟩ w_14 fun (r17 : Bool) (w_16 : World) =>
 IfB (!r17)
 (R (false) w_16)
 (K_13  w_16))) fun (K_3 : World → Prop) =>
 IfB (decide (((b1.len : Int) : Int) > (100 : Int)))
 (Cl Try.prog [kB] n_law03_wakes ⟨[]⟩ w fun (r5 : Bool) (w_4 : World) =>
 R (r5) w_4)
 (IfB (decide ((bits2 : Int) < (0 : Int)))
 (Cl Try.prog [kB] n_law03_wakes ⟨[]⟩ w fun (r7 : Bool) (w_6 : World) =>
 R (r7) w_6)
 (IfB (decide ((bits2 : Int) > ((i64 ((8 : Int) * ((b1.len : Int) : Int))) : Int)))
 (Cl Try.prog [kB] n_law03_wakes ⟨[]⟩ w fun (r9 : Bool) (w_8 : World) =>
 R (r9) w_8)
 (K_3  w)))
theorem law03_BitReaderAlign.ok (b1 : Sl) (bits2 : Int) (R : Bool → World → Prop) (w : World) (h : law03_BitReaderAlign.E b1 bits2 R w) : Cl Try.prog [kB] n_law03_BitReaderAlign ⟨[(.slice b1.base b1.len b1.cap), (.int .i64 bits2)]⟩ w R :=
  calls_of_eq Try.mix Try.f5 [(.slice b1.base b1.len b1.cap), (.int .i64 bits2)] [kB] R 126 [.tmp 4] (by kernel_rfl) (by kernel_rfl) (by kernel_rfl) (by kernel_rfl) (by kernel_rfl)
    (.s .o (.j [] (.s .o (.c (.s .o .o) .o)) (.s .o (.j [] (.s .o (.c (.s .o .o) .o)) (.s (.s .o (.b (.l [(6, kI)] (.s (.s .o (.c .o .o)) (.s (.b (.s .o (.s .o (.c (.s .o .o) .o)))) .o))))) (.s .o (.s .o (.j [] (.s .o (.c (.s .o .o) .o)) (.s (.s .o (.b (.l [(12, kI)] (.s (.s .o (.c .o .o)) (.s (.b (.s .o (.c (.s .o .o) .o))) .o))))) (.s .o (.s .o .o)))))))))))
    (by kernel_rfl) h
/-- winepresslaw03.BitReaderOwn -/
def law03_BitReaderOwn.E (b1 : Sl) (R : Bool → World → Prop) (w : World) : Prop :=
 IfB (decide (((b1.len : Int) : Int) > (100 : Int)))
 (Cl Try.prog [kB] n_law03_wakes ⟨[]⟩ w fun (r3 : Bool) (w_2 : World) =>
 R (r3) w_2)
 (Cl Try.prog [kP] n_bitreader_New ⟨[]⟩ w fun (r5 : (Option Addr)) (w_4 : World) =>
 Nw 5 ⟨[]⟩ w_4 fun (b7 : Nat) (w_6 : World) =>
 Run Try.prog (Builtin.append_ #[28, 28] 28 ⟨[(.slice (⟨some ⟨b7, 0, none⟩, 0, 0⟩ : Sl).base (⟨some ⟨b7, 0, none⟩, 0, 0⟩ : Sl).len (⟨some ⟨b7, 0, none⟩, 0, 0⟩ : Sl).cap), (.slice b1.base b1.len b1.cap)]⟩) kS w_6 fun (s9 : Sl) (w_8 : World) =>
 Join (fun (w_15 : World) =>
 ∃ (I_16 : Int → World → Prop) (m_17 : Int → World → Nat), I_16 (0) w_15 ∧
 ∀ (i18 : Int), ∀ (w_19 : World), I_16 i18 w_19 →
 IfB (decide ((i18 : Int) < ((s9.len : Int) : Int)))
 (Idx s9 i18 1 fun (q20 : Addr) =>
 Ld (kInt .u8) q20 w_19 fun (x21 : Int) =>
 Idx s9 i18 1 fun (q22 : Addr) =>
 St q22 (.int .u8 (ixor .u8 (x21 : Int) (255 : Int))) w_19 fun (w_23 : World) =>
 I_16 ((i64 ((i18 : Int) + (1 : Int)))) w_23 ∧ m_17 ((i64 ((i18 : Int) + (1 : Int)))) w_23 < m_17 i18 w_19)
 (∃ (I_24 : Int → World → Prop) (m_25 : Int → World → Nat), I_24 (0) w_19 ∧
 ∀ (i26 : Int), ∀ (w_27 : World), I_24 i26 w_27 →
 IfB (decide ((i26 : Int) < ((b1.len : Int) : Int)))
 (Cl Try.prog [(kInt .u32), kB] n_bitreader_Reader_Take ⟨[(.pointer r5), (.int .i64 8)]⟩ w_27 fun (r29 : Int) (r30 : Bool) (w_28 : World) =>
 IfB (!r30)
 (R (false) w_28)
 (Idx b1 i26 1 fun (q31 : Addr) =>
 Ld (kInt .u8) q31 w_28 fun (x32 : Int) =>
 IfB (((u8 r29) : Int) != (x32 : Int))
 (R (false) w_28)
 (I_24 ((i64 ((i26 : Int) + (1 : Int)))) w_28 ∧ m_25 ((i64 ((i26 : Int) + (1 : Int)))) w_28 < m_25 i26 w_27)))
 (Cl Try.prog [kI] n_bitreader_Reader_Left ⟨[(.pointer r5)]⟩ w_27 fun (r34 : Int) (w_33 : World) =>
 IfB ((r34 : Int) == (0 : Int))
 (Cl Try.prog [kB] n_law03_wakes ⟨[]⟩ w_33 fun (r36 : Bool) (w_35 : World) =>
 R (r36) w_35)
 (R (false) w_33)))) fun (K_10 : World → Prop) =>
 IfB (Option.isNone (r5 : Option Addr))
 (R (false) w_8)
 (Nw 28 ⟨[(.slice s9.base s9.len s9.cap)]⟩ w_8 fun (b12 : Nat) (w_11 : World) =>
 Cl Try.prog [kB] n_bitreader_Reader_Feed ⟨[(.pointer r5), (.slice (⟨some ⟨b12, 0, none⟩, 1, 1⟩ : Sl).base (⟨some ⟨b12, 0, none⟩, 1, 1⟩ : Sl).len (⟨some ⟨b12, 0, none⟩, 1, 1⟩ : Sl).cap)]⟩ w_11 fun (r14 : Bool) (w_13 : World) =>
 IfB (!r14)
 (R (false) w_13)
 (K_10  w_13)))
theorem law03_BitReaderOwn.ok (b1 : Sl) (R : Bool → World → Prop) (w : World) (h : law03_BitReaderOwn.E b1 R w) : Cl Try.prog [kB] n_law03_BitReaderOwn ⟨[(.slice b1.base b1.len b1.cap)]⟩ w R :=
  calls_of_eq Try.mix Try.f6 [(.slice b1.base b1.len b1.cap)] [kB] R 68 [.tmp 2] (by kernel_rfl) (by kernel_rfl) (by kernel_rfl) (by kernel_rfl) (by kernel_rfl)
    (.s .o (.s (.s .o (.c (.s .o .o) .o)) (.s .o (.s .o (.j [] (.s .o (.c (.s .o .o) .o)) (.s (.s .o (.b (.l [(5, kI)] (.s (.s .o (.c .o .o)) (.s (.b .o) .o))))) (.s (.s .o (.b (.l [(6, kI)] (.s (.s .o (.c .o .o)) (.s (.b (.s .o (.s .o (.c (.s .o .o) .o)))) .o))))) (.s .o .o))))))))
    (by kernel_rfl) h
/-- winepresslaw03.BitReaderPeeks -/
def law03_BitReaderPeeks.E (b1 : Sl) (ahead2 : Int) (one3 : Int) (two4 : Int) (R : Bool → World → Prop) (w : World) : Prop :=
 Join (fun (w_18 : World) =>
 Cl Try.prog [kP] n_bitreader_New ⟨[]⟩ w_18 fun (r20 : (Option Addr)) (w_19 : World) =>
 Join (fun (w_26 : World) =>
 ∃ (I_27 : Int → World → Prop) (m_28 : Int → World → Nat), I_27 (0) w_26 ∧
 ∀ (i29 : Int), ∀ (w_30 : World), I_27 i29 w_30 →
 IfB (decide ((i29 : Int) < (ahead2 : Int)))
 (Cl Try.prog [(kInt .u32), kB] n_bitreader_Reader_Take ⟨[(.pointer r20), (.int .i64 1)]⟩ w_30 fun (r32 : Int) (r33 : Bool) (w_31 : World) =>
 I_27 ((i64 ((i29 : Int) + (1 : Int)))) w_31 ∧ m_28 ((i64 ((i29 : Int) + (1 : Int)))) w_31 < m_28 i29 w_30)
 (Cl Try.prog [kI] n_bitreader_Reader_Left ⟨[(.pointer r20)]⟩ w_30 fun (r35 : Int) (w_34 : World) =>
 Cl Try.prog [kI] n_bitreader_Reader_Used ⟨[(.pointer r20)]⟩ w_34 fun (r37 : Int) (w_36 : World) =>
 Cl Try.prog [(kInt .u32), kB] n_bitreader_Reader_Peek ⟨[(.pointer r20), (.int .i64 two4)]⟩ w_36 fun (r39 : Int) (r40 : Bool) (w_38 : World) =>
 Cl Try.prog [(kInt .u32), kB] n_bitreader_Reader_Peek ⟨[(.pointer r20), (.int .i64 one3)]⟩ w_38 fun (r42 : Int) (r43 : Bool) (w_41 : World) =>
 Join (fun (w_49 : World) =>
 IfB (!r40)
 (Cl Try.prog [kB] n_law03_wakes ⟨[]⟩ w_49 fun (r51 : Bool) (w_50 : World) =>
 R (r51) w_50)
 (Cl Try.prog [(kInt .u32), kB] n_bitreader_Reader_Take ⟨[(.pointer r20), (.int .i64 one3)]⟩ w_49 fun (r53 : Int) (r54 : Bool) (w_52 : World) =>
 Cl Try.prog [(kInt .u32), kB] n_bitreader_Reader_Take ⟨[(.pointer r20), (.int .i64 (i64 ((two4 : Int) - (one3 : Int))))]⟩ w_52 fun (r56 : Int) (r57 : Bool) (w_55 : World) =>
 IfB ((r53 : Int) == (r42 : Int))
 (0 ≤ ((u64 (i64 ((two4 : Int) - (one3 : Int)))) : Int) ∧
 IfB (((u64 r39) : Int) == ((ior .u64 ((ishl .u64 ((u64 r53) : Int) ((u64 (i64 ((two4 : Int) - (one3 : Int)))) : Int)) : Int) ((u64 r56) : Int)) : Int))
 (Cl Try.prog [kI] n_bitreader_Reader_Used ⟨[(.pointer r20)]⟩ w_55 fun (r59 : Int) (w_58 : World) =>
 IfB ((r59 : Int) == ((i64 ((r37 : Int) + (two4 : Int))) : Int))
 (Cl Try.prog [kB] n_law03_wakes ⟨[]⟩ w_58 fun (r61 : Bool) (w_60 : World) =>
 R (r61) w_60)
 (R (false) w_58))
 (R (false) w_55))
 (R (false) w_55))) fun (K_44 : World → Prop) =>
 Cl Try.prog [kI] n_bitreader_Reader_Left ⟨[(.pointer r20)]⟩ w_41 fun (r46 : Int) (w_45 : World) =>
 IfB ((r46 : Int) != (r35 : Int))
 (R (false) w_45)
 (Cl Try.prog [kI] n_bitreader_Reader_Used ⟨[(.pointer r20)]⟩ w_45 fun (r48 : Int) (w_47 : World) =>
 IfB ((r48 : Int) != (r37 : Int))
 (R (false) w_47)
 (IfB (!(r40 == (decide ((two4 : Int) ≤ (r35 : Int)))))
 (R (false) w_47)
 (IfB (!(r43 == (decide ((one3 : Int) ≤ (r35 : Int)))))
 (R (false) w_47)
 (K_44  w_47)))))) fun (K_21 : World → Prop) =>
 IfB (Option.isNone (r20 : Option Addr))
 (R (false) w_19)
 (Nw 28 ⟨[(.slice b1.base b1.len b1.cap)]⟩ w_19 fun (b23 : Nat) (w_22 : World) =>
 Cl Try.prog [kB] n_bitreader_Reader_Feed ⟨[(.pointer r20), (.slice (⟨some ⟨b23, 0, none⟩, 1, 1⟩ : Sl).base (⟨some ⟨b23, 0, none⟩, 1, 1⟩ : Sl).len (⟨some ⟨b23, 0, none⟩, 1, 1⟩ : Sl).cap)]⟩ w_22 fun (r25 : Bool) (w_24 : World) =>
 IfB (!r25)
 (R (false) w_24)
 (K_21  w_24))) fun (K_5 : World → Prop) =>
 IfB (decide (((b1.len : Int) : Int) > (100 : Int)))
 (Cl Try.prog [kB] n_law03_wakes ⟨[]⟩ w fun (r7 : Bool) (w_6 : World) =>
 R (r7) w_6)
 (IfB (decide ((ahead2 : Int) < (0 : Int)))
 (Cl Try.prog [kB] n_law03_wakes ⟨[]⟩ w fun (r9 : Bool) (w_8 : World) =>
 R (r9) w_8)
 (IfB (decide ((ahead2 : Int) > ((i64 ((8 : Int) * ((b1.len : Int) : Int))) : Int)))
 (Cl Try.prog [kB] n_law03_wakes ⟨[]⟩ w fun (r11 : Bool) (w_10 : World) =>
 R (r11) w_10)
 (IfB (decide ((one3 : Int) < (0 : Int)))
 (Cl Try.prog [kB] n_law03_wakes ⟨[]⟩ w fun (r13 : Bool) (w_12 : World) =>
 R (r13) w_12)
 (IfB (decide ((one3 : Int) > (two4 : Int)))
 (Cl Try.prog [kB] n_law03_wakes ⟨[]⟩ w fun (r15 : Bool) (w_14 : World) =>
 R (r15) w_14)
 (IfB (decide ((two4 : Int) > (32 : Int)))
 (Cl Try.prog [kB] n_law03_wakes ⟨[]⟩ w fun (r17 : Bool) (w_16 : World) =>
 R (r17) w_16)
 (K_5  w))))))
theorem law03_BitReaderPeeks.ok (b1 : Sl) (ahead2 : Int) (one3 : Int) (two4 : Int) (R : Bool → World → Prop) (w : World) (h : law03_BitReaderPeeks.E b1 ahead2 one3 two4 R w) : Cl Try.prog [kB] n_law03_BitReaderPeeks ⟨[(.slice b1.base b1.len b1.cap), (.int .i64 ahead2), (.int .i64 one3), (.int .i64 two4)]⟩ w R :=
  calls_of_eq Try.mix Try.f7 [(.slice b1.base b1.len b1.cap), (.int .i64 ahead2), (.int .i64 one3), (.int .i64 two4)] [kB] R 152 [.tmp 8] (by kernel_rfl) (by kernel_rfl) (by kernel_rfl) (by kernel_rfl) (by kernel_rfl)
    (.s .o (.j [] (.s .o (.c (.s .o .o) .o)) (.s .o (.j [] (.s .o (.c (.s .o .o) .o)) (.s (.s .o (.b (.l [(10, kI)] (.s (.s .o (.c .o .o)) (.s (.b .o) .o))))) (.s .o (.s .o (.s .o (.j [] (.s .o (.c (.s .o .o) .o)) (.s (.s .o (.c (.s .o .o) .o)) (.s .o (.s .o (.s .o .o)))))))))))))
    (by kernel_rfl) h
/-- winepresslaw03.small -/
def law03_small.E (l1 : Sl) (R : Bool → World → Prop) (w : World) : Prop :=
 ∃ (I_2 : Int → Int → World → Prop) (m_3 : Int → Int → World → Nat), I_2 (0) (0) w ∧
 ∀ (n4 : Int) (i5 : Int), ∀ (w_6 : World), I_2 n4 i5 w_6 →
 IfB (decide ((i5 : Int) < ((l1.len : Int) : Int)))
 (IfB (decide ((i5 : Int) ≤ (100 : Int)))
 (Idx l1 i5 3 fun (q7 : Addr) =>
 Ld kS (q7.add 2) w_6 fun (Chunk8 : Sl) =>
 I_2 ((i64 ((n4 : Int) + ((if (4000 : Int) < ((Chunk8.len : Int) : Int) then (4000 : Int) else ((Chunk8.len : Int) : Int)) : Int)))) ((i64 ((i5 : Int) + (1 : Int)))) w_6 ∧ m_3 ((i64 ((n4 : Int) + ((if (4000 : Int) < ((Chunk8.len : Int) : Int) then (4000 : Int) else ((Chunk8.len : Int) : Int)) : Int)))) ((i64 ((i5 : Int) + (1 : Int)))) w_6 < m_3 n4 i5 w_6)
 (IfB (decide (((l1.len : Int) : Int) ≤ (100 : Int)))
 (R ((decide ((n4 : Int) ≤ (3000 : Int)))) w_6)
 (R (false) w_6)))
 (IfB (decide (((l1.len : Int) : Int) ≤ (100 : Int)))
 (R ((decide ((n4 : Int) ≤ (3000 : Int)))) w_6)
 (R (false) w_6))
theorem law03_small.ok (l1 : Sl) (R : Bool → World → Prop) (w : World) (h : law03_small.E l1 R w) : Cl Try.prog [kB] n_law03_small ⟨[(.slice l1.base l1.len l1.cap)]⟩ w R :=
  calls_of_eq Try.mix Try.f8 [(.slice l1.base l1.len l1.cap)] [kB] R 31 [.tmp 2] (by kernel_rfl) (by kernel_rfl) (by kernel_rfl) (by kernel_rfl) (by kernel_rfl)
    (.s .o (.s .o (.s (.s .o (.b (.l [(3, kI), (4, kI)] (.s (.s .o (.c .o .o)) (.s (.b .o) .o))))) (.s .o .o))))
    (by kernel_rfl) h
/-- winepresslaw03.wakes -/
def law03_wakes.E  (R : Bool → World → Prop) (w : World) : Prop :=
 Cl Try.prog [kP] n_bitreader_New ⟨[]⟩ w fun (r2 : (Option Addr)) (w_1 : World) =>
 IfB (Option.isNone (r2 : Option Addr))
 (R (false) w_1)
 (Nw 5 ⟨[(.int .u8 165)]⟩ w_1 fun (b4 : Nat) (w_3 : World) =>
 Nw 5 ⟨[(.int .u8 240)]⟩ w_3 fun (b6 : Nat) (w_5 : World) =>
 Nw 28 ⟨[(.slice (⟨some ⟨b4, 0, none⟩, 1, 1⟩ : Sl).base (⟨some ⟨b4, 0, none⟩, 1, 1⟩ : Sl).len (⟨some ⟨b4, 0, none⟩, 1, 1⟩ : Sl).cap), (.slice none 0 0), (.slice (⟨some ⟨b6, 0, none⟩, 1, 1⟩ : Sl).base (⟨some ⟨b6, 0, none⟩, 1, 1⟩ : Sl).len (⟨some ⟨b6, 0, none⟩, 1, 1⟩ : Sl).cap)]⟩ w_5 fun (b8 : Nat) (w_7 : World) =>
 Cl Try.prog [kB] n_bitreader_Reader_Feed ⟨[(.pointer r2), (.slice (⟨some ⟨b8, 0, none⟩, 3, 3⟩ : Sl).base (⟨some ⟨b8, 0, none⟩, 3, 3⟩ : Sl).len (⟨some ⟨b8, 0, none⟩, 3, 3⟩ : Sl).cap)]⟩ w_7 fun (r10 : Bool) (w_9 : World) =>
 Cl Try.prog [(kInt .u32), kB] n_bitreader_Reader_Peek ⟨[(.pointer r2), (.int .i64 3)]⟩ w_9 fun (r12 : Int) (r13 : Bool) (w_11 : World) =>
 Cl Try.prog [(kInt .u32), kB] n_bitreader_Reader_Take ⟨[(.pointer r2), (.int .i64 3)]⟩ w_11 fun (r15 : Int) (r16 : Bool) (w_14 : World) =>
 Cl Try.prog [(kInt .u32), kB] n_bitreader_Reader_Take ⟨[(.pointer r2), (.int .i64 6)]⟩ w_14 fun (r18 : Int) (r19 : Bool) (w_17 : World) =>
 Cl Try.prog [kI] n_bitreader_Reader_Left ⟨[(.pointer r2)]⟩ w_17 fun (r21 : Int) (w_20 : World) =>
 Cl Try.prog [kI] n_bitreader_Reader_Used ⟨[(.pointer r2)]⟩ w_20 fun (r23 : Int) (w_22 : World) =>
 Cl Try.prog [(kInt .u32), kI] n_bitreader_Reader_Align ⟨[(.pointer r2)]⟩ w_22 fun (r25 : Int) (r26 : Int) (w_24 : World) =>
 Cl Try.prog [(kInt .u32), kB] n_bitreader_Reader_Take ⟨[(.pointer r2), (.int .i64 1)]⟩ w_24 fun (r28 : Int) (r29 : Bool) (w_27 : World) =>
 Cl Try.prog [(kInt .u32), kB] n_bitreader_Reader_Take ⟨[(.pointer r2), (.int .i64 0)]⟩ w_27 fun (r31 : Int) (r32 : Bool) (w_30 : World) =>
 Cl Try.prog [(kInt .u32), kB] n_bitreader_Reader_Take ⟨[(.pointer r2), (.int .i64 33)]⟩ w_30 fun (r34 : Int) (r35 : Bool) (w_33 : World) =>
 Cl Try.prog [kB] n_bitreader_Reader_End ⟨[(.pointer r2)]⟩ w_33 fun (r37 : Bool) (w_36 : World) =>
 Cl Try.prog [kB] n_bitreader_Reader_End ⟨[(.pointer r2)]⟩ w_36 fun (r39 : Bool) (w_38 : World) =>
 Nw 5 ⟨[(.int .u8 1)]⟩ w_38 fun (b41 : Nat) (w_40 : World) =>
 Nw 28 ⟨[(.slice (⟨some ⟨b41, 0, none⟩, 1, 1⟩ : Sl).base (⟨some ⟨b41, 0, none⟩, 1, 1⟩ : Sl).len (⟨some ⟨b41, 0, none⟩, 1, 1⟩ : Sl).cap)]⟩ w_40 fun (b43 : Nat) (w_42 : World) =>
 Cl Try.prog [kB] n_bitreader_Reader_Feed ⟨[(.pointer r2), (.slice (⟨some ⟨b43, 0, none⟩, 1, 1⟩ : Sl).base (⟨some ⟨b43, 0, none⟩, 1, 1⟩ : Sl).len (⟨some ⟨b43, 0, none⟩, 1, 1⟩ : Sl).cap)]⟩ w_42 fun (r45 : Bool) (w_44 : World) =>
 Cl Try.prog [(kInt .u32), kI] n_bitreader_Reader_Align ⟨[(.pointer r2)]⟩ w_44 fun (r47 : Int) (r48 : Int) (w_46 : World) =>
 Cl Try.prog [(kInt .u32), kB] n_bitreader_Reader_Take ⟨[(.pointer none), (.int .i64 0)]⟩ w_46 fun (r50 : Int) (r51 : Bool) (w_49 : World) =>
 IfB r10
 (IfB ((r12 : Int) == (5 : Int))
 (IfB r13
 (IfB ((r15 : Int) == (5 : Int))
 (IfB r16
 (IfB ((r18 : Int) == (11 : Int))
 (IfB r19
 (IfB ((r21 : Int) == (7 : Int))
 (IfB ((r23 : Int) == (9 : Int))
 (IfB ((r25 : Int) == (112 : Int))
 (IfB ((r26 : Int) == (7 : Int))
 (IfB (!r29)
 (IfB ((r31 : Int) == (0 : Int))
 (IfB r32
 (IfB (!r35)
 (IfB r37
 (IfB (!r39)
 (IfB (!r45)
 (Cl Try.prog [kB] n_bitreader_Reader_Ended ⟨[(.pointer r2)]⟩ w_49 fun (r53 : Bool) (w_52 : World) =>
 IfB r53
 (IfB ((r47 : Int) == (0 : Int))
 (IfB ((r48 : Int) == (0 : Int))
 (IfB (!r51)
 (Cl Try.prog [kB] n_bitreader_Reader_Feed ⟨[(.pointer none), (.slice none 0 0)]⟩ w_52 fun (r55 : Bool) (w_54 : World) =>
 IfB (!r55)
 (Cl Try.prog [kI] n_bitreader_Reader_Left ⟨[(.pointer none)]⟩ w_54 fun (r57 : Int) (w_56 : World) =>
 R (((r57 : Int) == (0 : Int))) w_56)
 (R (false) w_54))
 (R (false) w_52))
 (R (false) w_52))
 (R (false) w_52))
 (R (false) w_52))
 (R (false) w_49))
 (R (false) w_49))
 (R (false) w_49))
 (R (false) w_49))
 (R (false) w_49))
 (R (false) w_49))
 (R (false) w_49))
 (R (false) w_49))
 (R (false) w_49))
 (R (false) w_49))
 (R (false) w_49))
 (R (false) w_49))
 (R (false) w_49))
 (R (false) w_49))
 (R (false) w_49))
 (R (false) w_49))
 (R (false) w_49))
 (R (false) w_49))
theorem law03_wakes.ok  (R : Bool → World → Prop) (w : World) (h : law03_wakes.E  R w) : Cl Try.prog [kB] n_law03_wakes ⟨[]⟩ w R :=
  calls_of_eq Try.mix Try.f9 [] [kB] R 182 [.tmp 0] (by kernel_rfl) (by kernel_rfl) (by kernel_rfl) (by kernel_rfl) (by kernel_rfl)
    (.s .o (.s .o (.s (.s .o (.c (.s .o .o) .o)) (.s .o (.s .o (.s .o (.s .o (.s .o (.s .o (.s .o (.s .o (.s .o (.s .o (.s .o (.s .o (.s .o (.s .o (.s .o .o))))))))))))))))))
    (by kernel_rfl) h
/-- bitreader.New -/
def bitreader_New.E  (R : (Option Addr) → World → Prop) (w : World) : Prop :=
 Nw 52 ⟨[(.slice none 0 0), (.int .i64 0), (.int .i64 0), (.bool false)]⟩ w fun (b2 : Nat) (w_1 : World) =>
 R ((some (⟨b2, 0, none⟩ : Addr))) w_1
theorem bitreader_New.ok  (R : (Option Addr) → World → Prop) (w : World) (h : bitreader_New.E  R w) : Cl Try.prog [kP] n_bitreader_New ⟨[]⟩ w R :=
  calls_of_eq Try.mix Try.f10 [] [kP] R 3 [.tmp 0] (by kernel_rfl) (by kernel_rfl) (by kernel_rfl) (by kernel_rfl) (by kernel_rfl)
    (.s .o (.s .o .o))
    (by kernel_rfl) h
/-- (*bitreader.Reader).Feed -/
def bitreader_Reader_Feed.E (r1 : (Option Addr)) (chunks2 : Sl) (R : Bool → World → Prop) (w : World) : Prop :=
 IfB (Option.isNone (r1 : Option Addr))
 (R (false) w)
 (NilCk r1 fun (p3 : Addr) =>
 Ld kB (p3.add 3) w fun (ended4 : Bool) =>
 IfB ended4
 (R (false) w)
 (∃ (I_5 : Int → World → Prop) (m_6 : Int → World → Nat), I_5 (0) w ∧
 ∀ (t17_7 : Int), ∀ (w_8 : World), I_5 t17_7 w_8 →
 IfB (decide ((t17_7 : Int) < ((chunks2.len : Int) : Int)))
 (Idx chunks2 t17_7 1 fun (q9 : Addr) =>
 Ld kS q9 w_8 fun (x10 : Sl) =>
 NilCk r1 fun (p11 : Addr) =>
 Ld kS (p11.add 0) w_8 fun (bytes12 : Sl) =>
 Run Try.prog (Builtin.append_ #[28, 28] 28 ⟨[(.slice bytes12.base bytes12.len bytes12.cap), (.slice x10.base x10.len x10.cap)]⟩) kS w_8 fun (s14 : Sl) (w_13 : World) =>
 NilCk r1 fun (p15 : Addr) =>
 St (p15.add 0) (.slice s14.base s14.len s14.cap) w_13 fun (w_16 : World) =>
 I_5 ((i64 ((t17_7 : Int) + (1 : Int)))) w_16 ∧ m_6 ((i64 ((t17_7 : Int) + (1 : Int)))) w_16 < m_6 t17_7 w_8)
 (R (true) w_8)))
theorem bitreader_Reader_Feed.ok (r1 : (Option Addr)) (chunks2 : Sl) (R : Bool → World → Prop) (w : World) (h : bitreader_Reader_Feed.E r1 chunks2 R w) : Cl Try.prog [kB] n_bitreader_Reader_Feed ⟨[(.pointer r1), (.slice chunks2.base chunks2.len chunks2.cap)]⟩ w R :=
  calls_of_eq Try.mix Try.f11 [(.pointer r1), (.slice chunks2.base chunks2.len chunks2.cap)] [kB] R 31 [.tmp 4] (by kernel_rfl) (by kernel_rfl) (by kernel_rfl) (by kernel_rfl) (by kernel_rfl)
    (.s .o (.s (.s .o (.c (.s .o .o) .o)) (.s (.s .o (.b (.l [(17, kI)] (.s .o (.s (.c .o .o) (.s (.b (.s .o .o)) .o)))))) (.s .o .o))))
    (by kernel_rfl) h
/-- (*winepressref03.Reader).Feed -/
def ref03_Reader_Feed.E (r1 : (Option Addr)) (chunk2 : Sl) (R : Bool → World → Prop) (w : World) : Prop :=
 NilCk r1 fun (p3 : Addr) =>
 Ld kB (p3.add 2) w fun (Ended4 : Bool) =>
 IfB Ended4
 (R (false) w)
 (NilCk r1 fun (p5 : Addr) =>
 Ld kS (p5.add 0) w fun (Came6 : Sl) =>
 Run Try.prog (Builtin.append_ #[28, 28] 28 ⟨[(.slice Came6.base Came6.len Came6.cap), (.slice chunk2.base chunk2.len chunk2.cap)]⟩) kS w fun (s8 : Sl) (w_7 : World) =>
 NilCk r1 fun (p9 : Addr) =>
 St (p9.add 0) (.slice s8.base s8.len s8.cap) w_7 fun (w_10 : World) =>
 R (true) w_10)
theorem ref03_Reader_Feed.ok (r1 : (Option Addr)) (chunk2 : Sl) (R : Bool → World → Prop) (w : World) (h : ref03_Reader_Feed.E r1 chunk2 R w) : Cl Try.prog [kB] n_ref03_Reader_Feed ⟨[(.pointer r1), (.slice chunk2.base chunk2.len chunk2.cap)]⟩ w R :=
  calls_of_eq Try.mix Try.f12 [(.pointer r1), (.slice chunk2.base chunk2.len chunk2.cap)] [kB] R 18 [.tmp 4] (by kernel_rfl) (by kernel_rfl) (by kernel_rfl) (by kernel_rfl) (by kernel_rfl)
    (.s .o (.s (.s .o (.c (.s .o .o) .o)) (.s .o (.s .o .o))))
    (by kernel_rfl) h
/-- (*bitreader.Reader).Peek -/
def bitreader_Reader_Peek.E (r1 : (Option Addr)) (width2 : Int) (R : Int → Bool → World → Prop) (w : World) : Prop :=
 Join (fun (w_6 : World) =>
 NilCk r1 fun (p7 : Addr) =>
 Ld kI (p7.add 1) w_6 fun (bit8 : Int) =>
 0 ≤ (3 : Int) ∧
 NilCk r1 fun (p9 : Addr) =>
 Ld kS (p9.add 0) w_6 fun (bytes10 : Sl) =>
 Slc bytes10 0 (ishr .i64 ((i64 (((i64 ((bit8 : Int) + (width2 : Int))) : Int) + (7 : Int))) : Int) (3 : Int)) (bytes10).cap 1 fun (s11 : Sl) =>
 ∃ (I_12 : Int → Int → World → Prop) (m_13 : Int → Int → World → Nat), I_12 (0) (0) w_6 ∧
 ∀ (v14 : Int) (t41_15 : Int), ∀ (w_16 : World), I_12 v14 t41_15 w_16 →
 IfB (decide ((t41_15 : Int) < ((s11.len : Int) : Int)))
 (Idx s11 t41_15 1 fun (q17 : Addr) =>
 Ld (kInt .u8) q17 w_16 fun (x18 : Int) =>
 0 ≤ (8 : Int) ∧
 I_12 ((ior .u64 ((ishl .u64 (v14 : Int) (8 : Int)) : Int) ((u64 x18) : Int))) ((i64 ((t41_15 : Int) + (1 : Int)))) w_16 ∧ m_13 ((ior .u64 ((ishl .u64 (v14 : Int) (8 : Int)) : Int) ((u64 x18) : Int))) ((i64 ((t41_15 : Int) + (1 : Int)))) w_16 < m_13 v14 t41_15 w_16)
 (0 ≤ (3 : Int) ∧
 NilCk r1 fun (p19 : Addr) =>
 Ld kI (p19.add 1) w_16 fun (bit20 : Int) =>
 0 ≤ ((u64 (i64 (((i64 (((ishl .i64 ((ishr .i64 ((i64 (((i64 ((bit8 : Int) + (width2 : Int))) : Int) + (7 : Int))) : Int) (3 : Int)) : Int) (3 : Int)) : Int) - (bit20 : Int))) : Int) - (width2 : Int)))) : Int) ∧
 0 ≤ ((u64 width2) : Int) ∧
 R ((u32 (iand .u64 ((ishr .u64 (v14 : Int) ((u64 (i64 (((i64 (((ishl .i64 ((ishr .i64 ((i64 (((i64 ((bit8 : Int) + (width2 : Int))) : Int) + (7 : Int))) : Int) (3 : Int)) : Int) (3 : Int)) : Int) - (bit20 : Int))) : Int) - (width2 : Int)))) : Int)) : Int) ((u64 (((ishl .u64 (1 : Int) ((u64 width2) : Int)) : Int) - (1 : Int))) : Int)))) (true) w_16)) fun (K_3 : World → Prop) =>
 IfB (Option.isNone (r1 : Option Addr))
 (R (0) (false) w)
 (IfB (decide ((width2 : Int) < (0 : Int)))
 (R (0) (false) w)
 (IfB (decide ((width2 : Int) > (32 : Int)))
 (R (0) (false) w)
 (Cl Try.prog [kI] n_bitreader_Reader_Left ⟨[(.pointer r1)]⟩ w fun (r5 : Int) (w_4 : World) =>
 IfB (decide ((width2 : Int) > (r5 : Int)))
 (R (0) (false) w_4)
 (K_3  w_4))))
theorem bitreader_Reader_Peek.ok (r1 : (Option Addr)) (width2 : Int) (R : Int → Bool → World → Prop) (w : World) (h : bitreader_Reader_Peek.E r1 width2 R w) : Cl Try.prog [(kInt .u32), kB] n_bitreader_Reader_Peek ⟨[(.pointer r1), (.int .i64 width2)]⟩ w R :=
  calls_of_eq Try.mix Try.f13 [(.pointer r1), (.int .i64 width2)] [(kInt .u32), kB] R 70 [.tmp 4, .tmp 5] (by kernel_rfl) (by kernel_rfl) (by kernel_rfl) (by kernel_rfl) (by kernel_rfl)
    (.s .o (.j [] (.s .o (.c (.s .o .o) .o)) (.s .o (.s .o (.s (.s .o (.b (.l [(6, (kInt .u64)), (41, kI)] (.s .o (.s (.c .o .o) (.s (.b (.s .o .o)) .o)))))) (.s .o (.s .o .o)))))))
    (by kernel_rfl) h
/-- (*winepressref03.Reader).Peek -/
def ref03_Reader_Peek.E (r1 : (Option Addr)) (width2 : Int) (R : Int → Bool → World → Prop) (w : World) : Prop :=
 Join (fun (w_6 : World) =>
 ∃ (I_7 : Int → Int → World → Prop) (m_8 : Int → Int → World → Nat), I_7 (0) (0) w_6 ∧
 ∀ (v9 : Int) (i10 : Int), ∀ (w_11 : World), I_7 v9 i10 w_11 →
 IfB (decide ((i10 : Int) < (width2 : Int)))
 (Held w_11 fun (S12 : World → Prop) (w_13 : World) =>
 NilCk r1 fun (p14 : Addr) =>
 LdS kS (p14.add 0) S12 fun (Came15 : Sl) =>
 NilCk r1 fun (p16 : Addr) =>
 LdS kI (p16.add 1) S12 fun (Used17 : Int) =>
 Cl Try.prog [kI] n_ref03_Bit ⟨[(.slice Came15.base Came15.len Came15.cap), (.int .i64 (i64 ((Used17 : Int) + (i10 : Int))))]⟩ w_13 fun (r19 : Int) (w_18 : World) =>
 S12 w_18 ∧
 I_7 ((u32 (((u32 ((2 : Int) * (v9 : Int))) : Int) + ((u32 r19) : Int)))) ((i64 ((i10 : Int) + (1 : Int)))) w_18 ∧ m_8 ((u32 (((u32 ((2 : Int) * (v9 : Int))) : Int) + ((u32 r19) : Int)))) ((i64 ((i10 : Int) + (1 : Int)))) w_18 < m_8 v9 i10 w_11)
 (R (v9) (true) w_11)) fun (K_3 : World → Prop) =>
 IfB (decide ((width2 : Int) < (0 : Int)))
 (R (0) (false) w)
 (IfB (decide ((width2 : Int) > (32 : Int)))
 (R (0) (false) w)
 (Cl Try.prog [kI] n_ref03_Reader_Left ⟨[(.pointer r1)]⟩ w fun (r5 : Int) (w_4 : World) =>
 IfB (decide ((width2 : Int) > (r5 : Int)))
 (R (0) (false) w_4)
 (K_3  w_4)))
theorem ref03_Reader_Peek.ok (r1 : (Option Addr)) (width2 : Int) (R : Int → Bool → World → Prop) (w : World) (h : ref03_Reader_Peek.E r1 width2 R w) : Cl Try.prog [(kInt .u32), kB] n_ref03_Reader_Peek ⟨[(.pointer r1), (.int .i64 width2)]⟩ w R :=
  calls_of_eq Try.mix Try.f14 [(.pointer r1), (.int .i64 width2)] [(kInt .u32), kB] R 41 [.tmp 4, .tmp 5] (by kernel_rfl) (by kernel_rfl) (by kernel_rfl) (by kernel_rfl) (by kernel_rfl)
    (.s .o (.j [] (.s .o (.c (.s .o .o) .o)) (.s .o (.s (.s .o (.b (.l [(6, (kInt .u32)), (7, kI)] (.s (.s .o (.c .o .o)) (.s (.b .o) .o))))) (.s .o .o)))))
    (by kernel_rfl) h
/-- (*bitreader.Reader).Take -/
def bitreader_Reader_Take.E (r1 : (Option Addr)) (width2 : Int) (R : Int → Bool → World → Prop) (w : World) : Prop :=
 Cl Try.prog [(kInt .u32), kB] n_bitreader_Reader_Peek ⟨[(.pointer r1), (.int .i64 width2)]⟩ w fun (r4 : Int) (r5 : Bool) (w_3 : World) =>
 IfB (!r5)
 (R (0) (false) w_3)
 (NilCk r1 fun (p6 : Addr) =>
 Ld kI (p6.add 2) w_3 fun (used7 : Int) =>
 NilCk r1 fun (p8 : Addr) =>
 St (p8.add 2) (.int .i64 (i64 ((used7 : Int) + (width2 : Int)))) w_3 fun (w_9 : World) =>
 NilCk r1 fun (p10 : Addr) =>
 Ld kI (p10.add 1) w_9 fun (bit11 : Int) =>
 NilCk r1 fun (p12 : Addr) =>
 St (p12.add 1) (.int .i64 (i64 ((bit11 : Int) + (width2 : Int)))) w_9 fun (w_13 : World) =>
 Drw w_13 fun (w_14 : World) =>
 NilCk r1 fun (p15 : Addr) =>
 Ld kS (p15.add 0) w_14 fun (bytes16 : Sl) =>
 NilCk r1 fun (p17 : Addr) =>
 Ld kI (p17.add 1) w_14 fun (bit18 : Int) =>
 0 ≤ (3 : Int) ∧
 Slc bytes16 (ishr .i64 (bit18 : Int) (3 : Int)) (bytes16).len (bytes16).cap 1 fun (s19 : Sl) =>
 NilCk r1 fun (p20 : Addr) =>
 St (p20.add 0) (.slice s19.base s19.len s19.cap) w_14 fun (w_21 : World) =>
 NilCk r1 fun (p22 : Addr) =>
 Ld kI (p22.add 1) w_21 fun (bit23 : Int) =>
 NilCk r1 fun (p24 : Addr) =>
 St (p24.add 1) (.int .i64 (iand .i64 (bit23 : Int) (7 : Int))) w_21 fun (w_25 : World) =>
 R (r4) (true) w_25)
theorem bitreader_Reader_Take.ok (r1 : (Option Addr)) (width2 : Int) (R : Int → Bool → World → Prop) (w : World) (h : bitreader_Reader_Take.E r1 width2 R w) : Cl Try.prog [(kInt .u32), kB] n_bitreader_Reader_Take ⟨[(.pointer r1), (.int .i64 width2)]⟩ w R :=
  calls_of_eq Try.mix Try.f15 [(.pointer r1), (.int .i64 width2)] [(kInt .u32), kB] R 53 [.tmp 4, .tmp 5] (by kernel_rfl) (by kernel_rfl) (by kernel_rfl) (by kernel_rfl) (by kernel_rfl)
    (.s .o (.s .o (.s (.s .o (.c (.s .o .o) .o)) (.s .o (.s .o (.s .o (.s .o (.s .o .o))))))))
    (by kernel_rfl) h
/-- (*winepressref03.Reader).Take -/
def ref03_Reader_Take.E (r1 : (Option Addr)) (width2 : Int) (R : Int → Bool → World → Prop) (w : World) : Prop :=
 Cl Try.prog [(kInt .u32), kB] n_ref03_Reader_Peek ⟨[(.pointer r1), (.int .i64 width2)]⟩ w fun (r4 : Int) (r5 : Bool) (w_3 : World) =>
 IfB r5
 (NilCk r1 fun (p6 : Addr) =>
 Ld kI (p6.add 1) w_3 fun (Used7 : Int) =>
 NilCk r1 fun (p8 : Addr) =>
 St (p8.add 1) (.int .i64 (i64 ((Used7 : Int) + (width2 : Int)))) w_3 fun (w_9 : World) =>
 R (r4) (r5) w_9)
 (R (r4) (r5) w_3)
theorem ref03_Reader_Take.ok (r1 : (Option Addr)) (width2 : Int) (R : Int → Bool → World → Prop) (w : World) (h : ref03_Reader_Take.E r1 width2 R w) : Cl Try.prog [(kInt .u32), kB] n_ref03_Reader_Take ⟨[(.pointer r1), (.int .i64 width2)]⟩ w R :=
  calls_of_eq Try.mix Try.f16 [(.pointer r1), (.int .i64 width2)] [(kInt .u32), kB] R 26 [.tmp 4, .tmp 5] (by kernel_rfl) (by kernel_rfl) (by kernel_rfl) (by kernel_rfl) (by kernel_rfl)
    (.s .o (.s .o (.s (.s .o (.c .o .o)) (.s .o .o))))
    (by kernel_rfl) h
/-- (*bitreader.Reader).Align -/
def bitreader_Reader_Align.E (r1 : (Option Addr)) (R : Int → Int → World → Prop) (w : World) : Prop :=
 IfB (Option.isNone (r1 : Option Addr))
 (R (0) (0) w)
 (NilCk r1 fun (p2 : Addr) =>
 Ld kI (p2.add 1) w fun (bit3 : Int) =>
 IfB ((bit3 : Int) == (0 : Int))
 (R (0) (0) w)
 (NilCk r1 fun (p4 : Addr) =>
 Ld kI (p4.add 1) w fun (bit5 : Int) =>
 Cl Try.prog [(kInt .u32), kB] n_bitreader_Reader_Take ⟨[(.pointer r1), (.int .i64 (i64 ((8 : Int) - (bit5 : Int))))]⟩ w fun (r7 : Int) (r8 : Bool) (w_6 : World) =>
 R (r7) ((i64 ((8 : Int) - (bit5 : Int)))) w_6))
theorem bitreader_Reader_Align.ok (r1 : (Option Addr)) (R : Int → Int → World → Prop) (w : World) (h : bitreader_Reader_Align.E r1 R w) : Cl Try.prog [(kInt .u32), kI] n_bitreader_Reader_Align ⟨[(.pointer r1)]⟩ w R :=
  calls_of_eq Try.mix Try.f17 [(.pointer r1)] [(kInt .u32), kI] R 26 [.tmp 2, .tmp 3] (by kernel_rfl) (by kernel_rfl) (by kernel_rfl) (by kernel_rfl) (by kernel_rfl)
    (.s .o (.s (.s .o (.c (.s .o .o) .o)) (.s .o (.s .o (.s .o .o)))))
    (by kernel_rfl) h
/-- (*winepressref03.Reader).Align -/
def ref03_Reader_Align.E (r1 : (Option Addr)) (R : Int → Int → World → Prop) (w : World) : Prop :=
 NilCk r1 fun (p2 : Addr) =>
 Ld kI (p2.add 1) w fun (Used3 : Int) =>
 (8 : Int) ≠ 0 ∧
 IfB (((Int.tmod (Used3 : Int) (8 : Int)) : Int) == (0 : Int))
 (R (0) (0) w)
 (NilCk r1 fun (p4 : Addr) =>
 Ld kI (p4.add 1) w fun (Used5 : Int) =>
 (8 : Int) ≠ 0 ∧
 Cl Try.prog [(kInt .u32), kB] n_ref03_Reader_Take ⟨[(.pointer r1), (.int .i64 (i64 ((8 : Int) - ((Int.tmod (Used5 : Int) (8 : Int)) : Int))))]⟩ w fun (r7 : Int) (r8 : Bool) (w_6 : World) =>
 R (r7) ((i64 ((8 : Int) - ((Int.tmod (Used5 : Int) (8 : Int)) : Int)))) w_6)
theorem ref03_Reader_Align.ok (r1 : (Option Addr)) (R : Int → Int → World → Prop) (w : World) (h : ref03_Reader_Align.E r1 R w) : Cl Try.prog [(kInt .u32), kI] n_ref03_Reader_Align ⟨[(.pointer r1)]⟩ w R :=
  calls_of_eq Try.mix Try.f18 [(.pointer r1)] [(kInt .u32), kI] R 27 [.tmp 2, .tmp 3] (by kernel_rfl) (by kernel_rfl) (by kernel_rfl) (by kernel_rfl) (by kernel_rfl)
    (.s .o (.s (.s .o (.c (.s .o .o) .o)) (.s .o (.s .o (.s .o .o)))))
    (by kernel_rfl) h
/-- (*bitreader.Reader).End -/
def bitreader_Reader_End.E (r1 : (Option Addr)) (R : Bool → World → Prop) (w : World) : Prop :=
 IfB (Option.isNone (r1 : Option Addr))
 (R (false) w)
 (NilCk r1 fun (p2 : Addr) =>
 Ld kB (p2.add 3) w fun (ended3 : Bool) =>
 IfB ended3
 (R (false) w)
 (NilCk r1 fun (p4 : Addr) =>
 St (p4.add 3) (.bool true) w fun (w_5 : World) =>
 R (true) w_5))
theorem bitreader_Reader_End.ok (r1 : (Option Addr)) (R : Bool → World → Prop) (w : World) (h : bitreader_Reader_End.E r1 R w) : Cl Try.prog [kB] n_bitreader_Reader_End ⟨[(.pointer r1)]⟩ w R :=
  calls_of_eq Try.mix Try.f19 [(.pointer r1)] [kB] R 14 [.tmp 2] (by kernel_rfl) (by kernel_rfl) (by kernel_rfl) (by kernel_rfl) (by kernel_rfl)
    (.s .o (.s (.s .o (.c (.s .o .o) .o)) (.s .o (.s .o .o))))
    (by kernel_rfl) h
/-- (*bitreader.Reader).Left -/
def bitreader_Reader_Left.E (r1 : (Option Addr)) (R : Int → World → Prop) (w : World) : Prop :=
 IfB (Option.isNone (r1 : Option Addr))
 (R (0) w)
 (Drw w fun (w_2 : World) =>
 NilCk r1 fun (p3 : Addr) =>
 Ld kS (p3.add 0) w_2 fun (bytes4 : Sl) =>
 0 ≤ (3 : Int) ∧
 NilCk r1 fun (p5 : Addr) =>
 Ld kI (p5.add 1) w_2 fun (bit6 : Int) =>
 R ((i64 (((ishl .i64 ((bytes4.len : Int) : Int) (3 : Int)) : Int) - (bit6 : Int)))) w_2)
theorem bitreader_Reader_Left.ok (r1 : (Option Addr)) (R : Int → World → Prop) (w : World) (h : bitreader_Reader_Left.E r1 R w) : Cl Try.prog [kI] n_bitreader_Reader_Left ⟨[(.pointer r1)]⟩ w R :=
  calls_of_eq Try.mix Try.f20 [(.pointer r1)] [kI] R 16 [.tmp 2] (by kernel_rfl) (by kernel_rfl) (by kernel_rfl) (by kernel_rfl) (by kernel_rfl)
    (.s .o (.s (.s .o (.c (.s .o .o) .o)) (.s .o .o)))
    (by kernel_rfl) h
/-- (*winepressref03.Reader).Left -/
def ref03_Reader_Left.E (r1 : (Option Addr)) (R : Int → World → Prop) (w : World) : Prop :=
 Drw w fun (w_2 : World) =>
 NilCk r1 fun (p3 : Addr) =>
 Ld kS (p3.add 0) w_2 fun (Came4 : Sl) =>
 NilCk r1 fun (p5 : Addr) =>
 Ld kI (p5.add 1) w_2 fun (Used6 : Int) =>
 R ((i64 (((i64 ((8 : Int) * ((Came4.len : Int) : Int))) : Int) - (Used6 : Int)))) w_2
theorem ref03_Reader_Left.ok (r1 : (Option Addr)) (R : Int → World → Prop) (w : World) (h : ref03_Reader_Left.E r1 R w) : Cl Try.prog [kI] n_ref03_Reader_Left ⟨[(.pointer r1)]⟩ w R :=
  calls_of_eq Try.mix Try.f21 [(.pointer r1)] [kI] R 14 [.tmp 2] (by kernel_rfl) (by kernel_rfl) (by kernel_rfl) (by kernel_rfl) (by kernel_rfl)
    (.s .o (.s .o .o))
    (by kernel_rfl) h
/-- (*bitreader.Reader).Used -/
def bitreader_Reader_Used.E (r1 : (Option Addr)) (R : Int → World → Prop) (w : World) : Prop :=
 IfB (Option.isNone (r1 : Option Addr))
 (R (0) w)
 (NilCk r1 fun (p2 : Addr) =>
 Ld kI (p2.add 2) w fun (used3 : Int) =>
 R (used3) w)
theorem bitreader_Reader_Used.ok (r1 : (Option Addr)) (R : Int → World → Prop) (w : World) (h : bitreader_Reader_Used.E r1 R w) : Cl Try.prog [kI] n_bitreader_Reader_Used ⟨[(.pointer r1)]⟩ w R :=
  calls_of_eq Try.mix Try.f22 [(.pointer r1)] [kI] R 9 [.tmp 2] (by kernel_rfl) (by kernel_rfl) (by kernel_rfl) (by kernel_rfl) (by kernel_rfl)
    (.s .o (.s (.s .o (.c (.s .o .o) .o)) (.s .o .o)))
    (by kernel_rfl) h
/-- (*bitreader.Reader).Ended -/
def bitreader_Reader_Ended.E (r1 : (Option Addr)) (R : Bool → World → Prop) (w : World) : Prop :=
 IfB (!(Option.isNone (r1 : Option Addr)))
 (NilCk r1 fun (p2 : Addr) =>
 Ld kB (p2.add 3) w fun (ended3 : Bool) =>
 R (ended3) w)
 (R (false) w)
theorem bitreader_Reader_Ended.ok (r1 : (Option Addr)) (R : Bool → World → Prop) (w : World) (h : bitreader_Reader_Ended.E r1 R w) : Cl Try.prog [kB] n_bitreader_Reader_Ended ⟨[(.pointer r1)]⟩ w R :=
  calls_of_eq Try.mix Try.f23 [(.pointer r1)] [kB] R 11 [.tmp 2] (by kernel_rfl) (by kernel_rfl) (by kernel_rfl) (by kernel_rfl) (by kernel_rfl)
    (.s .o (.s .o .o))
    (by kernel_rfl) h
/-- winepressref03.Great -/
def ref03_Great.E (chunks1 : Sl) (R : Bool → World → Prop) (w : World) : Prop :=
 ∃ (I_2 : Int → Int → World → Prop) (m_3 : Int → Int → World → Nat), I_2 (0) (0) w ∧
 ∀ (n4 : Int) (i5 : Int), ∀ (w_6 : World), I_2 n4 i5 w_6 →
 IfB (decide ((i5 : Int) < ((chunks1.len : Int) : Int)))
 (IfB (decide ((i5 : Int) ≤ (80 : Int)))
 (IfB (decide ((n4 : Int) ≤ (3000 : Int)))
 (Idx chunks1 i5 1 fun (q7 : Addr) =>
 Ld kS q7 w_6 fun (x8 : Sl) =>
 I_2 ((i64 ((n4 : Int) + ((if (4000 : Int) < ((x8.len : Int) : Int) then (4000 : Int) else ((x8.len : Int) : Int)) : Int)))) ((i64 ((i5 : Int) + (1 : Int)))) w_6 ∧ m_3 ((i64 ((n4 : Int) + ((if (4000 : Int) < ((x8.len : Int) : Int) then (4000 : Int) else ((x8.len : Int) : Int)) : Int)))) ((i64 ((i5 : Int) + (1 : Int)))) w_6 < m_3 n4 i5 w_6)
 (IfB (decide (((chunks1.len : Int) : Int) > (80 : Int)))
 (R (true) w_6)
 (R ((decide ((n4 : Int) > (3000 : Int)))) w_6)))
 (IfB (decide (((chunks1.len : Int) : Int) > (80 : Int)))
 (R (true) w_6)
 (R ((decide ((n4 : Int) > (3000 : Int)))) w_6)))
 (IfB (decide (((chunks1.len : Int) : Int) > (80 : Int)))
 (R (true) w_6)
 (R ((decide ((n4 : Int) > (3000 : Int)))) w_6))
theorem ref03_Great.ok (chunks1 : Sl) (R : Bool → World → Prop) (w : World) (h : ref03_Great.E chunks1 R w) : Cl Try.prog [kB] n_ref03_Great ⟨[(.slice chunks1.base chunks1.len chunks1.cap)]⟩ w R :=
  calls_of_eq Try.mix Try.f24 [(.slice chunks1.base chunks1.len chunks1.cap)] [kB] R 34 [.tmp 2] (by kernel_rfl) (by kernel_rfl) (by kernel_rfl) (by kernel_rfl) (by kernel_rfl)
    (.s .o (.s .o (.s (.s .o (.b (.l [(3, kI), (4, kI)] (.s (.s .o (.c .o .o)) (.s (.b .o) .o))))) (.s .o .o))))
    (by kernel_rfl) h
/-- winepressref03.Join -/
def ref03_Join.E (chunks1 : Sl) (R : Sl → World → Prop) (w : World) : Prop :=
 ∃ (I_2 : Sl → Int → World → Prop) (m_3 : Sl → Int → World → Nat), I_2 ((⟨none, 0, 0⟩ : Sl)) (0) w ∧
 ∀ (out4 : Sl) (i5 : Int), ∀ (w_6 : World), I_2 out4 i5 w_6 →
 IfB (decide ((i5 : Int) < ((chunks1.len : Int) : Int)))
 (Idx chunks1 i5 1 fun (q7 : Addr) =>
 Ld kS q7 w_6 fun (x8 : Sl) =>
 Run Try.prog (Builtin.append_ #[28, 28] 28 ⟨[(.slice out4.base out4.len out4.cap), (.slice x8.base x8.len x8.cap)]⟩) kS w_6 fun (s10 : Sl) (w_9 : World) =>
 I_2 (s10) ((i64 ((i5 : Int) + (1 : Int)))) w_9 ∧ m_3 (s10) ((i64 ((i5 : Int) + (1 : Int)))) w_9 < m_3 out4 i5 w_6)
 (R (out4) w_6)
theorem ref03_Join.ok (chunks1 : Sl) (R : Sl → World → Prop) (w : World) (h : ref03_Join.E chunks1 R w) : Cl Try.prog [kS] n_ref03_Join ⟨[(.slice chunks1.base chunks1.len chunks1.cap)]⟩ w R :=
  calls_of_eq Try.mix Try.f25 [(.slice chunks1.base chunks1.len chunks1.cap)] [kS] R 18 [.tmp 2] (by kernel_rfl) (by kernel_rfl) (by kernel_rfl) (by kernel_rfl) (by kernel_rfl)
    (.s .o (.s .o (.s (.s .o (.b (.l [(3, kS), (4, kI)] (.s (.s .o (.c .o .o)) (.s (.b .o) .o))))) (.s .o .o))))
    (by kernel_rfl) h
/-- winepressref03.Bit -/
def ref03_Bit.E (b1 : Sl) (i2 : Int) (R : Int → World → Prop) (w : World) : Prop :=
 (8 : Int) ≠ 0 ∧
 Idx b1 (i64 (Int.tdiv (i2 : Int) (8 : Int))) 1 fun (q3 : Addr) =>
 Ld (kInt .u8) q3 w fun (x4 : Int) =>
 (8 : Int) ≠ 0 ∧
 ∃ (I_5 : Int → Int → World → Prop) (m_6 : Int → Int → World → Nat), I_5 ((i64 x4)) ((Int.tmod (i2 : Int) (8 : Int))) w ∧
 ∀ (c7 : Int) (k8 : Int), ∀ (w_9 : World), I_5 c7 k8 w_9 →
 IfB (decide ((k8 : Int) < (7 : Int)))
 ((2 : Int) ≠ 0 ∧
 I_5 ((i64 (Int.tdiv (c7 : Int) (2 : Int)))) ((i64 ((k8 : Int) + (1 : Int)))) w_9 ∧ m_6 ((i64 (Int.tdiv (c7 : Int) (2 : Int)))) ((i64 ((k8 : Int) + (1 : Int)))) w_9 < m_6 c7 k8 w_9)
 ((2 : Int) ≠ 0 ∧
 R ((Int.tmod (c7 : Int) (2 : Int))) w_9)
theorem ref03_Bit.ok (b1 : Sl) (i2 : Int) (R : Int → World → Prop) (w : World) (h : ref03_Bit.E b1 i2 R w) : Cl Try.prog [kI] n_ref03_Bit ⟨[(.slice b1.base b1.len b1.cap), (.int .i64 i2)]⟩ w R :=
  calls_of_eq Try.mix Try.f26 [(.slice b1.base b1.len b1.cap), (.int .i64 i2)] [kI] R 23 [.tmp 4] (by kernel_rfl) (by kernel_rfl) (by kernel_rfl) (by kernel_rfl) (by kernel_rfl)
    (.s .o (.s .o (.s (.s .o (.b (.l [(5, kI), (6, kI)] (.s (.s .o (.c .o .o)) (.s (.b .o) .o))))) (.s .o .o))))
    (by kernel_rfl) h
end Go.Proofs.Ytmpoijocebbenaa
