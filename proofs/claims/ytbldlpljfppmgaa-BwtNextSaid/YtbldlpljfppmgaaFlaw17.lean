/-
  The formulas of the functions of this translation, printed by program: each is the verification condition of its function, and holds of no other. Conditions: none.
-/
import Derived.Test.YtbldlpljfppmgaaF
namespace Go.Proofs.Ytbldlpljfppmgaa
open Go Go.Vc
set_option maxRecDepth 100000 in
/-- winepresslaw17.BwtMatches -/
def law17_BwtMatches.E (text1 : Sl) (last2 : Sl) (i3 : Int) (k4 : Int) (index5 : Int) (row6 : Int) (R : Bool → World → Prop) (w : World) : Prop :=
 Join (fun (w_12 : World) =>
 Cl Try.prog [kS, kI] n_bwt_Turn ⟨[(.slice text1.base text1.len text1.cap)]⟩ w_12 fun (r14 : Sl) (r15 : Int) (w_13 : World) =>
 Cl Try.prog [kS, kI] n_ref17_Turn ⟨[(.slice text1.base text1.len text1.cap)]⟩ w_13 fun (r17 : Sl) (r18 : Int) (w_16 : World) =>
 Cl Try.prog [kI, (kInt .u8), kB] n_bwt_Next ⟨[(.slice last2.base last2.len last2.cap), (.int .i64 index5), (.int .i64 row6)]⟩ w_16 fun (r20 : Int) (r21 : Int) (r22 : Bool) (w_19 : World) =>
 Cl Try.prog [kI, (kInt .u8), kB] n_ref17_Next ⟨[(.slice last2.base last2.len last2.cap), (.int .i64 index5), (.int .i64 row6)]⟩ w_19 fun (r24 : Int) (r25 : Int) (r26 : Bool) (w_23 : World) =>
 Cl Try.prog [kS, kI] n_bwt_Back ⟨[(.slice last2.base last2.len last2.cap), (.int .i64 index5)]⟩ w_23 fun (r28 : Sl) (r29 : Int) (w_27 : World) =>
 Cl Try.prog [kS, kI] n_ref17_Back ⟨[(.slice last2.base last2.len last2.cap), (.int .i64 index5)]⟩ w_27 fun (r31 : Sl) (r32 : Int) (w_30 : World) =>
 Join (fun (w_42 : World) =>
 Cl Try.prog [kB] n_bwt_Less ⟨[(.slice text1.base text1.len text1.cap), (.int .i64 i3), (.int .i64 k4)]⟩ w_42 fun (r44 : Bool) (w_43 : World) =>
 Cl Try.prog [kB] n_ref17_Less ⟨[(.slice text1.base text1.len text1.cap), (.int .i64 i3), (.int .i64 k4)]⟩ w_43 fun (r46 : Bool) (w_45 : World) =>
 IfB (r44 == r46)
 (Cl Try.prog [kS] n_bwt_Order ⟨[(.slice text1.base text1.len text1.cap)]⟩ w_45 fun (r48 : Sl) (w_47 : World) =>
 Cl Try.prog [kS] n_ref17_Order ⟨[(.slice text1.base text1.len text1.cap)]⟩ w_47 fun (r50 : Sl) (w_49 : World) =>
 Cl Try.prog [kB] n_ref07_Ints ⟨[(.slice r48.base r48.len r48.cap), (.slice r50.base r50.len r50.cap)]⟩ w_49 fun (r52 : Bool) (w_51 : World) =>
 IfB r52
 (Cl Try.prog [kB] n_bwt_Valid ⟨[(.slice last2.base last2.len last2.cap), (.int .i64 index5)]⟩ w_51 fun (r54 : Bool) (w_53 : World) =>
 Cl Try.prog [kB] n_ref17_Valid ⟨[(.slice last2.base last2.len last2.cap), (.int .i64 index5)]⟩ w_53 fun (r56 : Bool) (w_55 : World) =>
 IfB (r54 == r56)
 (Cl Try.prog [kB] n_law17_wakes ⟨[]⟩ w_55 fun (r58 : Bool) (w_57 : World) =>
 R (r58) w_57)
 (R (false) w_55))
 (R (false) w_51))
 (R (false) w_45)) fun (K_33 : World → Prop) =>
 Run Try.prog (convert 42 9 (.slice r14.base r14.len r14.cap)) kStr w_30 fun (s35 : ByteArray) (w_34 : World) =>
 Run Try.prog (convert 42 9 (.slice r17.base r17.len r17.cap)) kStr w_34 fun (s37 : ByteArray) (w_36 : World) =>
 IfB (!((s35).toList == (s37).toList))
 (R (false) w_36)
 (IfB ((r15 : Int) != (r18 : Int))
 (R (false) w_36)
 (IfB ((r20 : Int) != (r24 : Int))
 (R (false) w_36)
 (IfB ((r21 : Int) != (r25 : Int))
 (R (false) w_36)
 (IfB (!(r22 == r26))
 (R (false) w_36)
 (Run Try.prog (convert 42 9 (.slice r28.base r28.len r28.cap)) kStr w_36 fun (s39 : ByteArray) (w_38 : World) =>
 Run Try.prog (convert 42 9 (.slice r31.base r31.len r31.cap)) kStr w_38 fun (s41 : ByteArray) (w_40 : World) =>
 IfB (!((s39).toList == (s41).toList))
 (R (false) w_40)
 (IfB ((r29 : Int) != (r32 : Int))
 (R (false) w_40)
 (K_33  w_40)))))))) fun (K_7 : World → Prop) =>
 IfB (decide (((text1.len : Int) : Int) > (120 : Int)))
 (Cl Try.prog [kB] n_law17_wakes ⟨[]⟩ w fun (r9 : Bool) (w_8 : World) =>
 R (r9) w_8)
 (IfB (decide (((last2.len : Int) : Int) > (120 : Int)))
 (Cl Try.prog [kB] n_law17_wakes ⟨[]⟩ w fun (r11 : Bool) (w_10 : World) =>
 R (r11) w_10)
 (K_7  w))
set_option maxRecDepth 100000 in
theorem law17_BwtMatches.ok (text1 : Sl) (last2 : Sl) (i3 : Int) (k4 : Int) (index5 : Int) (row6 : Int) (R : Bool → World → Prop) (w : World) (h : law17_BwtMatches.E text1 last2 i3 k4 index5 row6 R w) : Cl Try.prog [kB] n_law17_BwtMatches ⟨[(.slice text1.base text1.len text1.cap), (.slice last2.base last2.len last2.cap), (.int .i64 i3), (.int .i64 k4), (.int .i64 index5), (.int .i64 row6)]⟩ w R :=
  calls_of_eq Try.mix Try.f7 [(.slice text1.base text1.len text1.cap), (.slice last2.base last2.len last2.cap), (.int .i64 i3), (.int .i64 k4), (.int .i64 index5), (.int .i64 row6)] [kB] R 139 [.tmp 12] (by kernel_rfl) (by kernel_rfl) (by kernel_rfl) (by kernel_rfl) (by kernel_rfl)
    (.s .o (.j [] (.s .o (.c (.s .o .o) .o)) (.s .o (.s .o (.s .o (.s .o (.s .o (.s .o (.j [] (.s .o (.c (.s .o .o) .o)) (.s .o .o))))))))))
    (by kernel_rfl) h
set_option maxRecDepth 100000 in
/-- winepresslaw17.BwtBack -/
def law17_BwtBack.E (text1 : Sl) (row2 : Int) (R : Bool → World → Prop) (w : World) : Prop :=
 IfB (decide (((text1.len : Int) : Int) > (200 : Int)))
 (Cl Try.prog [kB] n_law17_wakes ⟨[]⟩ w fun (r4 : Bool) (w_3 : World) =>
 R (r4) w_3)
 (Cl Try.prog [kS, kI] n_bwt_Turn ⟨[(.slice text1.base text1.len text1.cap)]⟩ w fun (r6 : Sl) (r7 : Int) (w_5 : World) =>
 Cl Try.prog [kS, kI] n_bwt_Back ⟨[(.slice r6.base r6.len r6.cap), (.int .i64 r7)]⟩ w_5 fun (r9 : Sl) (r10 : Int) (w_8 : World) =>
 Join (fun (w_18 : World) =>
 Nw 53 ⟨List.replicate 256 (.int .i64 0)⟩ w_18 fun (b20 : Nat) (w_19 : World) =>
 ∃ (I_21 : Int → World → Prop) (m_22 : Int → World → Nat), I_21 (0) w_19 ∧
 ∀ (k23 : Int), ∀ (w_24 : World), I_21 k23 w_24 →
 IfB (decide ((k23 : Int) < ((text1.len : Int) : Int)))
 (Idx text1 k23 1 fun (q25 : Addr) =>
 Ld (kInt .u8) q25 w_24 fun (x26 : Int) =>
 IdxP (⟨b20, 0, none⟩ : Addr) 256 x26 1 fun (q27 : Addr) =>
 Ld kI q27 w_24 fun (x28 : Int) =>
 IdxP (⟨b20, 0, none⟩ : Addr) 256 x26 1 fun (q29 : Addr) =>
 St q29 (.int .i64 (i64 ((x28 : Int) + (1 : Int)))) w_24 fun (w_30 : World) =>
 Idx r6 k23 1 fun (q31 : Addr) =>
 Ld (kInt .u8) q31 w_30 fun (x32 : Int) =>
 IdxP (⟨b20, 0, none⟩ : Addr) 256 x32 1 fun (q33 : Addr) =>
 Ld kI q33 w_30 fun (x34 : Int) =>
 IdxP (⟨b20, 0, none⟩ : Addr) 256 x32 1 fun (q35 : Addr) =>
 St q35 (.int .i64 (i64 ((x34 : Int) - (1 : Int)))) w_30 fun (w_36 : World) =>
 I_21 ((i64 ((k23 : Int) + (1 : Int)))) w_36 ∧ m_22 ((i64 ((k23 : Int) + (1 : Int)))) w_36 < m_22 k23 w_24)
 (Ld (.arr 256) (⟨b20, 0, none⟩ : Addr) w_24 fun (x37 : (Array Value)) =>
 Bld Try.prog 53 [] fun (cs38 : Array Value) =>
 EqA .i64 256 x37 cs38 fun (eq39 : Bool) =>
 IfB (!eq39)
 (R (false) w_24)
 (Cl Try.prog [kS, kI] n_bwt_Back ⟨[(.slice r6.base r6.len r6.cap), (.int .i64 row2)]⟩ w_24 fun (r41 : Sl) (r42 : Int) (w_40 : World) =>
 IfB ((row2 : Int) == (r7 : Int))
 (Cl Try.prog [kB] n_law17_wakes ⟨[]⟩ w_40 fun (r44 : Bool) (w_43 : World) =>
 R (r44) w_43)
 (IfB ((r42 : Int) != (0 : Int))
 (Cl Try.prog [kB] n_law17_wakes ⟨[]⟩ w_40 fun (r46 : Bool) (w_45 : World) =>
 R (r46) w_45)
 (Run Try.prog (convert 42 9 (.slice r41.base r41.len r41.cap)) kStr w_40 fun (s48 : ByteArray) (w_47 : World) =>
 Run Try.prog (convert 42 9 (.slice text1.base text1.len text1.cap)) kStr w_47 fun (s50 : ByteArray) (w_49 : World) =>
 IfB (!((s48).toList == (s50).toList))
 (Cl Try.prog [kB] n_law17_wakes ⟨[]⟩ w_49 fun (r52 : Bool) (w_51 : World) =>
 R (r52) w_51)
 (R (false) w_49)))))) fun (K_11 : World → Prop) =>
 IfB (((r6.len : Int) : Int) != ((text1.len : Int) : Int))
 (R (false) w_8)
 (IfB ((r10 : Int) != (0 : Int))
 (R (false) w_8)
 (Run Try.prog (convert 42 9 (.slice r9.base r9.len r9.cap)) kStr w_8 fun (s13 : ByteArray) (w_12 : World) =>
 Run Try.prog (convert 42 9 (.slice text1.base text1.len text1.cap)) kStr w_12 fun (s15 : ByteArray) (w_14 : World) =>
 IfB (!((s13).toList == (s15).toList))
 (R (false) w_14)
 (Cl Try.prog [kB] n_bwt_Valid ⟨[(.slice r6.base r6.len r6.cap), (.int .i64 r7)]⟩ w_14 fun (r17 : Bool) (w_16 : World) =>
 IfB (!r17)
 (R (false) w_16)
 (IfB (decide ((r7 : Int) < (0 : Int)))
 (R (false) w_16)
 (IfB (decide ((r7 : Int) > ((text1.len : Int) : Int)))
 (R (false) w_16)
 (IfB (!(((r7 : Int) == (0 : Int)) == (((text1.len : Int) : Int) == (0 : Int))))
 (R (false) w_16)
 (K_11  w_16))))))))
set_option maxRecDepth 100000 in
theorem law17_BwtBack.ok (text1 : Sl) (row2 : Int) (R : Bool → World → Prop) (w : World) (h : law17_BwtBack.E text1 row2 R w) : Cl Try.prog [kB] n_law17_BwtBack ⟨[(.slice text1.base text1.len text1.cap), (.int .i64 row2)]⟩ w R :=
  calls_of_eq Try.mix Try.f8 [(.slice text1.base text1.len text1.cap), (.int .i64 row2)] [kB] R 116 [.tmp 4] (by kernel_rfl) (by kernel_rfl) (by kernel_rfl) (by kernel_rfl) (by kernel_rfl)
    (.s .o (.s (.s .o (.c (.s .o .o) .o)) (.s .o (.s .o (.j [] (.s .o (.c (.s .o .o) .o)) (.s .o (.s (.s .o (.b (.l [(10, kI)] (.s (.s .o (.c .o .o)) (.s (.b (.s .o .o)) .o))))) (.s (.s .o (.c (.s .o .o) .o)) (.s .o (.s .o .o))))))))))
    (by kernel_rfl) h
set_option maxRecDepth 100000 in
/-- winepresslaw17.BwtOrder -/
def law17_BwtOrder.E (text1 : Sl) (i2 : Int) (k3 : Int) (R : Bool → World → Prop) (w : World) : Prop :=
 IfB (decide (((text1.len : Int) : Int) > (120 : Int)))
 (Cl Try.prog [kB] n_law17_wakes ⟨[]⟩ w fun (r5 : Bool) (w_4 : World) =>
 R (r5) w_4)
 (Cl Try.prog [kS] n_bwt_Order ⟨[(.slice text1.base text1.len text1.cap)]⟩ w fun (r7 : Sl) (w_6 : World) =>
 IfB (((r7.len : Int) : Int) != ((i64 (((text1.len : Int) : Int) + (1 : Int))) : Int))
 (R (false) w_6)
 (Run Try.prog (Instr.makeSlice 54 (.int .i64 (r7.len : Int)) (.int .i64 (r7.len : Int))) kS w_6 fun (s9 : Sl) (w_8 : World) =>
 ∃ (I_10 : Int → World → Prop) (m_11 : Int → World → Nat), I_10 (0) w_8 ∧
 ∀ (r12 : Int), ∀ (w_13 : World), I_10 r12 w_13 →
 IfB (decide ((r12 : Int) < ((r7.len : Int) : Int)))
 (Join (fun (w_23 : World) =>
 Idx r7 r12 1 fun (q24 : Addr) =>
 Ld kI q24 w_23 fun (x25 : Int) =>
 Idx s9 x25 1 fun (q26 : Addr) =>
 St q26 (.bool true) w_23 fun (w_27 : World) =>
 Held w_27 fun (S28 : World → Prop) (w_29 : World) =>
 IfB (decide ((r12 : Int) > (0 : Int)))
 (Idx r7 (i64 ((r12 : Int) - (1 : Int))) 1 fun (q30 : Addr) =>
 LdS kI q30 S28 fun (x31 : Int) =>
 Slc text1 x31 (text1).len (text1).cap 1 fun (s32 : Sl) =>
 Idx r7 r12 1 fun (q33 : Addr) =>
 LdS kI q33 S28 fun (x34 : Int) =>
 Slc text1 x34 (text1).len (text1).cap 1 fun (s35 : Sl) =>
 (Run Try.prog (convert 42 9 (.slice s32.base s32.len s32.cap)) kStr w_29 fun (s37 : ByteArray) (w_36 : World) =>
 S28 w_36 ∧
 Run Try.prog (convert 42 9 (.slice s35.base s35.len s35.cap)) kStr w_36 fun (s39 : ByteArray) (w_38 : World) =>
 S28 w_38 ∧
 IfB (!(Op.bytesLess (s37).toList (s39).toList))
 (R (false) w_38)
 (I_10 ((i64 ((r12 : Int) + (1 : Int)))) w_38 ∧ m_11 ((i64 ((r12 : Int) + (1 : Int)))) w_38 < m_11 r12 w_13)) ∧
 (Run Try.prog (convert 42 9 (.slice s35.base s35.len s35.cap)) kStr w_29 fun (s41 : ByteArray) (w_40 : World) =>
 S28 w_40 ∧
 Run Try.prog (convert 42 9 (.slice s32.base s32.len s32.cap)) kStr w_40 fun (s43 : ByteArray) (w_42 : World) =>
 S28 w_42 ∧
 IfB (!(Op.bytesLess (s43).toList (s41).toList))
 (R (false) w_42)
 (I_10 ((i64 ((r12 : Int) + (1 : Int)))) w_42 ∧ m_11 ((i64 ((r12 : Int) + (1 : Int)))) w_42 < m_11 r12 w_13)))
 ((I_10 ((i64 ((r12 : Int) + (1 : Int)))) w_29 ∧ m_11 ((i64 ((r12 : Int) + (1 : Int)))) w_29 < m_11 r12 w_13) ∧
 (I_10 ((i64 ((r12 : Int) + (1 : Int)))) w_29 ∧ m_11 ((i64 ((r12 : Int) + (1 : Int)))) w_29 < m_11 r12 w_13))) fun (K_14 : World → Prop) =>
 Idx r7 r12 1 fun (q15 : Addr) =>
 Ld kI q15 w_13 fun (x16 : Int) =>
 IfB (decide ((x16 : Int) < (0 : Int)))
 (R (false) w_13)
 (Idx r7 r12 1 fun (q17 : Addr) =>
 Ld kI q17 w_13 fun (x18 : Int) =>
 IfB (decide ((x18 : Int) > ((text1.len : Int) : Int)))
 (R (false) w_13)
 (Idx r7 r12 1 fun (q19 : Addr) =>
 Ld kI q19 w_13 fun (x20 : Int) =>
 Idx s9 x20 1 fun (q21 : Addr) =>
 Ld kB q21 w_13 fun (x22 : Bool) =>
 IfB x22
 (R (false) w_13)
 (K_14  w_13))))
 (Join (fun (in_45 : Bool) (w_46 : World) =>
 Cl Try.prog [kB] n_bwt_Less ⟨[(.slice text1.base text1.len text1.cap), (.int .i64 i2), (.int .i64 k3)]⟩ w_46 fun (r48 : Bool) (w_47 : World) =>
 Cl Try.prog [kB] n_bwt_Less ⟨[(.slice text1.base text1.len text1.cap), (.int .i64 k3), (.int .i64 i2)]⟩ w_47 fun (r50 : Bool) (w_49 : World) =>
 IfB in_45
 (IfB ((!(r48 == r50)) == ((i2 : Int) != (k3 : Int)))
 (IfB r48
 (IfB (!r50)
 (Cl Try.prog [kB] n_law17_wakes ⟨[]⟩ w_49 fun (r52 : Bool) (w_51 : World) =>
 R (r52) w_51)
 (R (false) w_49))
 (Cl Try.prog [kB] n_law17_wakes ⟨[]⟩ w_49 fun (r54 : Bool) (w_53 : World) =>
 R (r54) w_53))
 (R (false) w_49))
 (IfB ((!(r48 == r50)) == false)
 (IfB r48
 (IfB (!r50)
 (Cl Try.prog [kB] n_law17_wakes ⟨[]⟩ w_49 fun (r56 : Bool) (w_55 : World) =>
 R (r56) w_55)
 (R (false) w_49))
 (Cl Try.prog [kB] n_law17_wakes ⟨[]⟩ w_49 fun (r58 : Bool) (w_57 : World) =>
 R (r58) w_57))
 (R (false) w_49))) fun (K_44 : Bool → World → Prop) =>
 IfB (decide ((i2 : Int) ≥ (0 : Int)))
 (IfB (decide ((i2 : Int) ≤ ((text1.len : Int) : Int)))
 (IfB (decide ((k3 : Int) ≥ (0 : Int)))
 (K_44 ((decide ((k3 : Int) ≤ ((text1.len : Int) : Int)))) w_13)
 (K_44 (false) w_13))
 (K_44 (false) w_13))
 (K_44 (false) w_13))))
set_option maxRecDepth 100000 in
theorem law17_BwtOrder.ok (text1 : Sl) (i2 : Int) (k3 : Int) (R : Bool → World → Prop) (w : World) (h : law17_BwtOrder.E text1 i2 k3 R w) : Cl Try.prog [kB] n_law17_BwtOrder ⟨[(.slice text1.base text1.len text1.cap), (.int .i64 i2), (.int .i64 k3)]⟩ w R :=
  calls_of_eq Try.mix Try.f9 [(.slice text1.base text1.len text1.cap), (.int .i64 i2), (.int .i64 k3)] [kB] R 129 [.tmp 6] (by kernel_rfl) (by kernel_rfl) (by kernel_rfl) (by kernel_rfl) (by kernel_rfl)
    (.s .o (.s (.s .o (.c (.s .o .o) .o)) (.s .o (.s (.s .o (.c (.s .o .o) .o)) (.s .o (.s (.s .o (.b (.l [(9, kI)] (.s (.s .o (.c .o .o)) (.s (.b (.j [] (.s .o (.c (.s .o .o) .o)) (.s .o (.s .o (.c (.s .o .o) .o))))) .o))))) (.j [(10, kB)] .o (.s .o (.s .o .o)))))))))
    (by kernel_rfl) h
set_option maxRecDepth 100000 in
/-- winepresslaw17.BwtOnly -/
def law17_BwtOnly.E (last1 : Sl) (index2 : Int) (R : Bool → World → Prop) (w : World) : Prop :=
 IfB (decide (((last1.len : Int) : Int) > (100 : Int)))
 (Cl Try.prog [kB] n_law17_wakes ⟨[]⟩ w fun (r4 : Bool) (w_3 : World) =>
 R (r4) w_3)
 (Cl Try.prog [kS, kI] n_bwt_Back ⟨[(.slice last1.base last1.len last1.cap), (.int .i64 index2)]⟩ w fun (r6 : Sl) (r7 : Int) (w_5 : World) =>
 IfB ((r7 : Int) == (0 : Int))
 (Cl Try.prog [kS, kI] n_bwt_Turn ⟨[(.slice r6.base r6.len r6.cap)]⟩ w_5 fun (r9 : Sl) (r10 : Int) (w_8 : World) =>
 Run Try.prog (convert 42 9 (.slice r9.base r9.len r9.cap)) kStr w_8 fun (s12 : ByteArray) (w_11 : World) =>
 Run Try.prog (convert 42 9 (.slice last1.base last1.len last1.cap)) kStr w_11 fun (s14 : ByteArray) (w_13 : World) =>
 IfB ((s12).toList == (s14).toList)
 (IfB ((r10 : Int) == (index2 : Int))
 (Cl Try.prog [kB] n_law17_wakes ⟨[]⟩ w_13 fun (r16 : Bool) (w_15 : World) =>
 R (r16) w_15)
 (R (false) w_13))
 (R (false) w_13))
 (Join (fun (w_18 : World) =>
 IfB (decide (((last1.len : Int) : Int) > (4 : Int)))
 (Cl Try.prog [kB] n_law17_wakes ⟨[]⟩ w_18 fun (r20 : Bool) (w_19 : World) =>
 R (r20) w_19)
 (∃ (I_21 : Int → Int → World → Prop) (m_22 : Int → Int → World → Nat), I_21 (1) (0) w_18 ∧
 ∀ (all_23 : Int) (k24 : Int), ∀ (w_25 : World), I_21 all_23 k24 w_25 →
 IfB (decide ((k24 : Int) < ((last1.len : Int) : Int)))
 (I_21 ((i64 ((all_23 : Int) * ((last1.len : Int) : Int)))) ((i64 ((k24 : Int) + (1 : Int)))) w_25 ∧ m_22 ((i64 ((all_23 : Int) * ((last1.len : Int) : Int)))) ((i64 ((k24 : Int) + (1 : Int)))) w_25 < m_22 all_23 k24 w_25)
 (∃ (I_26 : Int → World → Prop) (m_27 : Int → World → Nat), I_26 (0) w_25 ∧
 ∀ (x28 : Int), ∀ (w_29 : World), I_26 x28 w_29 →
 IfB (decide ((x28 : Int) < (all_23 : Int)))
 (∃ (I_30 : Int → Sl → Int → World → Prop) (m_31 : Int → Sl → Int → World → Nat), I_30 (x28) ((⟨none, 0, 0⟩ : Sl)) (0) w_29 ∧
 ∀ (y32 : Int) (text33 : Sl) (k34 : Int), ∀ (w_35 : World), I_30 y32 text33 k34 w_35 →
 IfB (decide ((k34 : Int) < ((last1.len : Int) : Int)))
 (((last1.len : Int) : Int) ≠ 0 ∧
 Idx last1 (Int.tmod (y32 : Int) ((last1.len : Int) : Int)) 1 fun (q36 : Addr) =>
 Ld (kInt .u8) q36 w_35 fun (x37 : Int) =>
 Nw 5 ⟨[(.int .u8 x37)]⟩ w_35 fun (b39 : Nat) (w_38 : World) =>
 Run Try.prog (Builtin.append_ #[42, 42] 42 ⟨[(.slice text33.base text33.len text33.cap), (.slice (⟨some ⟨b39, 0, none⟩, 1, 1⟩ : Sl).base (⟨some ⟨b39, 0, none⟩, 1, 1⟩ : Sl).len (⟨some ⟨b39, 0, none⟩, 1, 1⟩ : Sl).cap)]⟩) kS w_38 fun (s41 : Sl) (w_40 : World) =>
 ((last1.len : Int) : Int) ≠ 0 ∧
 I_30 ((i64 (Int.tdiv (y32 : Int) ((last1.len : Int) : Int)))) (s41) ((i64 ((k34 : Int) + (1 : Int)))) w_40 ∧ m_31 ((i64 (Int.tdiv (y32 : Int) ((last1.len : Int) : Int)))) (s41) ((i64 ((k34 : Int) + (1 : Int)))) w_40 < m_31 y32 text33 k34 w_35)
 (Cl Try.prog [kS, kI] n_bwt_Turn ⟨[(.slice text33.base text33.len text33.cap)]⟩ w_35 fun (r43 : Sl) (r44 : Int) (w_42 : World) =>
 Run Try.prog (convert 42 9 (.slice r43.base r43.len r43.cap)) kStr w_42 fun (s46 : ByteArray) (w_45 : World) =>
 Run Try.prog (convert 42 9 (.slice last1.base last1.len last1.cap)) kStr w_45 fun (s48 : ByteArray) (w_47 : World) =>
 IfB ((s46).toList == (s48).toList)
 (IfB ((r44 : Int) == (index2 : Int))
 (R (false) w_47)
 (I_26 ((i64 ((x28 : Int) + (1 : Int)))) w_47 ∧ m_27 ((i64 ((x28 : Int) + (1 : Int)))) w_47 < m_27 x28 w_29))
 (I_26 ((i64 ((x28 : Int) + (1 : Int)))) w_47 ∧ m_27 ((i64 ((x28 : Int) + (1 : Int)))) w_47 < m_27 x28 w_29)))
 (Cl Try.prog [kB] n_law17_wakes ⟨[]⟩ w_29 fun (r50 : Bool) (w_49 : World) =>
 R (r50) w_49)))) fun (K_17 : World → Prop) =>
 IfB (((r6.len : Int) : Int) != (0 : Int))
 (R (false) w_5)
 (IfB ((r7 : Int) != (170 : Int))
 (R (false) w_5)
 (K_17  w_5))))
set_option maxRecDepth 100000 in
theorem law17_BwtOnly.ok (last1 : Sl) (index2 : Int) (R : Bool → World → Prop) (w : World) (h : law17_BwtOnly.E last1 index2 R w) : Cl Try.prog [kB] n_law17_BwtOnly ⟨[(.slice last1.base last1.len last1.cap), (.int .i64 index2)]⟩ w R :=
  calls_of_eq Try.mix Try.f10 [(.slice last1.base last1.len last1.cap), (.int .i64 index2)] [kB] R 107 [.tmp 4] (by kernel_rfl) (by kernel_rfl) (by kernel_rfl) (by kernel_rfl) (by kernel_rfl)
    (.s .o (.s (.s .o (.c (.s .o .o) .o)) (.s .o (.s (.s .o (.c (.s .o (.s .o .o)) .o)) (.j [] (.s .o (.c (.s .o .o) .o)) (.s .o (.s (.s .o (.c (.s .o .o) .o)) (.s .o (.s (.s .o (.b (.l [(10, kI), (11, kI)] (.s (.s .o (.c .o .o)) (.s (.b .o) .o))))) (.s (.s .o (.b (.l [(12, kI)] (.s (.s .o (.c .o .o)) (.s (.b (.s .o (.s .o (.s (.s .o (.b (.l [(13, kI), (14, kS), (15, kI)] (.s (.s .o (.c .o .o)) (.s (.b (.s .o .o)) .o))))) (.s .o (.s .o (.c (.s .o .o) .o))))))) .o))))) (.s .o .o)))))))))))
    (by kernel_rfl) h
set_option maxRecDepth 100000 in
/-- winepresslaw17.BwtNext -/
def law17_BwtNext.E (last1 : Sl) (index2 : Int) (R : Bool → World → Prop) (w : World) : Prop :=
 Join (fun (w_12 : World) =>
 Run Try.prog (Instr.makeSlice 54 (.int .i64 (i64 (((last1.len : Int) : Int) + (1 : Int)))) (.int .i64 (i64 (((last1.len : Int) : Int) + (1 : Int))))) kS w_12 fun (s14 : Sl) (w_13 : World) =>
 ∃ (I_15 : Int → World → Prop) (m_16 : Int → World → Nat), I_15 (0) w_13 ∧
 ∀ (row17 : Int), ∀ (w_18 : World), I_15 row17 w_18 →
 IfB (decide ((row17 : Int) ≤ ((last1.len : Int) : Int)))
 (Cl Try.prog [kI, (kInt .u8), kB] n_bwt_Next ⟨[(.slice last1.base last1.len last1.cap), (.int .i64 index2), (.int .i64 row17)]⟩ w_18 fun (r20 : Int) (r21 : Int) (r22 : Bool) (w_19 : World) =>
 IfB (!(r22 == ((row17 : Int) != (index2 : Int))))
 (R (false) w_19)
 (IfB r22
 (IfB (decide ((r20 : Int) < (1 : Int)))
 (R (false) w_19)
 (IfB (decide ((r20 : Int) > ((last1.len : Int) : Int)))
 (R (false) w_19)
 (Idx s14 r20 1 fun (q23 : Addr) =>
 Ld kB q23 w_19 fun (x24 : Bool) =>
 IfB x24
 (R (false) w_19)
 (IfB r22
 (Idx s14 r20 1 fun (q25 : Addr) =>
 St q25 (.bool true) w_19 fun (w_26 : World) =>
 I_15 ((i64 ((row17 : Int) + (1 : Int)))) w_26 ∧ m_16 ((i64 ((row17 : Int) + (1 : Int)))) w_26 < m_16 row17 w_18)
 (I_15 ((i64 ((row17 : Int) + (1 : Int)))) w_19 ∧ m_16 ((i64 ((row17 : Int) + (1 : Int)))) w_19 < m_16 row17 w_18)))))
 (IfB r22
 (Idx s14 r20 1 fun (q27 : Addr) =>
 St q27 (.bool true) w_19 fun (w_28 : World) =>
 I_15 ((i64 ((row17 : Int) + (1 : Int)))) w_28 ∧ m_16 ((i64 ((row17 : Int) + (1 : Int)))) w_28 < m_16 row17 w_18)
 (I_15 ((i64 ((row17 : Int) + (1 : Int)))) w_19 ∧ m_16 ((i64 ((row17 : Int) + (1 : Int)))) w_19 < m_16 row17 w_18))))
 (∃ (I_29 : Int → Int → World → Prop) (m_30 : Int → Int → World → Nat), I_29 (0) (0) w_18 ∧
 ∀ (row31 : Int) (n32 : Int), ∀ (w_33 : World), I_29 row31 n32 w_33 →
 IfB ((row31 : Int) != (index2 : Int))
 (IfB (decide ((n32 : Int) ≤ ((last1.len : Int) : Int)))
 (Cl Try.prog [kI, (kInt .u8), kB] n_bwt_Next ⟨[(.slice last1.base last1.len last1.cap), (.int .i64 index2), (.int .i64 row31)]⟩ w_33 fun (r35 : Int) (r36 : Int) (r37 : Bool) (w_34 : World) =>
 I_29 (r35) ((i64 ((n32 : Int) + (1 : Int)))) w_34 ∧ m_30 (r35) ((i64 ((n32 : Int) + (1 : Int)))) w_34 < m_30 row31 n32 w_33)
 (IfB ((row31 : Int) == (index2 : Int))
 (IfB (decide ((n32 : Int) ≤ ((last1.len : Int) : Int)))
 (IfB ((n32 : Int) == ((last1.len : Int) : Int))
 (Cl Try.prog [kB] n_bwt_Valid ⟨[(.slice last1.base last1.len last1.cap), (.int .i64 index2)]⟩ w_33 fun (r39 : Bool) (w_38 : World) =>
 IfB ((decide ((index2 : Int) > (0 : Int))) == r39)
 (Cl Try.prog [kB] n_law17_wakes ⟨[]⟩ w_38 fun (r41 : Bool) (w_40 : World) =>
 R (r41) w_40)
 (R (false) w_38))
 (Cl Try.prog [kB] n_bwt_Valid ⟨[(.slice last1.base last1.len last1.cap), (.int .i64 index2)]⟩ w_33 fun (r43 : Bool) (w_42 : World) =>
 IfB (false == r43)
 (Cl Try.prog [kB] n_law17_wakes ⟨[]⟩ w_42 fun (r45 : Bool) (w_44 : World) =>
 R (r45) w_44)
 (R (false) w_42)))
 (R (false) w_33))
 (R (false) w_33)))
 (IfB ((row31 : Int) == (index2 : Int))
 (IfB (decide ((n32 : Int) ≤ ((last1.len : Int) : Int)))
 (IfB ((n32 : Int) == ((last1.len : Int) : Int))
 (Cl Try.prog [kB] n_bwt_Valid ⟨[(.slice last1.base last1.len last1.cap), (.int .i64 index2)]⟩ w_33 fun (r47 : Bool) (w_46 : World) =>
 IfB ((decide ((index2 : Int) > (0 : Int))) == r47)
 (Cl Try.prog [kB] n_law17_wakes ⟨[]⟩ w_46 fun (r49 : Bool) (w_48 : World) =>
 R (r49) w_48)
 (R (false) w_46))
 (Cl Try.prog [kB] n_bwt_Valid ⟨[(.slice last1.base last1.len last1.cap), (.int .i64 index2)]⟩ w_33 fun (r51 : Bool) (w_50 : World) =>
 IfB (false == r51)
 (Cl Try.prog [kB] n_law17_wakes ⟨[]⟩ w_50 fun (r53 : Bool) (w_52 : World) =>
 R (r53) w_52)
 (R (false) w_50)))
 (R (false) w_33))
 (R (false) w_33)))) fun (K_3 : World → Prop) =>
 IfB (((last1.len : Int) : Int) == (0 : Int))
 (Cl Try.prog [kB] n_law17_wakes ⟨[]⟩ w fun (r5 : Bool) (w_4 : World) =>
 R (r5) w_4)
 (IfB (decide (((last1.len : Int) : Int) > (100 : Int)))
 (Cl Try.prog [kB] n_law17_wakes ⟨[]⟩ w fun (r7 : Bool) (w_6 : World) =>
 R (r7) w_6)
 (IfB (decide ((index2 : Int) < (0 : Int)))
 (Cl Try.prog [kB] n_law17_wakes ⟨[]⟩ w fun (r9 : Bool) (w_8 : World) =>
 R (r9) w_8)
 (IfB (decide ((index2 : Int) > ((last1.len : Int) : Int)))
 (Cl Try.prog [kB] n_law17_wakes ⟨[]⟩ w fun (r11 : Bool) (w_10 : World) =>
 R (r11) w_10)
 (K_3  w))))
set_option maxRecDepth 100000 in
theorem law17_BwtNext.ok (last1 : Sl) (index2 : Int) (R : Bool → World → Prop) (w : World) (h : law17_BwtNext.E last1 index2 R w) : Cl Try.prog [kB] n_law17_BwtNext ⟨[(.slice last1.base last1.len last1.cap), (.int .i64 index2)]⟩ w R :=
  calls_of_eq Try.mix Try.f11 [(.slice last1.base last1.len last1.cap), (.int .i64 index2)] [kB] R 120 [.tmp 4] (by kernel_rfl) (by kernel_rfl) (by kernel_rfl) (by kernel_rfl) (by kernel_rfl)
    (.s .o (.j [] (.s .o (.c (.s .o .o) .o)) (.s .o (.s (.s .o (.b (.l [(6, kI)] (.s (.s .o (.c .o .o)) (.s (.b (.s .o (.s (.s .o (.c (.s .o .o) .o)) (.s (.s .o (.c (.s .o .o) .o)) (.s .o (.c .o .o)))))) .o))))) (.s .o (.s (.b (.l [(10, kI), (11, kI)] (.s (.s .o (.c .o .o)) (.b (.s .o .o))))) (.s .o .o)))))))
    (by kernel_rfl) h
set_option maxRecDepth 100000 in
/-- winepresslaw17.wakes -/
def law17_wakes.E  (R : Bool → World → Prop) (w : World) : Prop :=
 Nw 5 ⟨[(.int .u8 98), (.int .u8 97), (.int .u8 110), (.int .u8 97), (.int .u8 110), (.int .u8 97)]⟩ w fun (b2 : Nat) (w_1 : World) =>
 Run Try.prog (convert 42 42 (.slice (⟨some ⟨b2, 0, none⟩, 6, 6⟩ : Sl).base (⟨some ⟨b2, 0, none⟩, 6, 6⟩ : Sl).len (⟨some ⟨b2, 0, none⟩, 6, 6⟩ : Sl).cap)) kS w_1 fun (s4 : Sl) (w_3 : World) =>
 Cl Try.prog [kS, kI] n_bwt_Turn ⟨[(.slice s4.base s4.len s4.cap)]⟩ w_3 fun (r6 : Sl) (r7 : Int) (w_5 : World) =>
 Nw 5 ⟨[(.int .u8 97), (.int .u8 110), (.int .u8 110), (.int .u8 98), (.int .u8 97), (.int .u8 97)]⟩ w_5 fun (b9 : Nat) (w_8 : World) =>
 Run Try.prog (convert 42 42 (.slice (⟨some ⟨b9, 0, none⟩, 6, 6⟩ : Sl).base (⟨some ⟨b9, 0, none⟩, 6, 6⟩ : Sl).len (⟨some ⟨b9, 0, none⟩, 6, 6⟩ : Sl).cap)) kS w_8 fun (s11 : Sl) (w_10 : World) =>
 Cl Try.prog [kS, kI] n_bwt_Back ⟨[(.slice s11.base s11.len s11.cap), (.int .i64 4)]⟩ w_10 fun (r13 : Sl) (r14 : Int) (w_12 : World) =>
 Nw 5 ⟨[(.int .u8 97), (.int .u8 110), (.int .u8 110), (.int .u8 98), (.int .u8 97), (.int .u8 97)]⟩ w_12 fun (b16 : Nat) (w_15 : World) =>
 Run Try.prog (convert 42 42 (.slice (⟨some ⟨b16, 0, none⟩, 6, 6⟩ : Sl).base (⟨some ⟨b16, 0, none⟩, 6, 6⟩ : Sl).len (⟨some ⟨b16, 0, none⟩, 6, 6⟩ : Sl).cap)) kS w_15 fun (s18 : Sl) (w_17 : World) =>
 Cl Try.prog [kS, kI] n_bwt_Back ⟨[(.slice s18.base s18.len s18.cap), (.int .i64 3)]⟩ w_17 fun (r20 : Sl) (r21 : Int) (w_19 : World) =>
 Nw 5 ⟨[(.int .u8 97), (.int .u8 98)]⟩ w_19 fun (b23 : Nat) (w_22 : World) =>
 Run Try.prog (convert 42 42 (.slice (⟨some ⟨b23, 0, none⟩, 2, 2⟩ : Sl).base (⟨some ⟨b23, 0, none⟩, 2, 2⟩ : Sl).len (⟨some ⟨b23, 0, none⟩, 2, 2⟩ : Sl).cap)) kS w_22 fun (s25 : Sl) (w_24 : World) =>
 Cl Try.prog [kS, kI] n_bwt_Back ⟨[(.slice s25.base s25.len s25.cap), (.int .i64 0)]⟩ w_24 fun (r27 : Sl) (r28 : Int) (w_26 : World) =>
 Cl Try.prog [kS, kI] n_bwt_Turn ⟨[(.slice none 0 0)]⟩ w_26 fun (r30 : Sl) (r31 : Int) (w_29 : World) =>
 Cl Try.prog [kS, kI] n_bwt_Back ⟨[(.slice none 0 0), (.int .i64 0)]⟩ w_29 fun (r33 : Sl) (r34 : Int) (w_32 : World) =>
 Cl Try.prog [kI, (kInt .u8), kB] n_bwt_Next ⟨[(.slice r6.base r6.len r6.cap), (.int .i64 4), (.int .i64 0)]⟩ w_32 fun (r36 : Int) (r37 : Int) (r38 : Bool) (w_35 : World) =>
 Cl Try.prog [kI, (kInt .u8), kB] n_bwt_Next ⟨[(.slice r6.base r6.len r6.cap), (.int .i64 4), (.int .i64 4)]⟩ w_35 fun (r40 : Int) (r41 : Int) (r42 : Bool) (w_39 : World) =>
 Cl Try.prog [kS] n_bwt_Order ⟨[(.slice s4.base s4.len s4.cap)]⟩ w_39 fun (r44 : Sl) (w_43 : World) =>
 Nw 3 ⟨[(.int .i64 6), (.int .i64 5), (.int .i64 3), (.int .i64 1), (.int .i64 0), (.int .i64 4), (.int .i64 2)]⟩ w_43 fun (b46 : Nat) (w_45 : World) =>
 Cl Try.prog [kB] n_ref07_Ints ⟨[(.slice r44.base r44.len r44.cap), (.slice (⟨some ⟨b46, 0, none⟩, 7, 7⟩ : Sl).base (⟨some ⟨b46, 0, none⟩, 7, 7⟩ : Sl).len (⟨some ⟨b46, 0, none⟩, 7, 7⟩ : Sl).cap)]⟩ w_45 fun (r48 : Bool) (w_47 : World) =>
 IfB r48
 (Run Try.prog (convert 42 9 (.slice r6.base r6.len r6.cap)) kStr w_47 fun (s50 : ByteArray) (w_49 : World) =>
 IfB ((s50).toList == ((ByteArray.mk #[97, 110, 110, 98, 97, 97])).toList)
 (IfB ((r7 : Int) == (4 : Int))
 (Run Try.prog (convert 42 9 (.slice r13.base r13.len r13.cap)) kStr w_49 fun (s52 : ByteArray) (w_51 : World) =>
 IfB ((s52).toList == ((ByteArray.mk #[98, 97, 110, 97, 110, 97])).toList)
 (IfB ((r14 : Int) == (0 : Int))
 (IfB ((r21 : Int) == (170 : Int))
 (IfB ((r28 : Int) == (170 : Int))
 (IfB (((r30.len : Int) : Int) == (0 : Int))
 (IfB ((r31 : Int) == (0 : Int))
 (IfB (((r33.len : Int) : Int) == (0 : Int))
 (IfB ((r34 : Int) == (0 : Int))
 (IfB ((r36 : Int) == (1 : Int))
 (IfB ((r37 : Int) == (97 : Int))
 (IfB r38
 (IfB (!r42)
 (Cl Try.prog [kB] n_bwt_Less ⟨[(.slice s4.base s4.len s4.cap), (.int .i64 6), (.int .i64 5)]⟩ w_51 fun (r54 : Bool) (w_53 : World) =>
 IfB r54
 (Cl Try.prog [kB] n_bwt_Less ⟨[(.slice s4.base s4.len s4.cap), (.int .i64 5), (.int .i64 6)]⟩ w_53 fun (r56 : Bool) (w_55 : World) =>
 IfB (!r56)
 (Cl Try.prog [kB] n_bwt_Less ⟨[(.slice s4.base s4.len s4.cap), (.int .i64 7), (.int .i64 0)]⟩ w_55 fun (r58 : Bool) (w_57 : World) =>
 IfB (!r58)
 (Cl Try.prog [kB] n_bwt_Valid ⟨[(.slice r6.base r6.len r6.cap), (.int .i64 4)]⟩ w_57 fun (r60 : Bool) (w_59 : World) =>
 IfB r60
 (Cl Try.prog [kB] n_bwt_Valid ⟨[(.slice r6.base r6.len r6.cap), (.int .i64 7)]⟩ w_59 fun (r62 : Bool) (w_61 : World) =>
 R ((!r62)) w_61)
 (R (false) w_59))
 (R (false) w_57))
 (R (false) w_55))
 (R (false) w_53))
 (R (false) w_51))
 (R (false) w_51))
 (R (false) w_51))
 (R (false) w_51))
 (R (false) w_51))
 (R (false) w_51))
 (R (false) w_51))
 (R (false) w_51))
 (R (false) w_51))
 (R (false) w_51))
 (R (false) w_51))
 (R (false) w_51))
 (R (false) w_49))
 (R (false) w_49))
 (R (false) w_47)
set_option maxRecDepth 100000 in
theorem law17_wakes.ok  (R : Bool → World → Prop) (w : World) (h : law17_wakes.E  R w) : Cl Try.prog [kB] n_law17_wakes ⟨[]⟩ w R :=
  calls_of_eq Try.mix Try.f28 [] [kB] R 151 [.tmp 0] (by kernel_rfl) (by kernel_rfl) (by kernel_rfl) (by kernel_rfl) (by kernel_rfl)
    (.s .o (.s .o (.s .o (.s .o (.s .o (.s .o (.s .o (.s .o (.s .o (.s .o (.s .o .o)))))))))))
    (by kernel_rfl) h
end Go.Proofs.Ytbldlpljfppmgaa
