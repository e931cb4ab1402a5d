/-
  The formulas of the functions of this translation, printed by program: each is the verification condition of its function, and holds of no other. Conditions: none.
-/
import Derived.Test.YtajpnkioigcejaaRng
import Derived.Test.YtajpnkioigcejaaChecked
namespace Go.Proofs.Ytajpnkioigcejaa
open Go Go.Vc
abbrev n_law12_PrefixDecAny : Nat := 3
abbrev n_law12_PrefixDecQuick : Nat := 4
abbrev n_law11_PrefixEncMatches : Nat := 5
abbrev n_law11_PrefixEncBack : Nat := 6
abbrev n_law11_PrefixEncRead : Nat := 7
abbrev n_law11_PrefixEncParts : Nat := 8
abbrev n_prefixdec_New : Nat := 9
abbrev n_ref08_Table : Nat := 10
abbrev n_law12_wakes : Nat := 11
abbrev n_prefixdec_Step : Nat := 12
abbrev n_prefixdec_Valid : Nat := 13
abbrev n_prefixdec_Quick : Nat := 14
abbrev n_law11_wakes : Nat := 15
abbrev n_prefixenc_Spell : Nat := 16
abbrev n_ref11_Spell : Nat := 17
abbrev n_prefixenc_Size : Nat := 18
abbrev n_ref11_Size : Nat := 19
abbrev n_prefixenc_Read : Nat := 20
abbrev n_ref11_Read : Nat := 21
abbrev n_ref07_Ints : Nat := 22
abbrev n_bitwriter_New : Nat := 23
abbrev n_ref03_Bit : Nat := 24
abbrev n_bitwriter_Writer_Put : Nat := 25
abbrev n_prefixenc_Put : Nat := 26
abbrev n_ref11_Bits : Nat := 27
abbrev n_bitwriter_Writer_Len : Nat := 28
abbrev n_bitwriter_Writer_Bytes : Nat := 29
abbrev n_ref11_Bytes : Nat := 30
abbrev n_ref09_Valid : Nat := 31
abbrev n_kraft_Table : Nat := 32
abbrev n_ref08_Sum : Nat := 33
abbrev n_prefixdec_All : Nat := 34
abbrev n_law12_three : Nat := 35
abbrev n_ref02_Ints : Nat := 36
abbrev n_prefixdec_first : Nat := 37
abbrev n_prefixdec_of : Nat := 38
abbrev n_prefixdec_short : Nat := 39
abbrev n_canonical_Valid : Nat := 40
abbrev n_canonical_Codes : Nat := 41
abbrev n_canonical_Order : Nat := 42
abbrev n_ref09_Find : Nat := 43
abbrev n_bitwriter_fits : Nat := 44
abbrev n_bitwriter_down : Nat := 45
abbrev n_bitwriter_Writer_add : Nat := 46
abbrev n_ref09_Codes : Nat := 47
abbrev n_bytes_Clone : Nat := 48
abbrev n_ref07_Sum : Nat := 49
abbrev n_kraft_Complete : Nat := 50
abbrev n_ref08_Share : Nat := 51
abbrev n_kraft_Counts : Nat := 52
abbrev n_prefixdec_short_1 : Nat := 53
abbrev n_kraft_Fits : Nat := 54
abbrev n_slices_SortStableFunc_int_int : Nat := 55
abbrev n_canonical_Order_1 : Nat := 56
abbrev n_cmp_Compare_uint8 : Nat := 57
abbrev n_bitwriter_down_1 : Nat := 58
abbrev n_ref09_Order : Nat := 59
abbrev n_kraft_Sum : Nat := 60
abbrev n_slices_stableCmpFunc_int : Nat := 61
abbrev n_cmp_isNaN_uint8 : Nat := 62
abbrev n_kraft_share : Nat := 63
abbrev n_slices_insertionSortCmpFunc_int : Nat := 64
abbrev n_slices_symMergeCmpFunc_int : Nat := 65
abbrev n_slices_rotateCmpFunc_int : Nat := 66
abbrev n_slices_swapRangeCmpFunc_int : Nat := 67
theorem Try.mix : Try.prog.follows .mixedOrders = true := by kernel_rfl
/-- winepresslaw12.PrefixDecAny -/
def law12_PrefixDecAny.E (l1 : (Array Value)) (b2 : Sl) (R : Bool → World → Prop) (w : World) : Prop :=
 Nw 23 l1 w fun (b4 : Nat) (w_3 : World) =>
 Ld (.arr 258) (⟨b4, 0, none⟩ : Addr) w_3 fun (x5 : (Array Value)) =>
 Cl Try.prog [(.arr 260), kI] n_prefixdec_New ⟨[(.agg x5)]⟩ w_3 fun (r7 : (Array Value)) (r8 : Int) (w_6 : World) =>
 Nw 26 ⟨List.replicate 258 (.int .u8 0) ++ [(.int .i64 0), (.int .i64 0)]⟩ w_6 fun (b10 : Nat) (w_9 : World) =>
 StA 260 (⟨b10, 0, none⟩ : Addr) r7 w_9 fun (w_11 : World) =>
 Join (fun (w_20 : World) =>
 IfB ((r8 : Int) != (0 : Int))
 (R (false) w_20)
 (∃ (I_21 : Int → Int → World → Prop) (m_22 : Int → Int → World → Nat), I_21 (0) (0) w_20 ∧
 ∀ (since23 : Int) (i24 : Int), ∀ (w_25 : World), I_21 since23 i24 w_25 →
 IfB (decide ((i24 : Int) < ((b2.len : Int) : Int)))
 (Join (fun (since72 : Int) (w_73 : World) =>
 I_21 (since72) ((i64 ((i24 : Int) + (1 : Int)))) w_73 ∧ m_22 (since72) ((i64 ((i24 : Int) + (1 : Int)))) w_73 < m_22 since23 i24 w_25) fun (K_26 : Int → World → Prop) =>
 Held w_25 fun (S27 : World → Prop) (w_28 : World) =>
 LdS (.arr 260) (⟨b10, 0, none⟩ : Addr) S27 fun (x29 : (Array Value)) =>
 Idx b2 i24 1 fun (q30 : Addr) =>
 LdS kI q30 S27 fun (x31 : Int) =>
 (Cl Try.prog [(.arr 260), kI, kB] n_prefixdec_Step ⟨[(.agg x29), (.int .i64 (iand .i64 (x31 : Int) (1 : Int)))]⟩ w_28 fun (r33 : (Array Value)) (r34 : Int) (r35 : Bool) (w_32 : World) =>
 S27 w_32 ∧
 Nw 26 ⟨List.replicate 258 (.int .u8 0) ++ [(.int .i64 0), (.int .i64 0)]⟩ w_32 fun (b37 : Nat) (w_36 : World) =>
 S27 w_36 ∧
 StA 260 (⟨b37, 0, none⟩ : Addr) r33 w_36 fun (w_38 : World) =>
 S27 w_38 ∧
 Join (fun (w_47 : World) =>
 IfB r35
 (Ld (.arr 260) (⟨b37, 0, none⟩ : Addr) w_47 fun (x48 : (Array Value)) =>
 StA 260 (⟨b10, 0, none⟩ : Addr) x48 w_47 fun (w_49 : World) =>
 K_26 (0) w_49)
 (Ld (.arr 260) (⟨b37, 0, none⟩ : Addr) w_47 fun (x50 : (Array Value)) =>
 StA 260 (⟨b10, 0, none⟩ : Addr) x50 w_47 fun (w_51 : World) =>
 K_26 ((i64 ((since23 : Int) + (1 : Int)))) w_51)) fun (K_39 : World → Prop) =>
 IfB (decide (((i64 ((since23 : Int) + (1 : Int))) : Int) > (15 : Int)))
 (R (false) w_38)
 (Ld (.arr 260) (⟨b37, 0, none⟩ : Addr) w_38 fun (x40 : (Array Value)) =>
 Cl Try.prog [kB] n_prefixdec_Valid ⟨[(.agg x40)]⟩ w_38 fun (r42 : Bool) (w_41 : World) =>
 IfB (!r42)
 (R (false) w_41)
 (IfB r35
 (IfB (decide ((r34 : Int) < (0 : Int)))
 (R (false) w_41)
 (IfB (decide ((r34 : Int) ≥ (258 : Int)))
 (R (false) w_41)
 (IdxP (⟨b4, 0, none⟩ : Addr) 258 r34 1 fun (q43 : Addr) =>
 Ld (kInt .u8) q43 w_41 fun (x44 : Int) =>
 IfB (((i64 x44) : Int) != ((i64 ((since23 : Int) + (1 : Int))) : Int))
 (R (false) w_41)
 (IfB (!r35)
 (Ld kI ((⟨b37, 0, none⟩ : Addr).add 259) w_41 fun (Bits45 : Int) =>
 IfB ((Bits45 : Int) != ((i64 ((since23 : Int) + (1 : Int))) : Int))
 (R (false) w_41)
 (K_39  w_41))
 (K_39  w_41)))))
 (IfB (!r35)
 (Ld kI ((⟨b37, 0, none⟩ : Addr).add 259) w_41 fun (Bits46 : Int) =>
 IfB ((Bits46 : Int) != ((i64 ((since23 : Int) + (1 : Int))) : Int))
 (R (false) w_41)
 (K_39  w_41))
 (K_39  w_41))))) ∧
 (Nw 26 ⟨List.replicate 258 (.int .u8 0) ++ [(.int .i64 0), (.int .i64 0)]⟩ w_28 fun (b53 : Nat) (w_52 : World) =>
 S27 w_52 ∧
 Cl Try.prog [(.arr 260), kI, kB] n_prefixdec_Step ⟨[(.agg x29), (.int .i64 (iand .i64 (x31 : Int) (1 : Int)))]⟩ w_52 fun (r55 : (Array Value)) (r56 : Int) (r57 : Bool) (w_54 : World) =>
 S27 w_54 ∧
 StA 260 (⟨b53, 0, none⟩ : Addr) r55 w_54 fun (w_58 : World) =>
 S27 w_58 ∧
 Join (fun (w_67 : World) =>
 IfB r57
 (Ld (.arr 260) (⟨b53, 0, none⟩ : Addr) w_67 fun (x68 : (Array Value)) =>
 StA 260 (⟨b10, 0, none⟩ : Addr) x68 w_67 fun (w_69 : World) =>
 K_26 (0) w_69)
 (Ld (.arr 260) (⟨b53, 0, none⟩ : Addr) w_67 fun (x70 : (Array Value)) =>
 StA 260 (⟨b10, 0, none⟩ : Addr) x70 w_67 fun (w_71 : World) =>
 K_26 ((i64 ((since23 : Int) + (1 : Int)))) w_71)) fun (K_59 : World → Prop) =>
 IfB (decide (((i64 ((since23 : Int) + (1 : Int))) : Int) > (15 : Int)))
 (R (false) w_58)
 (Ld (.arr 260) (⟨b53, 0, none⟩ : Addr) w_58 fun (x60 : (Array Value)) =>
 Cl Try.prog [kB] n_prefixdec_Valid ⟨[(.agg x60)]⟩ w_58 fun (r62 : Bool) (w_61 : World) =>
 IfB (!r62)
 (R (false) w_61)
 (IfB r57
 (IfB (decide ((r56 : Int) < (0 : Int)))
 (R (false) w_61)
 (IfB (decide ((r56 : Int) ≥ (258 : Int)))
 (R (false) w_61)
 (IdxP (⟨b4, 0, none⟩ : Addr) 258 r56 1 fun (q63 : Addr) =>
 Ld (kInt .u8) q63 w_61 fun (x64 : Int) =>
 IfB (((i64 x64) : Int) != ((i64 ((since23 : Int) + (1 : Int))) : Int))
 (R (false) w_61)
 (IfB (!r57)
 (Ld kI ((⟨b53, 0, none⟩ : Addr).add 259) w_61 fun (Bits65 : Int) =>
 IfB ((Bits65 : Int) != ((i64 ((since23 : Int) + (1 : Int))) : Int))
 (R (false) w_61)
 (K_59  w_61))
 (K_59  w_61)))))
 (IfB (!r57)
 (Ld kI ((⟨b53, 0, none⟩ : Addr).add 259) w_61 fun (Bits66 : Int) =>
 IfB ((Bits66 : Int) != ((i64 ((since23 : Int) + (1 : Int))) : Int))
 (R (false) w_61)
 (K_59  w_61))
 (K_59  w_61))))))
 (Cl Try.prog [kB] n_law12_wakes ⟨[]⟩ w_25 fun (r75 : Bool) (w_74 : World) =>
 R (r75) w_74))) fun (K_12 : World → Prop) =>
 IfB (decide (((b2.len : Int) : Int) > (300 : Int)))
 (Cl Try.prog [kB] n_law12_wakes ⟨[]⟩ w_11 fun (r14 : Bool) (w_13 : World) =>
 R (r14) w_13)
 (Ld (.arr 258) (⟨b4, 0, none⟩ : Addr) w_11 fun (x15 : (Array Value)) =>
 Cl Try.prog [kB] n_ref08_Table ⟨[(.agg x15)]⟩ w_11 fun (r17 : Bool) (w_16 : World) =>
 IfB (!r17)
 (Cl Try.prog [kB] n_law12_wakes ⟨[]⟩ w_16 fun (r19 : Bool) (w_18 : World) =>
 R (r19) w_18)
 (K_12  w_16))
theorem law12_PrefixDecAny.ok (l1 : (Array Value)) (b2 : Sl) (R : Bool → World → Prop) (w : World) (h : law12_PrefixDecAny.E l1 b2 R w) : Cl Try.prog [kB] n_law12_PrefixDecAny ⟨[(.agg l1), (.slice b2.base b2.len b2.cap)]⟩ w R :=
  calls_of_eq Try.mix Try.f3 [(.agg l1), (.slice b2.base b2.len b2.cap)] [kB] R 86 [.tmp 4] (by kernel_rfl) (by kernel_rfl) (by kernel_rfl) (by kernel_rfl) (by kernel_rfl)
    (.s .o (.s .o (.j [] (.s .o (.c (.s .o .o) .o)) (.s (.s .o (.c (.s .o .o) .o)) (.s .o (.s (.s .o (.b (.l [(7, kI), (8, kI)] (.s (.s .o (.c .o .o)) (.j [(7, kI)] (.b (.s .o (.s .o (.j [] (.s .o (.c (.s .o .o) .o)) (.s (.s .o (.c .o .o)) .o))))) .o))))) (.s .o .o)))))))
    (by kernel_rfl) h
/-- winepresslaw12.PrefixDecQuick -/
def law12_PrefixDecQuick.E (l1 : (Array Value)) (nine2 : Int) (R : Bool → World → Prop) (w : World) : Prop :=
 Nw 23 l1 w fun (b4 : Nat) (w_3 : World) =>
 Ld (.arr 258) (⟨b4, 0, none⟩ : Addr) w_3 fun (x5 : (Array Value)) =>
 Cl Try.prog [kB] n_ref08_Table ⟨[(.agg x5)]⟩ w_3 fun (r7 : Bool) (w_6 : World) =>
 IfB (!r7)
 (Cl Try.prog [kB] n_law12_wakes ⟨[]⟩ w_6 fun (r9 : Bool) (w_8 : World) =>
 R (r9) w_8)
 (Ld (.arr 258) (⟨b4, 0, none⟩ : Addr) w_6 fun (x10 : (Array Value)) =>
 Cl Try.prog [(.arr 1024), kI] n_prefixdec_Quick ⟨[(.agg x10)]⟩ w_6 fun (r12 : (Array Value)) (r13 : Int) (w_11 : World) =>
 Nw 39 ⟨List.replicate 1024 (.int .i64 0)⟩ w_11 fun (b15 : Nat) (w_14 : World) =>
 StA 1024 (⟨b15, 0, none⟩ : Addr) r12 w_14 fun (w_16 : World) =>
 Ld (.arr 258) (⟨b4, 0, none⟩ : Addr) w_16 fun (x17 : (Array Value)) =>
 Cl Try.prog [(.arr 260), kI] n_prefixdec_New ⟨[(.agg x17)]⟩ w_16 fun (r19 : (Array Value)) (r20 : Int) (w_18 : World) =>
 Nw 26 ⟨List.replicate 258 (.int .u8 0) ++ [(.int .i64 0), (.int .i64 0)]⟩ w_18 fun (b22 : Nat) (w_21 : World) =>
 StA 260 (⟨b22, 0, none⟩ : Addr) r19 w_21 fun (w_23 : World) =>
 (512 : Int) ≠ 0 ∧
 IdxP (⟨b15, 0, none⟩ : Addr) 512 (Int.tmod (nine2 : Int) (512 : Int)) 2 fun (q24 : Addr) =>
 Ld (.st [.int .i64, .int .i64]) q24 w_23 fun (x25 : (TT [.int .i64, .int .i64])) =>
 Nw 38 ⟨[(.int .i64 0), (.int .i64 0)]⟩ w_23 fun (b27 : Nat) (w_26 : World) =>
 StC (⟨b27, 0, none⟩ : Addr) [(.int .i64 x25.1), (.int .i64 x25.2.1)] 0 w_26 fun (w_28 : World) =>
 Join (fun (w_30 : World) =>
 ∃ (I_31 : Int → World → Prop) (m_32 : Int → World → Nat), I_31 (0) w_30 ∧
 ∀ (i33 : Int), ∀ (w_34 : World), I_31 i33 w_34 →
 IfB (decide ((i33 : Int) < (9 : Int)))
 (Ld (.arr 260) (⟨b22, 0, none⟩ : Addr) w_34 fun (x35 : (Array Value)) =>
 (512 : Int) ≠ 0 ∧
 0 ≤ ((u64 (i64 ((8 : Int) - (i33 : Int)))) : Int) ∧
 Cl Try.prog [(.arr 260), kI, kB] n_prefixdec_Step ⟨[(.agg x35), (.int .i64 (iand .i64 ((ishr .i64 ((i64 (Int.tmod (nine2 : Int) (512 : Int))) : Int) ((u64 (i64 ((8 : Int) - (i33 : Int)))) : Int)) : Int) (1 : Int)))]⟩ w_34 fun (r37 : (Array Value)) (r38 : Int) (r39 : Bool) (w_36 : World) =>
 Nw 26 ⟨List.replicate 258 (.int .u8 0) ++ [(.int .i64 0), (.int .i64 0)]⟩ w_36 fun (b41 : Nat) (w_40 : World) =>
 StA 260 (⟨b41, 0, none⟩ : Addr) r37 w_40 fun (w_42 : World) =>
 IfB r39
 (Ld (.st [.int .i64, .int .i64]) (⟨b27, 0, none⟩ : Addr) w_42 fun (x43 : (TT [.int .i64, .int .i64])) =>
 IfB (((x43.1 : Int) == (r38 : Int)) && ((x43.2.1 : Int) == ((i64 ((i33 : Int) + (1 : Int))) : Int)))
 (Cl Try.prog [kB] n_law12_wakes ⟨[]⟩ w_42 fun (r45 : Bool) (w_44 : World) =>
 R (r45) w_44)
 (R (false) w_42))
 (Ld (.arr 260) (⟨b41, 0, none⟩ : Addr) w_42 fun (x46 : (Array Value)) =>
 StA 260 (⟨b22, 0, none⟩ : Addr) x46 w_42 fun (w_47 : World) =>
 I_31 ((i64 ((i33 : Int) + (1 : Int)))) w_47 ∧ m_32 ((i64 ((i33 : Int) + (1 : Int)))) w_47 < m_32 i33 w_34))
 (Ld (.st [.int .i64, .int .i64]) (⟨b27, 0, none⟩ : Addr) w_34 fun (x48 : (TT [.int .i64, .int .i64])) =>
 IfB (((x48.1 : Int) == (0 : Int)) && ((x48.2.1 : Int) == (0 : Int)))
 (Cl Try.prog [kB] n_law12_wakes ⟨[]⟩ w_34 fun (r50 : Bool) (w_49 : World) =>
 R (r50) w_49)
 (R (false) w_34))) fun (K_29 : World → Prop) =>
 IfB ((r13 : Int) != (0 : Int))
 (R (false) w_28)
 (IfB ((r20 : Int) != (0 : Int))
 (R (false) w_28)
 (K_29  w_28)))
theorem law12_PrefixDecQuick.ok (l1 : (Array Value)) (nine2 : Int) (R : Bool → World → Prop) (w : World) (h : law12_PrefixDecQuick.E l1 nine2 R w) : Cl Try.prog [kB] n_law12_PrefixDecQuick ⟨[(.agg l1), (.int .u16 nine2)]⟩ w R :=
  calls_of_eq Try.mix Try.f4 [(.agg l1), (.int .u16 nine2)] [kB] R 73 [.tmp 4] (by kernel_rfl) (by kernel_rfl) (by kernel_rfl) (by kernel_rfl) (by kernel_rfl)
    (.s .o (.s (.s .o (.c (.s .o .o) .o)) (.s .o (.s .o (.s .o (.j [] (.s .o (.c (.s .o .o) .o)) (.s (.s .o (.b (.l [(10, kI)] (.s (.s .o (.c .o .o)) (.s (.b (.s .o (.s (.s .o (.c (.s .o .o) .o)) .o))) .o))))) (.s .o .o))))))))
    (by kernel_rfl) h
/-- winepresslaw11.PrefixEncMatches -/
def law11_PrefixEncMatches.E (l1 : (Array Value)) (symbols2 : Sl) (b3 : Sl) (many4 : Int) (ahead5 : Sl) (first_6 : Int) (R : Bool → World → Prop) (w : World) : Prop :=
 Nw 23 l1 w fun (b8 : Nat) (w_7 : World) =>
 Join (fun (w_20 : World) =>
 Ld (.arr 258) (⟨b8, 0, none⟩ : Addr) w_20 fun (x21 : (Array Value)) =>
 Cl Try.prog [kS, kI, kI] n_prefixenc_Spell ⟨[(.agg x21), (.slice symbols2.base symbols2.len symbols2.cap)]⟩ w_20 fun (r23 : Sl) (r24 : Int) (r25 : Int) (w_22 : World) =>
 Ld (.arr 258) (⟨b8, 0, none⟩ : Addr) w_22 fun (x26 : (Array Value)) =>
 Cl Try.prog [kS, kI, kI] n_ref11_Spell ⟨[(.agg x26), (.slice symbols2.base symbols2.len symbols2.cap)]⟩ w_22 fun (r28 : Sl) (r29 : Int) (r30 : Int) (w_27 : World) =>
 Ld (.arr 258) (⟨b8, 0, none⟩ : Addr) w_27 fun (x31 : (Array Value)) =>
 Cl Try.prog [kI, kI] n_prefixenc_Size ⟨[(.agg x31), (.slice symbols2.base symbols2.len symbols2.cap)]⟩ w_27 fun (r33 : Int) (r34 : Int) (w_32 : World) =>
 Ld (.arr 258) (⟨b8, 0, none⟩ : Addr) w_32 fun (x35 : (Array Value)) =>
 Cl Try.prog [kI, kI] n_ref11_Size ⟨[(.agg x35), (.slice symbols2.base symbols2.len symbols2.cap)]⟩ w_32 fun (r37 : Int) (r38 : Int) (w_36 : World) =>
 Ld (.arr 258) (⟨b8, 0, none⟩ : Addr) w_36 fun (x39 : (Array Value)) =>
 Cl Try.prog [kS, kI] n_prefixenc_Read ⟨[(.agg x39), (.slice b3.base b3.len b3.cap), (.int .i64 many4)]⟩ w_36 fun (r41 : Sl) (r42 : Int) (w_40 : World) =>
 Ld (.arr 258) (⟨b8, 0, none⟩ : Addr) w_40 fun (x43 : (Array Value)) =>
 Cl Try.prog [kS, kI] n_ref11_Read ⟨[(.agg x43), (.slice b3.base b3.len b3.cap), (.int .i64 many4)]⟩ w_40 fun (r45 : Sl) (r46 : Int) (w_44 : World) =>
 Join (fun (w_54 : World) =>
 Cl Try.prog [kP] n_bitwriter_New ⟨[]⟩ w_54 fun (r56 : (Option Addr)) (w_55 : World) =>
 IfB (Option.isNone (r56 : Option Addr))
 (R (false) w_55)
 (∃ (I_57 : Sl → Int → World → Prop) (m_58 : Sl → Int → World → Nat), I_57 ((⟨none, 0, 0⟩ : Sl)) (0) w_55 ∧
 ∀ (all_59 : Sl) (k60 : Int), ∀ (w_61 : World), I_57 all_59 k60 w_61 →
 IfB (decide ((k60 : Int) < (first_6 : Int)))
 (Cl Try.prog [kI] n_ref03_Bit ⟨[(.slice ahead5.base ahead5.len ahead5.cap), (.int .i64 k60)]⟩ w_61 fun (r63 : Int) (w_62 : World) =>
 Cl Try.prog [kB] n_bitwriter_Writer_Put ⟨[(.pointer r56), (.int .u32 (u32 r63)), (.int .i64 1)]⟩ w_62 fun (r65 : Bool) (w_64 : World) =>
 Nw 3 ⟨[(.int .i64 r63)]⟩ w_64 fun (b67 : Nat) (w_66 : World) =>
 Run Try.prog (Builtin.append_ #[24, 24] 24 ⟨[(.slice all_59.base all_59.len all_59.cap), (.slice (⟨some ⟨b67, 0, none⟩, 1, 1⟩ : Sl).base (⟨some ⟨b67, 0, none⟩, 1, 1⟩ : Sl).len (⟨some ⟨b67, 0, none⟩, 1, 1⟩ : Sl).cap)]⟩) kS w_66 fun (s69 : Sl) (w_68 : World) =>
 I_57 (s69) ((i64 ((k60 : Int) + (1 : Int)))) w_68 ∧ m_58 (s69) ((i64 ((k60 : Int) + (1 : Int)))) w_68 < m_58 all_59 k60 w_61)
 (Ld (.arr 258) (⟨b8, 0, none⟩ : Addr) w_61 fun (x70 : (Array Value)) =>
 Cl Try.prog [kI] n_prefixenc_Put ⟨[(.pointer r56), (.agg x70), (.slice symbols2.base symbols2.len symbols2.cap)]⟩ w_61 fun (r72 : Int) (w_71 : World) =>
 Ld (.arr 258) (⟨b8, 0, none⟩ : Addr) w_71 fun (x73 : (Array Value)) =>
 Cl Try.prog [kS, kB] n_ref11_Bits ⟨[(.agg x73), (.slice symbols2.base symbols2.len symbols2.cap)]⟩ w_71 fun (r75 : Sl) (r76 : Bool) (w_74 : World) =>
 Run Try.prog (Builtin.append_ #[24, 24] 24 ⟨[(.slice all_59.base all_59.len all_59.cap), (.slice r75.base r75.len r75.cap)]⟩) kS w_74 fun (s78 : Sl) (w_77 : World) =>
 Held w_77 fun (S79 : World → Prop) (w_80 : World) =>
 IfB ((r72 : Int) == (r25 : Int))
 (Cl Try.prog [kI] n_bitwriter_Writer_Len ⟨[(.pointer r56)]⟩ w_80 fun (r82 : Int) (w_81 : World) =>
 S79 w_81 ∧
 IfB ((r82 : Int) == ((s78.len : Int) : Int))
 (Cl Try.prog [kS] n_bitwriter_Writer_Bytes ⟨[(.pointer r56)]⟩ w_81 fun (r84 : Sl) (w_83 : World) =>
 S79 w_83 ∧
 (Run Try.prog (convert 44 9 (.slice r84.base r84.len r84.cap)) kStr w_83 fun (s86 : ByteArray) (w_85 : World) =>
 S79 w_85 ∧
 Cl Try.prog [kS] n_ref11_Bytes ⟨[(.slice s78.base s78.len s78.cap)]⟩ w_85 fun (r88 : Sl) (w_87 : World) =>
 S79 w_87 ∧
 Run Try.prog (convert 44 9 (.slice r88.base r88.len r88.cap)) kStr w_87 fun (s90 : ByteArray) (w_89 : World) =>
 S79 w_89 ∧
 IfB ((s86).toList == (s90).toList)
 (Cl Try.prog [kB] n_law11_wakes ⟨[]⟩ w_89 fun (r92 : Bool) (w_91 : World) =>
 S79 w_91 ∧
 R (r92) w_91)
 (R (false) w_89)) ∧
 (Cl Try.prog [kS] n_ref11_Bytes ⟨[(.slice s78.base s78.len s78.cap)]⟩ w_83 fun (r94 : Sl) (w_93 : World) =>
 S79 w_93 ∧
 (Run Try.prog (convert 44 9 (.slice r84.base r84.len r84.cap)) kStr w_93 fun (s96 : ByteArray) (w_95 : World) =>
 S79 w_95 ∧
 Run Try.prog (convert 44 9 (.slice r94.base r94.len r94.cap)) kStr w_95 fun (s98 : ByteArray) (w_97 : World) =>
 S79 w_97 ∧
 IfB ((s96).toList == (s98).toList)
 (Cl Try.prog [kB] n_law11_wakes ⟨[]⟩ w_97 fun (r100 : Bool) (w_99 : World) =>
 S79 w_99 ∧
 R (r100) w_99)
 (R (false) w_97)) ∧
 (Run Try.prog (convert 44 9 (.slice r94.base r94.len r94.cap)) kStr w_93 fun (s102 : ByteArray) (w_101 : World) =>
 S79 w_101 ∧
 Run Try.prog (convert 44 9 (.slice r84.base r84.len r84.cap)) kStr w_101 fun (s104 : ByteArray) (w_103 : World) =>
 S79 w_103 ∧
 IfB ((s104).toList == (s102).toList)
 (Cl Try.prog [kB] n_law11_wakes ⟨[]⟩ w_103 fun (r106 : Bool) (w_105 : World) =>
 S79 w_105 ∧
 R (r106) w_105)
 (R (false) w_103))))
 ((R (false) w_81) ∧
 ((R (false) w_81) ∧
 (R (false) w_81))))
 ((R (false) w_80) ∧
 ((R (false) w_80) ∧
 (R (false) w_80)))))) fun (K_47 : World → Prop) =>
 Run Try.prog (convert 44 9 (.slice r23.base r23.len r23.cap)) kStr w_44 fun (s49 : ByteArray) (w_48 : World) =>
 Run Try.prog (convert 44 9 (.slice r28.base r28.len r28.cap)) kStr w_48 fun (s51 : ByteArray) (w_50 : World) =>
 IfB (!((s49).toList == (s51).toList))
 (R (false) w_50)
 (IfB ((r24 : Int) != (r29 : Int))
 (R (false) w_50)
 (IfB ((r25 : Int) != (r30 : Int))
 (R (false) w_50)
 (IfB ((r33 : Int) != (r37 : Int))
 (R (false) w_50)
 (IfB ((r34 : Int) != (r38 : Int))
 (R (false) w_50)
 (Cl Try.prog [kB] n_ref07_Ints ⟨[(.slice r41.base r41.len r41.cap), (.slice r45.base r45.len r45.cap)]⟩ w_50 fun (r53 : Bool) (w_52 : World) =>
 IfB (!r53)
 (R (false) w_52)
 (IfB ((r42 : Int) != (r46 : Int))
 (R (false) w_52)
 (K_47  w_52)))))))) fun (K_9 : World → Prop) =>
 IfB (decide (((symbols2.len : Int) : Int) > (100 : Int)))
 (Cl Try.prog [kB] n_law11_wakes ⟨[]⟩ w_7 fun (r11 : Bool) (w_10 : World) =>
 R (r11) w_10)
 (IfB (decide (((b3.len : Int) : Int) > (100 : Int)))
 (Cl Try.prog [kB] n_law11_wakes ⟨[]⟩ w_7 fun (r13 : Bool) (w_12 : World) =>
 R (r13) w_12)
 (IfB (decide (((ahead5.len : Int) : Int) > (20 : Int)))
 (Cl Try.prog [kB] n_law11_wakes ⟨[]⟩ w_7 fun (r15 : Bool) (w_14 : World) =>
 R (r15) w_14)
 (IfB (decide ((first_6 : Int) < (0 : Int)))
 (Cl Try.prog [kB] n_law11_wakes ⟨[]⟩ w_7 fun (r17 : Bool) (w_16 : World) =>
 R (r17) w_16)
 (IfB (decide ((first_6 : Int) > ((i64 ((8 : Int) * ((ahead5.len : Int) : Int))) : Int)))
 (Cl Try.prog [kB] n_law11_wakes ⟨[]⟩ w_7 fun (r19 : Bool) (w_18 : World) =>
 R (r19) w_18)
 (K_9  w_7)))))
theorem law11_PrefixEncMatches.ok (l1 : (Array Value)) (symbols2 : Sl) (b3 : Sl) (many4 : Int) (ahead5 : Sl) (first_6 : Int) (R : Bool → World → Prop) (w : World) (h : law11_PrefixEncMatches.E l1 symbols2 b3 many4 ahead5 first_6 R w) : Cl Try.prog [kB] n_law11_PrefixEncMatches ⟨[(.agg l1), (.slice symbols2.base symbols2.len symbols2.cap), (.slice b3.base b3.len b3.cap), (.int .i64 many4), (.slice ahead5.base ahead5.len ahead5.cap), (.int .i64 first_6)]⟩ w R :=
  calls_of_eq Try.mix Try.f5 [(.agg l1), (.slice symbols2.base symbols2.len symbols2.cap), (.slice b3.base b3.len b3.cap), (.int .i64 many4), (.slice ahead5.base ahead5.len ahead5.cap), (.int .i64 first_6)] [kB] R 189 [.tmp 12] (by kernel_rfl) (by kernel_rfl) (by kernel_rfl) (by kernel_rfl) (by kernel_rfl)
    (.s .o (.j [] (.s .o (.c (.s .o .o) .o)) (.s .o (.s .o (.s .o (.s .o (.s .o (.s .o (.j [] (.s .o (.c (.s .o .o) .o)) (.s .o (.s (.s .o (.c (.s .o .o) .o)) (.s .o (.s (.s .o (.b (.l [(28, kS), (29, kI)] (.s (.s .o (.c .o .o)) (.s (.b (.s .o (.s .o .o))) .o))))) (.s .o (.s .o (.s .o (.s .o .o)))))))))))))))))
    (by kernel_rfl) h
/-- winepresslaw11.PrefixEncBack -/
def law11_PrefixEncBack.E (l1 : (Array Value)) (symbols2 : Sl) (R : Bool → World → Prop) (w : World) : Prop :=
 Nw 23 l1 w fun (b4 : Nat) (w_3 : World) =>
 IfB (decide (((symbols2.len : Int) : Int) > (100 : Int)))
 (Cl Try.prog [kB] n_law11_wakes ⟨[]⟩ w_3 fun (r6 : Bool) (w_5 : World) =>
 R (r6) w_5)
 (Ld (.arr 258) (⟨b4, 0, none⟩ : Addr) w_3 fun (x7 : (Array Value)) =>
 Cl Try.prog [kS, kI, kI] n_prefixenc_Spell ⟨[(.agg x7), (.slice symbols2.base symbols2.len symbols2.cap)]⟩ w_3 fun (r9 : Sl) (r10 : Int) (r11 : Int) (w_8 : World) =>
 IfB ((r11 : Int) != (0 : Int))
 (IfB ((r11 : Int) == (2 : Int))
 (IfB (((r9.len : Int) : Int) == (0 : Int))
 (IfB ((r10 : Int) == (0 : Int))
 (Cl Try.prog [kB] n_law11_wakes ⟨[]⟩ w_8 fun (r13 : Bool) (w_12 : World) =>
 R (r13) w_12)
 (R (false) w_8))
 (R (false) w_8))
 (R (false) w_8))
 (Ld (.arr 258) (⟨b4, 0, none⟩ : Addr) w_8 fun (x14 : (Array Value)) =>
 Cl Try.prog [kS, kI] n_prefixenc_Read ⟨[(.agg x14), (.slice r9.base r9.len r9.cap), (.int .i64 r10)]⟩ w_8 fun (r16 : Sl) (r17 : Int) (w_15 : World) =>
 Join (fun (w_21 : World) =>
 IfB ((r10 : Int) == (0 : Int))
 (IfB (((symbols2.len : Int) : Int) == (0 : Int))
 (Cl Try.prog [kB] n_law11_wakes ⟨[]⟩ w_21 fun (r23 : Bool) (w_22 : World) =>
 R (r23) w_22)
 (R (false) w_21))
 (Ld (.arr 258) (⟨b4, 0, none⟩ : Addr) w_21 fun (x24 : (Array Value)) =>
 Cl Try.prog [kS, kI] n_prefixenc_Read ⟨[(.agg x24), (.slice r9.base r9.len r9.cap), (.int .i64 (i64 ((r10 : Int) - (1 : Int))))]⟩ w_21 fun (r26 : Sl) (r27 : Int) (w_25 : World) =>
 IfB ((r27 : Int) != (0 : Int))
 (Cl Try.prog [kB] n_law11_wakes ⟨[]⟩ w_25 fun (r29 : Bool) (w_28 : World) =>
 R (r29) w_28)
 (Cl Try.prog [kB] n_ref07_Ints ⟨[(.slice r26.base r26.len r26.cap), (.slice symbols2.base symbols2.len symbols2.cap)]⟩ w_25 fun (r31 : Bool) (w_30 : World) =>
 IfB (!r31)
 (Cl Try.prog [kB] n_law11_wakes ⟨[]⟩ w_30 fun (r33 : Bool) (w_32 : World) =>
 R (r33) w_32)
 (R (false) w_30)))) fun (K_18 : World → Prop) =>
 IfB ((r17 : Int) != (0 : Int))
 (R (false) w_15)
 (Cl Try.prog [kB] n_ref07_Ints ⟨[(.slice r16.base r16.len r16.cap), (.slice symbols2.base symbols2.len symbols2.cap)]⟩ w_15 fun (r20 : Bool) (w_19 : World) =>
 IfB (!r20)
 (R (false) w_19)
 ((8 : Int) ≠ 0 ∧
 IfB (((r9.len : Int) : Int) != ((i64 (Int.tdiv ((i64 ((r10 : Int) + (7 : Int))) : Int) (8 : Int))) : Int))
 (R (false) w_19)
 (K_18  w_19)))))
theorem law11_PrefixEncBack.ok (l1 : (Array Value)) (symbols2 : Sl) (R : Bool → World → Prop) (w : World) (h : law11_PrefixEncBack.E l1 symbols2 R w) : Cl Try.prog [kB] n_law11_PrefixEncBack ⟨[(.agg l1), (.slice symbols2.base symbols2.len symbols2.cap)]⟩ w R :=
  calls_of_eq Try.mix Try.f6 [(.agg l1), (.slice symbols2.base symbols2.len symbols2.cap)] [kB] R 89 [.tmp 4] (by kernel_rfl) (by kernel_rfl) (by kernel_rfl) (by kernel_rfl) (by kernel_rfl)
    (.s .o (.s (.s .o (.c (.s .o .o) .o)) (.s .o (.s (.s .o (.c (.s .o .o) .o)) (.s .o (.j [] (.s .o (.c (.s .o .o) .o)) (.s (.s .o (.c (.s .o .o) .o)) (.s .o (.s .o .o)))))))))
    (by kernel_rfl) h
/-- winepresslaw11.PrefixEncRead -/
def law11_PrefixEncRead.E (l1 : (Array Value)) (b2 : Sl) (many3 : Int) (part4 : Int) (R : Bool → World → Prop) (w : World) : Prop :=
 Nw 23 l1 w fun (b6 : Nat) (w_5 : World) =>
 IfB (decide (((b2.len : Int) : Int) > (100 : Int)))
 (Cl Try.prog [kB] n_law11_wakes ⟨[]⟩ w_5 fun (r8 : Bool) (w_7 : World) =>
 R (r8) w_7)
 (Ld (.arr 258) (⟨b6, 0, none⟩ : Addr) w_5 fun (x9 : (Array Value)) =>
 Cl Try.prog [kS, kI] n_prefixenc_Read ⟨[(.agg x9), (.slice b2.base b2.len b2.cap), (.int .i64 many3)]⟩ w_5 fun (r11 : Sl) (r12 : Int) (w_10 : World) =>
 IfB ((r12 : Int) != (0 : Int))
 (IfB ((r12 : Int) == (2 : Int))
 (IfB (((r11.len : Int) : Int) == (0 : Int))
 (Cl Try.prog [kB] n_law11_wakes ⟨[]⟩ w_10 fun (r14 : Bool) (w_13 : World) =>
 R (r14) w_13)
 (R (false) w_10))
 (R (false) w_10))
 (Ld (.arr 258) (⟨b6, 0, none⟩ : Addr) w_10 fun (x15 : (Array Value)) =>
 Cl Try.prog [kS, kI, kI] n_prefixenc_Spell ⟨[(.agg x15), (.slice r11.base r11.len r11.cap)]⟩ w_10 fun (r17 : Sl) (r18 : Int) (r19 : Int) (w_16 : World) =>
 Join (fun (w_21 : World) =>
 ∃ (I_22 : Int → World → Prop) (m_23 : Int → World → Nat), I_22 (0) w_21 ∧
 ∀ (i24 : Int), ∀ (w_25 : World), I_22 i24 w_25 →
 IfB (decide ((i24 : Int) < (many3 : Int)))
 (Cl Try.prog [kI] n_ref03_Bit ⟨[(.slice b2.base b2.len b2.cap), (.int .i64 i24)]⟩ w_25 fun (r27 : Int) (w_26 : World) =>
 Cl Try.prog [kI] n_ref03_Bit ⟨[(.slice r17.base r17.len r17.cap), (.int .i64 i24)]⟩ w_26 fun (r29 : Int) (w_28 : World) =>
 IfB ((r27 : Int) != (r29 : Int))
 (R (false) w_28)
 (I_22 ((i64 ((i24 : Int) + (1 : Int)))) w_28 ∧ m_23 ((i64 ((i24 : Int) + (1 : Int)))) w_28 < m_23 i24 w_25))
 (Drw w_25 fun (w_30 : World) =>
 Ld (.arr 258) (⟨b6, 0, none⟩ : Addr) w_30 fun (x31 : (Array Value)) =>
 Slc r11 0 (if ((r11.len : Int) : Int) < ((if (0 : Int) > (part4 : Int) then (0 : Int) else (part4 : Int)) : Int) then ((r11.len : Int) : Int) else ((if (0 : Int) > (part4 : Int) then (0 : Int) else (part4 : Int)) : Int)) (r11).cap 1 fun (s32 : Sl) =>
 Cl Try.prog [kI, kI] n_prefixenc_Size ⟨[(.agg x31), (.slice s32.base s32.len s32.cap)]⟩ w_30 fun (r34 : Int) (r35 : Int) (w_33 : World) =>
 Ld (.arr 258) (⟨b6, 0, none⟩ : Addr) w_33 fun (x36 : (Array Value)) =>
 Cl Try.prog [kS, kI] n_prefixenc_Read ⟨[(.agg x36), (.slice b2.base b2.len b2.cap), (.int .i64 r34)]⟩ w_33 fun (r38 : Sl) (r39 : Int) (w_37 : World) =>
 IfB ((r35 : Int) == (0 : Int))
 (IfB ((r39 : Int) == (0 : Int))
 (Slc r11 0 (if ((r11.len : Int) : Int) < ((if (0 : Int) > (part4 : Int) then (0 : Int) else (part4 : Int)) : Int) then ((r11.len : Int) : Int) else ((if (0 : Int) > (part4 : Int) then (0 : Int) else (part4 : Int)) : Int)) (r11).cap 1 fun (s40 : Sl) =>
 Cl Try.prog [kB] n_ref07_Ints ⟨[(.slice r38.base r38.len r38.cap), (.slice s40.base s40.len s40.cap)]⟩ w_37 fun (r42 : Bool) (w_41 : World) =>
 IfB r42
 (Cl Try.prog [kB] n_law11_wakes ⟨[]⟩ w_41 fun (r44 : Bool) (w_43 : World) =>
 R (r44) w_43)
 (R (false) w_41))
 (R (false) w_37))
 (R (false) w_37))) fun (K_20 : World → Prop) =>
 IfB ((r19 : Int) != (0 : Int))
 (R (false) w_16)
 (IfB ((r18 : Int) != (many3 : Int))
 (R (false) w_16)
 (IfB (decide ((many3 : Int) < (0 : Int)))
 (R (false) w_16)
 (IfB (decide ((many3 : Int) > ((i64 ((8 : Int) * ((b2.len : Int) : Int))) : Int)))
 (R (false) w_16)
 ((8 : Int) ≠ 0 ∧
 IfB (((r17.len : Int) : Int) != ((i64 (Int.tdiv ((i64 ((many3 : Int) + (7 : Int))) : Int) (8 : Int))) : Int))
 (R (false) w_16)
 (K_20  w_16)))))))
theorem law11_PrefixEncRead.ok (l1 : (Array Value)) (b2 : Sl) (many3 : Int) (part4 : Int) (R : Bool → World → Prop) (w : World) (h : law11_PrefixEncRead.E l1 b2 many3 part4 R w) : Cl Try.prog [kB] n_law11_PrefixEncRead ⟨[(.agg l1), (.slice b2.base b2.len b2.cap), (.int .i64 many3), (.int .i64 part4)]⟩ w R :=
  calls_of_eq Try.mix Try.f7 [(.agg l1), (.slice b2.base b2.len b2.cap), (.int .i64 many3), (.int .i64 part4)] [kB] R 123 [.tmp 8] (by kernel_rfl) (by kernel_rfl) (by kernel_rfl) (by kernel_rfl) (by kernel_rfl)
    (.s .o (.s (.s .o (.c (.s .o .o) .o)) (.s .o (.s (.s .o (.c (.s .o .o) .o)) (.s .o (.j [] (.s .o (.c (.s .o .o) .o)) (.s (.s .o (.b (.l [(14, kI)] (.s (.s .o (.c .o .o)) (.s (.b (.s .o (.c (.s .o .o) .o))) .o))))) (.s .o (.s .o (.s .o (.s .o .o)))))))))))
    (by kernel_rfl) h
/-- winepresslaw11.PrefixEncParts -/
def law11_PrefixEncParts.E (l1 : (Array Value)) (symbols2 : Sl) (at_3 : Int) (R : Bool → World → Prop) (w : World) : Prop :=
 Nw 23 l1 w fun (b5 : Nat) (w_4 : World) =>
 IfB (decide (((symbols2.len : Int) : Int) > (100 : Int)))
 (Cl Try.prog [kB] n_law11_wakes ⟨[]⟩ w_4 fun (r7 : Bool) (w_6 : World) =>
 R (r7) w_6)
 (Ld (.arr 258) (⟨b5, 0, none⟩ : Addr) w_4 fun (x8 : (Array Value)) =>
 Cl Try.prog [kS, kI, kI] n_prefixenc_Spell ⟨[(.agg x8), (.slice symbols2.base symbols2.len symbols2.cap)]⟩ w_4 fun (r10 : Sl) (r11 : Int) (r12 : Int) (w_9 : World) =>
 Drw w_9 fun (w_13 : World) =>
 Ld (.arr 258) (⟨b5, 0, none⟩ : Addr) w_13 fun (x14 : (Array Value)) =>
 Slc symbols2 0 (if ((symbols2.len : Int) : Int) < ((if (0 : Int) > (at_3 : Int) then (0 : Int) else (at_3 : Int)) : Int) then ((symbols2.len : Int) : Int) else ((if (0 : Int) > (at_3 : Int) then (0 : Int) else (at_3 : Int)) : Int)) (symbols2).cap 1 fun (s15 : Sl) =>
 Cl Try.prog [kI, kI] n_prefixenc_Size ⟨[(.agg x14), (.slice s15.base s15.len s15.cap)]⟩ w_13 fun (r17 : Int) (r18 : Int) (w_16 : World) =>
 Drw w_16 fun (w_19 : World) =>
 Ld (.arr 258) (⟨b5, 0, none⟩ : Addr) w_19 fun (x20 : (Array Value)) =>
 Slc symbols2 (if ((symbols2.len : Int) : Int) < ((if (0 : Int) > (at_3 : Int) then (0 : Int) else (at_3 : Int)) : Int) then ((symbols2.len : Int) : Int) else ((if (0 : Int) > (at_3 : Int) then (0 : Int) else (at_3 : Int)) : Int)) (symbols2).len (symbols2).cap 1 fun (s21 : Sl) =>
 Cl Try.prog [kI, kI] n_prefixenc_Size ⟨[(.agg x20), (.slice s21.base s21.len s21.cap)]⟩ w_19 fun (r23 : Int) (r24 : Int) (w_22 : World) =>
 Cl Try.prog [kP] n_bitwriter_New ⟨[]⟩ w_22 fun (r26 : (Option Addr)) (w_25 : World) =>
 IfB (Option.isNone (r26 : Option Addr))
 (R (false) w_25)
 (Drw w_25 fun (w_27 : World) =>
 Ld (.arr 258) (⟨b5, 0, none⟩ : Addr) w_27 fun (x28 : (Array Value)) =>
 Slc symbols2 0 (if ((symbols2.len : Int) : Int) < ((if (0 : Int) > (at_3 : Int) then (0 : Int) else (at_3 : Int)) : Int) then ((symbols2.len : Int) : Int) else ((if (0 : Int) > (at_3 : Int) then (0 : Int) else (at_3 : Int)) : Int)) (symbols2).cap 1 fun (s29 : Sl) =>
 Cl Try.prog [kI] n_prefixenc_Put ⟨[(.pointer r26), (.agg x28), (.slice s29.base s29.len s29.cap)]⟩ w_27 fun (r31 : Int) (w_30 : World) =>
 Drw w_30 fun (w_32 : World) =>
 Ld (.arr 258) (⟨b5, 0, none⟩ : Addr) w_32 fun (x33 : (Array Value)) =>
 Slc symbols2 (if ((symbols2.len : Int) : Int) < ((if (0 : Int) > (at_3 : Int) then (0 : Int) else (at_3 : Int)) : Int) then ((symbols2.len : Int) : Int) else ((if (0 : Int) > (at_3 : Int) then (0 : Int) else (at_3 : Int)) : Int)) (symbols2).len (symbols2).cap 1 fun (s34 : Sl) =>
 Cl Try.prog [kI] n_prefixenc_Put ⟨[(.pointer r26), (.agg x33), (.slice s34.base s34.len s34.cap)]⟩ w_32 fun (r36 : Int) (w_35 : World) =>
 Join (fun (w_38 : World) =>
 Held w_38 fun (S39 : World → Prop) (w_40 : World) =>
 IfB ((r12 : Int) != (0 : Int))
 (((LdS (.arr 258) (⟨b5, 0, none⟩ : Addr) S39 fun (x41 : (Array Value)) =>
 Cl Try.prog [kB] n_ref09_Valid ⟨[(.agg x41)]⟩ w_40 fun (r43 : Bool) (w_42 : World) =>
 S39 w_42 ∧
 IfB r43
 (Cl Try.prog [kB] n_law11_wakes ⟨[]⟩ w_42 fun (r45 : Bool) (w_44 : World) =>
 S39 w_44 ∧
 R (r45) w_44)
 (IfB ((r12 : Int) == (2 : Int))
 (Cl Try.prog [kB] n_law11_wakes ⟨[]⟩ w_42 fun (r47 : Bool) (w_46 : World) =>
 S39 w_46 ∧
 R (r47) w_46)
 (R (false) w_42))) ∧
 (LdS (.arr 258) (⟨b5, 0, none⟩ : Addr) S39 fun (x48 : (Array Value)) =>
 Cl Try.prog [kB] n_ref09_Valid ⟨[(.agg x48)]⟩ w_40 fun (r50 : Bool) (w_49 : World) =>
 S39 w_49 ∧
 IfB r50
 (Cl Try.prog [kB] n_law11_wakes ⟨[]⟩ w_49 fun (r52 : Bool) (w_51 : World) =>
 S39 w_51 ∧
 R (r52) w_51)
 (IfB ((r12 : Int) == (2 : Int))
 (Cl Try.prog [kB] n_law11_wakes ⟨[]⟩ w_49 fun (r54 : Bool) (w_53 : World) =>
 S39 w_53 ∧
 R (r54) w_53)
 (R (false) w_49)))) ∧
 (LdS (.arr 258) (⟨b5, 0, none⟩ : Addr) S39 fun (x55 : (Array Value)) =>
 Cl Try.prog [kB] n_ref09_Valid ⟨[(.agg x55)]⟩ w_40 fun (r57 : Bool) (w_56 : World) =>
 S39 w_56 ∧
 IfB r57
 (Cl Try.prog [kB] n_law11_wakes ⟨[]⟩ w_56 fun (r59 : Bool) (w_58 : World) =>
 S39 w_58 ∧
 R (r59) w_58)
 (IfB ((r12 : Int) == (2 : Int))
 (Cl Try.prog [kB] n_law11_wakes ⟨[]⟩ w_56 fun (r61 : Bool) (w_60 : World) =>
 S39 w_60 ∧
 R (r61) w_60)
 (R (false) w_56))))
 (IfB ((r11 : Int) == ((i64 ((r17 : Int) + (r23 : Int))) : Int))
 (Cl Try.prog [kI] n_bitwriter_Writer_Len ⟨[(.pointer r26)]⟩ w_40 fun (r63 : Int) (w_62 : World) =>
 S39 w_62 ∧
 IfB ((r63 : Int) == (r11 : Int))
 ((Cl Try.prog [kS] n_bitwriter_Writer_Bytes ⟨[(.pointer r26)]⟩ w_62 fun (r65 : Sl) (w_64 : World) =>
 S39 w_64 ∧
 (Run Try.prog (convert 44 9 (.slice r65.base r65.len r65.cap)) kStr w_64 fun (s67 : ByteArray) (w_66 : World) =>
 S39 w_66 ∧
 Run Try.prog (convert 44 9 (.slice r10.base r10.len r10.cap)) kStr w_66 fun (s69 : ByteArray) (w_68 : World) =>
 S39 w_68 ∧
 IfB ((s67).toList == (s69).toList)
 (LdS (.arr 258) (⟨b5, 0, none⟩ : Addr) S39 fun (x70 : (Array Value)) =>
 Cl Try.prog [kB] n_ref09_Valid ⟨[(.agg x70)]⟩ w_68 fun (r72 : Bool) (w_71 : World) =>
 S39 w_71 ∧
 IfB r72
 (Cl Try.prog [kB] n_law11_wakes ⟨[]⟩ w_71 fun (r74 : Bool) (w_73 : World) =>
 S39 w_73 ∧
 R (r74) w_73)
 (IfB ((r12 : Int) == (2 : Int))
 (Cl Try.prog [kB] n_law11_wakes ⟨[]⟩ w_71 fun (r76 : Bool) (w_75 : World) =>
 S39 w_75 ∧
 R (r76) w_75)
 (R (false) w_71)))
 (R (false) w_68)) ∧
 (Run Try.prog (convert 44 9 (.slice r10.base r10.len r10.cap)) kStr w_64 fun (s78 : ByteArray) (w_77 : World) =>
 S39 w_77 ∧
 Run Try.prog (convert 44 9 (.slice r65.base r65.len r65.cap)) kStr w_77 fun (s80 : ByteArray) (w_79 : World) =>
 S39 w_79 ∧
 IfB ((s80).toList == (s78).toList)
 (LdS (.arr 258) (⟨b5, 0, none⟩ : Addr) S39 fun (x81 : (Array Value)) =>
 Cl Try.prog [kB] n_ref09_Valid ⟨[(.agg x81)]⟩ w_79 fun (r83 : Bool) (w_82 : World) =>
 S39 w_82 ∧
 IfB r83
 (Cl Try.prog [kB] n_law11_wakes ⟨[]⟩ w_82 fun (r85 : Bool) (w_84 : World) =>
 S39 w_84 ∧
 R (r85) w_84)
 (IfB ((r12 : Int) == (2 : Int))
 (Cl Try.prog [kB] n_law11_wakes ⟨[]⟩ w_82 fun (r87 : Bool) (w_86 : World) =>
 S39 w_86 ∧
 R (r87) w_86)
 (R (false) w_82)))
 (R (false) w_79))) ∧
 (Run Try.prog (convert 44 9 (.slice r10.base r10.len r10.cap)) kStr w_62 fun (s89 : ByteArray) (w_88 : World) =>
 S39 w_88 ∧
 Cl Try.prog [kS] n_bitwriter_Writer_Bytes ⟨[(.pointer r26)]⟩ w_88 fun (r91 : Sl) (w_90 : World) =>
 S39 w_90 ∧
 Run Try.prog (convert 44 9 (.slice r91.base r91.len r91.cap)) kStr w_90 fun (s93 : ByteArray) (w_92 : World) =>
 S39 w_92 ∧
 IfB ((s93).toList == (s89).toList)
 (LdS (.arr 258) (⟨b5, 0, none⟩ : Addr) S39 fun (x94 : (Array Value)) =>
 Cl Try.prog [kB] n_ref09_Valid ⟨[(.agg x94)]⟩ w_92 fun (r96 : Bool) (w_95 : World) =>
 S39 w_95 ∧
 IfB r96
 (Cl Try.prog [kB] n_law11_wakes ⟨[]⟩ w_95 fun (r98 : Bool) (w_97 : World) =>
 S39 w_97 ∧
 R (r98) w_97)
 (IfB ((r12 : Int) == (2 : Int))
 (Cl Try.prog [kB] n_law11_wakes ⟨[]⟩ w_95 fun (r100 : Bool) (w_99 : World) =>
 S39 w_99 ∧
 R (r100) w_99)
 (R (false) w_95)))
 (R (false) w_92)))
 (((R (false) w_62) ∧
 (R (false) w_62)) ∧
 (R (false) w_62)))
 (((R (false) w_40) ∧
 (R (false) w_40)) ∧
 (R (false) w_40)))) fun (K_37 : World → Prop) =>
 IfB ((r31 : Int) != (r18 : Int))
 (R (false) w_35)
 (IfB ((r36 : Int) != (r24 : Int))
 (R (false) w_35)
 (IfB ((r18 : Int) == (0 : Int))
 (IfB (!(((r12 : Int) == (0 : Int)) == ((r24 : Int) == (0 : Int))))
 (R (false) w_35)
 (K_37  w_35))
 (IfB (!(((r12 : Int) == (0 : Int)) == false))
 (R (false) w_35)
 (K_37  w_35))))))
theorem law11_PrefixEncParts.ok (l1 : (Array Value)) (symbols2 : Sl) (at_3 : Int) (R : Bool → World → Prop) (w : World) (h : law11_PrefixEncParts.E l1 symbols2 at_3 R w) : Cl Try.prog [kB] n_law11_PrefixEncParts ⟨[(.agg l1), (.slice symbols2.base symbols2.len symbols2.cap), (.int .i64 at_3)]⟩ w R :=
  calls_of_eq Try.mix Try.f8 [(.agg l1), (.slice symbols2.base symbols2.len symbols2.cap), (.int .i64 at_3)] [kB] R 117 [.tmp 6] (by kernel_rfl) (by kernel_rfl) (by kernel_rfl) (by kernel_rfl) (by kernel_rfl)
    (.s .o (.s (.s .o (.c (.s .o .o) .o)) (.s .o (.s .o (.s .o (.s .o (.s .o (.s (.s .o (.c (.s .o .o) .o)) (.s .o (.s .o (.j [] (.s .o (.c (.s .o .o) .o)) (.s .o .o))))))))))))
    (by kernel_rfl) h
/-- prefixdec.New -/
def prefixdec_New.E (l1 : (Array Value)) (R : (Array Value) → Int → World → Prop) (w : World) : Prop :=
 Nw 23 l1 w fun (b3 : Nat) (w_2 : World) =>
 Nw 26 ⟨List.replicate 258 (.int .u8 0) ++ [(.int .i64 0), (.int .i64 0)]⟩ w_2 fun (b5 : Nat) (w_4 : World) =>
 Ld (.arr 258) (⟨b3, 0, none⟩ : Addr) w_4 fun (x6 : (Array Value)) =>
 Cl Try.prog [kB] n_kraft_Table ⟨[(.agg x6)]⟩ w_4 fun (r8 : Bool) (w_7 : World) =>
 IfB (!r8)
 (Bld Try.prog 26 [] fun (cs9 : Array Value) =>
 StA 260 (⟨b5, 0, none⟩ : Addr) cs9 w_7 fun (w_10 : World) =>
 Ld (.arr 260) (⟨b5, 0, none⟩ : Addr) w_10 fun (res11 : (Array Value)) =>
 R (res11) (2) w_10)
 (Ld (.arr 258) (⟨b3, 0, none⟩ : Addr) w_7 fun (x12 : (Array Value)) =>
 Bld Try.prog 26 [(0, (.agg x12))] fun (cs13 : Array Value) =>
 StA 260 (⟨b5, 0, none⟩ : Addr) cs13 w_7 fun (w_14 : World) =>
 Ld (.arr 260) (⟨b5, 0, none⟩ : Addr) w_14 fun (res15 : (Array Value)) =>
 R (res15) (0) w_14)
theorem prefixdec_New.ok (l1 : (Array Value)) (R : (Array Value) → Int → World → Prop) (w : World) (h : prefixdec_New.E l1 R w) : Cl Try.prog [(.arr 260), kI] n_prefixdec_New ⟨[(.agg l1)]⟩ w R :=
  calls_of_eq Try.mix Try.f9 [(.agg l1)] [(.arr 260), kI] R 10 [.cell 2 26, .tmp 3] (by kernel_rfl) (by kernel_rfl) (by kernel_rfl) (by kernel_rfl) (by kernel_rfl)
    (.s .o (.s (.s .o (.c (.s .o .o) .o)) (.s .o .o)))
    (by kernel_rfl) h
/-- winepressref08.Table -/
def ref08_Table.E (l1 : (Array Value)) (R : Bool → World → Prop) (w : World) : Prop :=
 Nw 23 l1 w fun (b3 : Nat) (w_2 : World) =>
 Ld (.arr 258) (⟨b3, 0, none⟩ : Addr) w_2 fun (x4 : (Array Value)) =>
 Cl Try.prog [kI] n_ref08_Sum ⟨[(.agg x4)]⟩ w_2 fun (r6 : Int) (w_5 : World) =>
 IfB ((r6 : Int) == (32768 : Int))
 (IdxP (⟨b3, 0, none⟩ : Addr) 258 257 1 fun (q7 : Addr) =>
 Ld (kInt .u8) q7 w_5 fun (x8 : Int) =>
 R (((x8 : Int) != (0 : Int))) w_5)
 (R (false) w_5)
theorem ref08_Table.ok (l1 : (Array Value)) (R : Bool → World → Prop) (w : World) (h : ref08_Table.E l1 R w) : Cl Try.prog [kB] n_ref08_Table ⟨[(.agg l1)]⟩ w R :=
  calls_of_eq Try.mix Try.f10 [(.agg l1)] [kB] R 11 [.tmp 2] (by kernel_rfl) (by kernel_rfl) (by kernel_rfl) (by kernel_rfl) (by kernel_rfl)
    (.s .o (.s .o .o))
    (by kernel_rfl) h
/-- winepresslaw12.wakes -/
def law12_wakes.E  (R : Bool → World → Prop) (w : World) : Prop :=
 Cl Try.prog [(.arr 258)] n_law12_three ⟨[]⟩ w fun (r2 : (Array Value)) (w_1 : World) =>
 Nw 3 ⟨[(.int .i64 1), (.int .i64 0), (.int .i64 0), (.int .i64 1), (.int .i64 1), (.int .i64 1)]⟩ w_1 fun (b4 : Nat) (w_3 : World) =>
 Cl Try.prog [kS, kI, kI] n_prefixdec_All ⟨[(.agg r2), (.int .i64 3), (.slice (⟨some ⟨b4, 0, none⟩, 6, 6⟩ : Sl).base (⟨some ⟨b4, 0, none⟩, 6, 6⟩ : Sl).len (⟨some ⟨b4, 0, none⟩, 6, 6⟩ : Sl).cap)]⟩ w_3 fun (r6 : Sl) (r7 : Int) (r8 : Int) (w_5 : World) =>
 Cl Try.prog [(.arr 258)] n_law12_three ⟨[]⟩ w_5 fun (r10 : (Array Value)) (w_9 : World) =>
 Nw 3 ⟨[(.int .i64 1), (.int .i64 0), (.int .i64 0), (.int .i64 1)]⟩ w_9 fun (b12 : Nat) (w_11 : World) =>
 Cl Try.prog [kS, kI, kI] n_prefixdec_All ⟨[(.agg r10), (.int .i64 3), (.slice (⟨some ⟨b12, 0, none⟩, 4, 4⟩ : Sl).base (⟨some ⟨b12, 0, none⟩, 4, 4⟩ : Sl).len (⟨some ⟨b12, 0, none⟩, 4, 4⟩ : Sl).cap)]⟩ w_11 fun (r14 : Sl) (r15 : Int) (r16 : Int) (w_13 : World) =>
 Bld Try.prog 23 [] fun (cs17 : Array Value) =>
 Cl Try.prog [kS, kI, kI] n_prefixdec_All ⟨[(.agg cs17), (.int .i64 0), (.slice none 0 0)]⟩ w_13 fun (r19 : Sl) (r20 : Int) (r21 : Int) (w_18 : World) =>
 Cl Try.prog [(.arr 258)] n_law12_three ⟨[]⟩ w_18 fun (r23 : (Array Value)) (w_22 : World) =>
 Nw 3 ⟨[(.int .i64 2)]⟩ w_22 fun (b25 : Nat) (w_24 : World) =>
 Cl Try.prog [kS, kI, kI] n_prefixdec_All ⟨[(.agg r23), (.int .i64 1), (.slice (⟨some ⟨b25, 0, none⟩, 1, 1⟩ : Sl).base (⟨some ⟨b25, 0, none⟩, 1, 1⟩ : Sl).len (⟨some ⟨b25, 0, none⟩, 1, 1⟩ : Sl).cap)]⟩ w_24 fun (r27 : Sl) (r28 : Int) (r29 : Int) (w_26 : World) =>
 Cl Try.prog [(.arr 258)] n_law12_three ⟨[]⟩ w_26 fun (r31 : (Array Value)) (w_30 : World) =>
 Cl Try.prog [(.arr 1024), kI] n_prefixdec_Quick ⟨[(.agg r31)]⟩ w_30 fun (r33 : (Array Value)) (r34 : Int) (w_32 : World) =>
 Nw 39 ⟨List.replicate 1024 (.int .i64 0)⟩ w_32 fun (b36 : Nat) (w_35 : World) =>
 StA 1024 (⟨b36, 0, none⟩ : Addr) r33 w_35 fun (w_37 : World) =>
 Bld Try.prog 23 [] fun (cs38 : Array Value) =>
 Cl Try.prog [(.arr 1024), kI] n_prefixdec_Quick ⟨[(.agg cs38)]⟩ w_37 fun (r40 : (Array Value)) (r41 : Int) (w_39 : World) =>
 Nw 39 ⟨List.replicate 1024 (.int .i64 0)⟩ w_39 fun (b43 : Nat) (w_42 : World) =>
 StA 1024 (⟨b43, 0, none⟩ : Addr) r40 w_42 fun (w_44 : World) =>
 Cl Try.prog [(.arr 258)] n_law12_three ⟨[]⟩ w_44 fun (r46 : (Array Value)) (w_45 : World) =>
 Cl Try.prog [(.arr 260), kI] n_prefixdec_New ⟨[(.agg r46)]⟩ w_45 fun (r48 : (Array Value)) (r49 : Int) (w_47 : World) =>
 Nw 26 ⟨List.replicate 258 (.int .u8 0) ++ [(.int .i64 0), (.int .i64 0)]⟩ w_47 fun (b51 : Nat) (w_50 : World) =>
 StA 260 (⟨b51, 0, none⟩ : Addr) r48 w_50 fun (w_52 : World) =>
 Bld Try.prog 23 [] fun (cs53 : Array Value) =>
 Cl Try.prog [(.arr 260), kI] n_prefixdec_New ⟨[(.agg cs53)]⟩ w_52 fun (r55 : (Array Value)) (r56 : Int) (w_54 : World) =>
 Nw 26 ⟨List.replicate 258 (.int .u8 0) ++ [(.int .i64 0), (.int .i64 0)]⟩ w_54 fun (b58 : Nat) (w_57 : World) =>
 StA 260 (⟨b58, 0, none⟩ : Addr) r55 w_57 fun (w_59 : World) =>
 Ld (.arr 260) (⟨b51, 0, none⟩ : Addr) w_59 fun (x60 : (Array Value)) =>
 Cl Try.prog [(.arr 260), kI, kB] n_prefixdec_Step ⟨[(.agg x60), (.int .i64 1)]⟩ w_59 fun (r62 : (Array Value)) (r63 : Int) (r64 : Bool) (w_61 : World) =>
 Nw 26 ⟨List.replicate 258 (.int .u8 0) ++ [(.int .i64 0), (.int .i64 0)]⟩ w_61 fun (b66 : Nat) (w_65 : World) =>
 StA 260 (⟨b66, 0, none⟩ : Addr) r62 w_65 fun (w_67 : World) =>
 Ld (.arr 260) (⟨b66, 0, none⟩ : Addr) w_67 fun (x68 : (Array Value)) =>
 Cl Try.prog [(.arr 260), kI, kB] n_prefixdec_Step ⟨[(.agg x68), (.int .i64 1)]⟩ w_67 fun (r70 : (Array Value)) (r71 : Int) (r72 : Bool) (w_69 : World) =>
 Nw 26 ⟨List.replicate 258 (.int .u8 0) ++ [(.int .i64 0), (.int .i64 0)]⟩ w_69 fun (b74 : Nat) (w_73 : World) =>
 StA 260 (⟨b74, 0, none⟩ : Addr) r70 w_73 fun (w_75 : World) =>
 Join (fun (w_81 : World) =>
 Join (fun (quick101 : Bool) (w_102 : World) =>
 Held w_102 fun (S103 : World → Prop) (w_104 : World) =>
 IfB ((r16 : Int) == (50 : Int))
 (IfB ((r21 : Int) == (2 : Int))
 (IfB ((r29 : Int) == (2 : Int))
 (IfB ((r34 : Int) == (0 : Int))
 (IfB quick101
 (IfB ((r41 : Int) == (2 : Int))
 (IfB ((r49 : Int) == (0 : Int))
 (IfB ((r56 : Int) == (2 : Int))
 (IfB (!r64)
 (IfB ((r63 : Int) == (0 : Int))
 (LdS (.arr 260) (⟨b66, 0, none⟩ : Addr) S103 fun (x105 : (Array Value)) =>
 Cl Try.prog [(.arr 258)] n_law12_three ⟨[]⟩ w_104 fun (r107 : (Array Value)) (w_106 : World) =>
 S103 w_106 ∧
 Bld Try.prog 26 [(0, (.agg r107)), (1, (.int .i64 1)), (2, (.int .i64 1))] fun (cs108 : Array Value) =>
 EqW Try.prog 26 x105 cs108 fun (eq109 : Bool) =>
 IfB eq109
 (IfB r72
 (IfB ((r71 : Int) == (257 : Int))
 (LdS (.arr 260) (⟨b74, 0, none⟩ : Addr) S103 fun (x110 : (Array Value)) =>
 LdS (.arr 260) (⟨b51, 0, none⟩ : Addr) S103 fun (x111 : (Array Value)) =>
 EqW Try.prog 26 x110 x111 fun (eq112 : Bool) =>
 IfB eq112
 (LdS (.arr 260) (⟨b66, 0, none⟩ : Addr) S103 fun (x113 : (Array Value)) =>
 Cl Try.prog [kB] n_prefixdec_Valid ⟨[(.agg x113)]⟩ w_106 fun (r115 : Bool) (w_114 : World) =>
 S103 w_114 ∧
 IfB r115
 (Cl Try.prog [(.arr 258)] n_law12_three ⟨[]⟩ w_114 fun (r117 : (Array Value)) (w_116 : World) =>
 S103 w_116 ∧
 Bld Try.prog 26 [(0, (.agg r117)), (2, (.int .i64 1))] fun (cs118 : Array Value) =>
 Cl Try.prog [kB] n_prefixdec_Valid ⟨[(.agg cs118)]⟩ w_116 fun (r120 : Bool) (w_119 : World) =>
 S103 w_119 ∧
 R ((!r120)) w_119)
 (R (false) w_114))
 (R (false) w_106))
 (R (false) w_106))
 (R (false) w_106))
 (R (false) w_106))
 (R (false) w_104))
 (R (false) w_104))
 (R (false) w_104))
 (R (false) w_104))
 (R (false) w_104))
 (R (false) w_104))
 (R (false) w_104))
 (R (false) w_104))
 (R (false) w_104))
 (R (false) w_104)) fun (K_82 : Bool → World → Prop) =>
 IdxP (⟨b36, 0, none⟩ : Addr) 512 0 2 fun (q83 : Addr) =>
 Ld (.st [.int .i64, .int .i64]) q83 w_81 fun (x84 : (TT [.int .i64, .int .i64])) =>
 IfB (((x84.1 : Int) == (0 : Int)) && ((x84.2.1 : Int) == (1 : Int)))
 (IdxP (⟨b36, 0, none⟩ : Addr) 512 255 2 fun (q85 : Addr) =>
 Ld (.st [.int .i64, .int .i64]) q85 w_81 fun (x86 : (TT [.int .i64, .int .i64])) =>
 IdxP (⟨b36, 0, none⟩ : Addr) 512 0 2 fun (q87 : Addr) =>
 Ld (.st [.int .i64, .int .i64]) q87 w_81 fun (x88 : (TT [.int .i64, .int .i64])) =>
 IfB (((x86.1 : Int) == (x88.1 : Int)) && ((x86.2.1 : Int) == (x88.2.1 : Int)))
 (IdxP (⟨b36, 0, none⟩ : Addr) 512 256 2 fun (q89 : Addr) =>
 Ld (.st [.int .i64, .int .i64]) q89 w_81 fun (x90 : (TT [.int .i64, .int .i64])) =>
 IfB (((x90.1 : Int) == (1 : Int)) && ((x90.2.1 : Int) == (2 : Int)))
 (IdxP (⟨b36, 0, none⟩ : Addr) 512 383 2 fun (q91 : Addr) =>
 Ld (.st [.int .i64, .int .i64]) q91 w_81 fun (x92 : (TT [.int .i64, .int .i64])) =>
 IdxP (⟨b36, 0, none⟩ : Addr) 512 256 2 fun (q93 : Addr) =>
 Ld (.st [.int .i64, .int .i64]) q93 w_81 fun (x94 : (TT [.int .i64, .int .i64])) =>
 IfB (((x92.1 : Int) == (x94.1 : Int)) && ((x92.2.1 : Int) == (x94.2.1 : Int)))
 (IdxP (⟨b36, 0, none⟩ : Addr) 512 384 2 fun (q95 : Addr) =>
 Ld (.st [.int .i64, .int .i64]) q95 w_81 fun (x96 : (TT [.int .i64, .int .i64])) =>
 IfB (((x96.1 : Int) == (257 : Int)) && ((x96.2.1 : Int) == (2 : Int)))
 (IdxP (⟨b36, 0, none⟩ : Addr) 512 511 2 fun (q97 : Addr) =>
 Ld (.st [.int .i64, .int .i64]) q97 w_81 fun (x98 : (TT [.int .i64, .int .i64])) =>
 IdxP (⟨b36, 0, none⟩ : Addr) 512 384 2 fun (q99 : Addr) =>
 Ld (.st [.int .i64, .int .i64]) q99 w_81 fun (x100 : (TT [.int .i64, .int .i64])) =>
 K_82 ((((x98.1 : Int) == (x100.1 : Int)) && ((x98.2.1 : Int) == (x100.2.1 : Int)))) w_81)
 (K_82 (false) w_81))
 (K_82 (false) w_81))
 (K_82 (false) w_81))
 (K_82 (false) w_81))
 (K_82 (false) w_81)) fun (K_76 : World → Prop) =>
 IfB ((r8 : Int) != (0 : Int))
 (R (false) w_75)
 (IfB ((r7 : Int) != (5 : Int))
 (R (false) w_75)
 (Nw 3 ⟨[(.int .i64 1), (.int .i64 0), (.int .i64 257)]⟩ w_75 fun (b78 : Nat) (w_77 : World) =>
 Cl Try.prog [kB] n_ref02_Ints ⟨[(.slice r6.base r6.len r6.cap), (.slice (⟨some ⟨b78, 0, none⟩, 3, 3⟩ : Sl).base (⟨some ⟨b78, 0, none⟩, 3, 3⟩ : Sl).len (⟨some ⟨b78, 0, none⟩, 3, 3⟩ : Sl).cap)]⟩ w_77 fun (r80 : Bool) (w_79 : World) =>
 IfB (!r80)
 (R (false) w_79)
 (K_76  w_79)))
theorem law12_wakes.ok  (R : Bool → World → Prop) (w : World) (h : law12_wakes.E  R w) : Cl Try.prog [kB] n_law12_wakes ⟨[]⟩ w R :=
  calls_of_eq Try.mix Try.f11 [] [kB] R 201 [.tmp 0] (by kernel_rfl) (by kernel_rfl) (by kernel_rfl) (by kernel_rfl) (by kernel_rfl)
    (.s .o (.s .o (.s .o (.s .o (.s .o (.s .o (.s .o (.s .o (.s .o (.s .o (.s .o (.j [] (.s .o (.c (.s .o .o) .o)) (.j [(27, kB)] .o (.s .o .o))))))))))))))
    (by kernel_rfl) h
/-- prefixdec.Step -/
def prefixdec_Step.E (t1 : (Array Value)) (bit2 : Int) (R : (Array Value) → Int → Bool → World → Prop) (w : World) : Prop :=
 Nw 26 t1 w fun (b4 : Nat) (w_3 : World) =>
 Nw 26 ⟨List.replicate 258 (.int .u8 0) ++ [(.int .i64 0), (.int .i64 0)]⟩ w_3 fun (b6 : Nat) (w_5 : World) =>
 Join (fun (w_17 : World) =>
 Ld (.arr 258) ((⟨b4, 0, none⟩ : Addr).add 0) w_17 fun (Lengths18 : (Array Value)) =>
 Ld kI ((⟨b4, 0, none⟩ : Addr).add 258) w_17 fun (Code19 : Int) =>
 0 ≤ (1 : Int) ∧
 Ld kI ((⟨b4, 0, none⟩ : Addr).add 259) w_17 fun (Bits20 : Int) =>
 Bld Try.prog 26 [(0, (.agg Lengths18)), (1, (.int .i64 (ior .i64 ((ishl .i64 (Code19 : Int) (1 : Int)) : Int) (bit2 : Int)))), (2, (.int .i64 (i64 ((Bits20 : Int) + (1 : Int)))))] fun (cs21 : Array Value) =>
 StA 260 (⟨b6, 0, none⟩ : Addr) cs21 w_17 fun (w_22 : World) =>
 Ld (.arr 258) ((⟨b6, 0, none⟩ : Addr).add 0) w_22 fun (Lengths23 : (Array Value)) =>
 Ld kI ((⟨b6, 0, none⟩ : Addr).add 259) w_22 fun (Bits24 : Int) =>
 Cl Try.prog [kI, kI] n_prefixdec_first ⟨[(.agg Lengths23), (.int .i64 Bits24)]⟩ w_22 fun (r26 : Int) (r27 : Int) (w_25 : World) =>
 Ld kI ((⟨b6, 0, none⟩ : Addr).add 258) w_25 fun (Code28 : Int) =>
 IfB (decide ((Code28 : Int) ≥ ((i64 ((r26 : Int) + (r27 : Int))) : Int)))
 (Ld (.arr 260) (⟨b6, 0, none⟩ : Addr) w_25 fun (x29 : (Array Value)) =>
 StA 260 (⟨b6, 0, none⟩ : Addr) x29 w_25 fun (w_30 : World) =>
 Ld (.arr 260) (⟨b6, 0, none⟩ : Addr) w_30 fun (res31 : (Array Value)) =>
 R (res31) (0) (false) w_30)
 (Drw w_25 fun (w_32 : World) =>
 Ld (.arr 258) ((⟨b6, 0, none⟩ : Addr).add 0) w_32 fun (Lengths33 : (Array Value)) =>
 Ld kI ((⟨b6, 0, none⟩ : Addr).add 259) w_32 fun (Bits34 : Int) =>
 Ld kI ((⟨b6, 0, none⟩ : Addr).add 258) w_32 fun (Code35 : Int) =>
 (Ld (.arr 258) ((⟨b4, 0, none⟩ : Addr).add 0) w_32 fun (Lengths36 : (Array Value)) =>
 Bld Try.prog 26 [(0, (.agg Lengths36))] fun (cs37 : Array Value) =>
 Cl Try.prog [kI] n_prefixdec_of ⟨[(.agg Lengths33), (.int .i64 Bits34), (.int .i64 (i64 ((Code35 : Int) - (r26 : Int))))]⟩ w_32 fun (r39 : Int) (w_38 : World) =>
 StA 260 (⟨b6, 0, none⟩ : Addr) cs37 w_38 fun (w_40 : World) =>
 Ld (.arr 260) (⟨b6, 0, none⟩ : Addr) w_40 fun (res41 : (Array Value)) =>
 R (res41) (r39) (true) w_40) ∧
 (Cl Try.prog [kI] n_prefixdec_of ⟨[(.agg Lengths33), (.int .i64 Bits34), (.int .i64 (i64 ((Code35 : Int) - (r26 : Int))))]⟩ w_32 fun (r43 : Int) (w_42 : World) =>
 Ld (.arr 258) ((⟨b4, 0, none⟩ : Addr).add 0) w_42 fun (Lengths44 : (Array Value)) =>
 Bld Try.prog 26 [(0, (.agg Lengths44))] fun (cs45 : Array Value) =>
 StA 260 (⟨b6, 0, none⟩ : Addr) cs45 w_42 fun (w_46 : World) =>
 Ld (.arr 260) (⟨b6, 0, none⟩ : Addr) w_46 fun (res47 : (Array Value)) =>
 R (res47) (r43) (true) w_46))) fun (K_7 : World → Prop) =>
 0 ≤ (1 : Int) ∧
 IfB (((ishr .i64 (bit2 : Int) (1 : Int)) : Int) != (0 : Int))
 (Ld (.arr 260) (⟨b4, 0, none⟩ : Addr) w_5 fun (x8 : (Array Value)) =>
 StA 260 (⟨b6, 0, none⟩ : Addr) x8 w_5 fun (w_9 : World) =>
 Ld (.arr 260) (⟨b6, 0, none⟩ : Addr) w_9 fun (res10 : (Array Value)) =>
 R (res10) (0) (false) w_9)
 (Ld (.arr 260) (⟨b4, 0, none⟩ : Addr) w_5 fun (x11 : (Array Value)) =>
 Cl Try.prog [kB] n_prefixdec_Valid ⟨[(.agg x11)]⟩ w_5 fun (r13 : Bool) (w_12 : World) =>
 IfB (!r13)
 (Ld (.arr 260) (⟨b4, 0, none⟩ : Addr) w_12 fun (x14 : (Array Value)) =>
 StA 260 (⟨b6, 0, none⟩ : Addr) x14 w_12 fun (w_15 : World) =>
 Ld (.arr 260) (⟨b6, 0, none⟩ : Addr) w_15 fun (res16 : (Array Value)) =>
 R (res16) (0) (false) w_15)
 (K_7  w_12))
theorem prefixdec_Step.ok (t1 : (Array Value)) (bit2 : Int) (R : (Array Value) → Int → Bool → World → Prop) (w : World) (h : prefixdec_Step.E t1 bit2 R w) : Cl Try.prog [(.arr 260), kI, kB] n_prefixdec_Step ⟨[(.agg t1), (.int .i64 bit2)]⟩ w R :=
  calls_of_eq Try.mix Try.f12 [(.agg t1), (.int .i64 bit2)] [(.arr 260), kI, kB] R 56 [.cell 4 26, .tmp 5, .tmp 6] (by kernel_rfl) (by kernel_rfl) (by kernel_rfl) (by kernel_rfl) (by kernel_rfl)
    (.s .o (.j [] (.s .o (.c (.s .o .o) .o)) (.s .o (.s .o (.s (.s .o (.c (.s .o .o) .o)) (.s (.b .o) .o))))))
    (by kernel_rfl) h
/-- prefixdec.Valid -/
def prefixdec_Valid.E (t1 : (Array Value)) (R : Bool → World → Prop) (w : World) : Prop :=
 Nw 26 t1 w fun (b3 : Nat) (w_2 : World) =>
 Join (fun (w_13 : World) =>
 Ld (.arr 258) ((⟨b3, 0, none⟩ : Addr).add 0) w_13 fun (Lengths14 : (Array Value)) =>
 Ld kI ((⟨b3, 0, none⟩ : Addr).add 259) w_13 fun (Bits15 : Int) =>
 Cl Try.prog [kI, kI] n_prefixdec_first ⟨[(.agg Lengths14), (.int .i64 Bits15)]⟩ w_13 fun (r17 : Int) (r18 : Int) (w_16 : World) =>
 Ld kI ((⟨b3, 0, none⟩ : Addr).add 258) w_16 fun (Code19 : Int) =>
 R ((decide ((Code19 : Int) ≥ ((i64 ((r17 : Int) + (r18 : Int))) : Int)))) w_16) fun (K_4 : World → Prop) =>
 Ld (.arr 258) ((⟨b3, 0, none⟩ : Addr).add 0) w_2 fun (Lengths5 : (Array Value)) =>
 Cl Try.prog [kB] n_kraft_Table ⟨[(.agg Lengths5)]⟩ w_2 fun (r7 : Bool) (w_6 : World) =>
 IfB (!r7)
 (R (false) w_6)
 (Ld kI ((⟨b3, 0, none⟩ : Addr).add 259) w_6 fun (Bits8 : Int) =>
 IfB (decide ((Bits8 : Int) < (0 : Int)))
 (R (false) w_6)
 (Ld kI ((⟨b3, 0, none⟩ : Addr).add 259) w_6 fun (Bits9 : Int) =>
 IfB (decide ((Bits9 : Int) ≥ (15 : Int)))
 (R (false) w_6)
 (Ld kI ((⟨b3, 0, none⟩ : Addr).add 258) w_6 fun (Code10 : Int) =>
 IfB (decide ((Code10 : Int) < (0 : Int)))
 (R (false) w_6)
 (Ld kI ((⟨b3, 0, none⟩ : Addr).add 258) w_6 fun (Code11 : Int) =>
 Ld kI ((⟨b3, 0, none⟩ : Addr).add 259) w_6 fun (Bits12 : Int) =>
 0 ≤ (Bits12 : Int) ∧
 IfB (((ishr .i64 (Code11 : Int) (Bits12 : Int)) : Int) != (0 : Int))
 (R (false) w_6)
 (K_4  w_6)))))
theorem prefixdec_Valid.ok (t1 : (Array Value)) (R : Bool → World → Prop) (w : World) (h : prefixdec_Valid.E t1 R w) : Cl Try.prog [kB] n_prefixdec_Valid ⟨[(.agg t1)]⟩ w R :=
  calls_of_eq Try.mix Try.f13 [(.agg t1)] [kB] R 46 [.tmp 2] (by kernel_rfl) (by kernel_rfl) (by kernel_rfl) (by kernel_rfl) (by kernel_rfl)
    (.s .o (.j [] (.s .o (.c (.s .o .o) .o)) (.s .o (.s .o .o))))
    (by kernel_rfl) h
/-- prefixdec.Quick -/
def prefixdec_Quick.E (l1 : (Array Value)) (R : (Array Value) → Int → World → Prop) (w : World) : Prop :=
 Nw 23 l1 w fun (b3 : Nat) (w_2 : World) =>
 Nw 39 ⟨List.replicate 1024 (.int .i64 0)⟩ w_2 fun (b5 : Nat) (w_4 : World) =>
 Ld (.arr 258) (⟨b3, 0, none⟩ : Addr) w_4 fun (x6 : (Array Value)) =>
 Cl Try.prog [kB] n_kraft_Table ⟨[(.agg x6)]⟩ w_4 fun (r8 : Bool) (w_7 : World) =>
 IfB (!r8)
 (Ld (.arr 1024) (⟨b5, 0, none⟩ : Addr) w_7 fun (x9 : (Array Value)) =>
 StA 1024 (⟨b5, 0, none⟩ : Addr) x9 w_7 fun (w_10 : World) =>
 Ld (.arr 1024) (⟨b5, 0, none⟩ : Addr) w_10 fun (res11 : (Array Value)) =>
 R (res11) (2) w_10)
 (Ld (.arr 258) (⟨b3, 0, none⟩ : Addr) w_7 fun (x12 : (Array Value)) =>
 Cl Try.prog [kV] n_prefixdec_short ⟨[(.agg x12)]⟩ w_7 fun (r14 : Value) (w_13 : World) =>
 Rng Try.prog r14 [(.st [.int .i64, .int .i64]), (.st [.int .i64, .int .i64])] w_13 (fun (l15 : Nat) (rec_16 : Nat → Obj) (y20 : (TT [.int .i64, .int .i64])) (y21 : (TT [.int .i64, .int .i64])) (w_17 : World) (Kt18 Kf19 : World → Prop) =>
 Nw 38 ⟨[(.int .i64 0), (.int .i64 0)]⟩ w_17 fun (b23 : Nat) (w_22 : World) =>
 StC (⟨b23, 0, none⟩ : Addr) [(.int .i64 y20.1), (.int .i64 y20.2.1)] 0 w_22 fun (w_24 : World) =>
 Nw 78 ⟨[(.int .i64 0), (.int .i64 0)]⟩ w_24 fun (b26 : Nat) (w_25 : World) =>
 StC (⟨b26, 0, none⟩ : Addr) [(.int .i64 y21.1), (.int .i64 y21.2.1)] 0 w_25 fun (w_27 : World) =>
 Beg l15 rec_16 w_27 fun (w_28 : World) =>
 IdxP (⟨b26, 0, none⟩ : Addr) 2 0 1 fun (q29 : Addr) =>
 Ld kI q29 w_28 fun (x30 : Int) =>
 ∃ (I_31 : Int → World → Prop) (m_32 : Int → World → Nat), I_31 (x30) w_28 ∧
 ∀ (i33 : Int), ∀ (w_34 : World), I_31 i33 w_34 →
 IdxP (⟨b26, 0, none⟩ : Addr) 2 1 1 fun (q35 : Addr) =>
 Ld kI q35 w_34 fun (x36 : Int) =>
 IfB (decide ((i33 : Int) < (x36 : Int)))
 (Ld (.st [.int .i64, .int .i64]) (⟨b23, 0, none⟩ : Addr) w_34 fun (x37 : (TT [.int .i64, .int .i64])) =>
 IdxP (⟨b5, 0, none⟩ : Addr) 512 i33 2 fun (q38 : Addr) =>
 StC q38 [(.int .i64 x37.1), (.int .i64 x37.2.1)] 0 w_34 fun (w_39 : World) =>
 ([] : List Nat) = ([] : List Nat) ∧ I_31 ((i64 ((i33 : Int) + (1 : Int)))) w_39 ∧ m_32 ((i64 ((i33 : Int) + (1 : Int)))) w_39 < m_32 i33 w_34)
 (EndT l15 rec_16 w_34 Kt18))
 (fun (D40 : Nat) (w_41 : World) =>
 Ld (.arr 1024) (⟨b5, 0, none⟩ : Addr) w_41 fun (x42 : (Array Value)) =>
 StA 1024 (⟨b5, 0, none⟩ : Addr) x42 w_41 fun (w_43 : World) =>
 Dfr (D40 :: [] : List Nat) w_43 fun (w_44 : World) =>
 Ld (.arr 1024) (⟨b5, 0, none⟩ : Addr) w_44 fun (res45 : (Array Value)) =>
 R (res45) (0) w_44)
 (fun (D46 : Nat) (w_47 : World) =>
 Dfr (D46 :: [] : List Nat) w_47 fun (w_48 : World) =>
 Ld (.arr 1024) (⟨b5, 0, none⟩ : Addr) w_48 fun (res49 : (Array Value)) =>
 R (res49) (0) w_48))
theorem prefixdec_Quick.ok (l1 : (Array Value)) (R : (Array Value) → Int → World → Prop) (w : World) (h : prefixdec_Quick.E l1 R w) : Cl Try.prog [(.arr 1024), kI] n_prefixdec_Quick ⟨[(.agg l1)]⟩ w R :=
  calls_of_eqR Try.mix Try.f14 [(.agg l1)] [(.arr 1024), kI] R 27 [.cell 2 39, .tmp 3] (by kernel_rfl) (by kernel_rfl) (by kernel_rfl) (by kernel_rfl) (by kernel_rfl)
    (.s .o (.s (.s .o (.c (.s .o .o) .o)) (.s (.s .o (.b (.r [(.st [.int .i64, .int .i64]), (.st [.int .i64, .int .i64])] (.s .o .o) (.b (.s .o (.b (.l [(6, kI)] (.s (.s .o (.c .o .o)) (.s (.b .o) .o))))))))) (.s .o .o))))
    (by kernel_rfl) h
/-- winepresslaw11.wakes -/
def law11_wakes.E  (R : Bool → World → Prop) (w : World) : Prop :=
 Bld Try.prog 23 [(0, (.int .u8 3)), (1, (.int .u8 3)), (2, (.int .u8 2)), (3, (.int .u8 1))] fun (cs1 : Array Value) =>
 Nw 23 ⟨List.replicate 258 (.int .u8 0)⟩ w fun (b3 : Nat) (w_2 : World) =>
 StA 258 (⟨b3, 0, none⟩ : Addr) cs1 w_2 fun (w_4 : World) =>
 Ld (.arr 258) (⟨b3, 0, none⟩ : Addr) w_4 fun (x5 : (Array Value)) =>
 Nw 3 ⟨[(.int .i64 2), (.int .i64 3), (.int .i64 0)]⟩ w_4 fun (b7 : Nat) (w_6 : World) =>
 Cl Try.prog [kS, kI, kI] n_prefixenc_Spell ⟨[(.agg x5), (.slice (⟨some ⟨b7, 0, none⟩, 3, 3⟩ : Sl).base (⟨some ⟨b7, 0, none⟩, 3, 3⟩ : Sl).len (⟨some ⟨b7, 0, none⟩, 3, 3⟩ : Sl).cap)]⟩ w_6 fun (r9 : Sl) (r10 : Int) (r11 : Int) (w_8 : World) =>
 Ld (.arr 258) (⟨b3, 0, none⟩ : Addr) w_8 fun (x12 : (Array Value)) =>
 Nw 5 ⟨[(.int .u8 152)]⟩ w_8 fun (b14 : Nat) (w_13 : World) =>
 Cl Try.prog [kS, kI] n_prefixenc_Read ⟨[(.agg x12), (.slice (⟨some ⟨b14, 0, none⟩, 1, 1⟩ : Sl).base (⟨some ⟨b14, 0, none⟩, 1, 1⟩ : Sl).len (⟨some ⟨b14, 0, none⟩, 1, 1⟩ : Sl).cap), (.int .i64 6)]⟩ w_13 fun (r16 : Sl) (r17 : Int) (w_15 : World) =>
 Ld (.arr 258) (⟨b3, 0, none⟩ : Addr) w_15 fun (x18 : (Array Value)) =>
 Nw 5 ⟨[(.int .u8 152)]⟩ w_15 fun (b20 : Nat) (w_19 : World) =>
 Cl Try.prog [kS, kI] n_prefixenc_Read ⟨[(.agg x18), (.slice (⟨some ⟨b20, 0, none⟩, 1, 1⟩ : Sl).base (⟨some ⟨b20, 0, none⟩, 1, 1⟩ : Sl).len (⟨some ⟨b20, 0, none⟩, 1, 1⟩ : Sl).cap), (.int .i64 9)]⟩ w_19 fun (r22 : Sl) (r23 : Int) (w_21 : World) =>
 Ld (.arr 258) (⟨b3, 0, none⟩ : Addr) w_21 fun (x24 : (Array Value)) =>
 Nw 5 ⟨[(.int .u8 192)]⟩ w_21 fun (b26 : Nat) (w_25 : World) =>
 Cl Try.prog [kS, kI] n_prefixenc_Read ⟨[(.agg x24), (.slice (⟨some ⟨b26, 0, none⟩, 1, 1⟩ : Sl).base (⟨some ⟨b26, 0, none⟩, 1, 1⟩ : Sl).len (⟨some ⟨b26, 0, none⟩, 1, 1⟩ : Sl).cap), (.int .i64 2)]⟩ w_25 fun (r28 : Sl) (r29 : Int) (w_27 : World) =>
 Ld (.arr 258) (⟨b3, 0, none⟩ : Addr) w_27 fun (x30 : (Array Value)) =>
 Nw 3 ⟨[(.int .i64 4)]⟩ w_27 fun (b32 : Nat) (w_31 : World) =>
 Cl Try.prog [kI, kI] n_prefixenc_Size ⟨[(.agg x30), (.slice (⟨some ⟨b32, 0, none⟩, 1, 1⟩ : Sl).base (⟨some ⟨b32, 0, none⟩, 1, 1⟩ : Sl).len (⟨some ⟨b32, 0, none⟩, 1, 1⟩ : Sl).cap)]⟩ w_31 fun (r34 : Int) (r35 : Int) (w_33 : World) =>
 Ld (.arr 258) (⟨b3, 0, none⟩ : Addr) w_33 fun (x36 : (Array Value)) =>
 Nw 3 ⟨[(.int .i64 2), (.int .i64 3), (.int .i64 0)]⟩ w_33 fun (b38 : Nat) (w_37 : World) =>
 Cl Try.prog [kI, kI] n_prefixenc_Size ⟨[(.agg x36), (.slice (⟨some ⟨b38, 0, none⟩, 3, 3⟩ : Sl).base (⟨some ⟨b38, 0, none⟩, 3, 3⟩ : Sl).len (⟨some ⟨b38, 0, none⟩, 3, 3⟩ : Sl).cap)]⟩ w_37 fun (r40 : Int) (r41 : Int) (w_39 : World) =>
 Cl Try.prog [kP] n_bitwriter_New ⟨[]⟩ w_39 fun (r43 : (Option Addr)) (w_42 : World) =>
 IfB (Option.isNone (r43 : Option Addr))
 (R (false) w_42)
 (Cl Try.prog [kB] n_bitwriter_Writer_Put ⟨[(.pointer r43), (.int .u32 1), (.int .i64 1)]⟩ w_42 fun (r45 : Bool) (w_44 : World) =>
 Ld (.arr 258) (⟨b3, 0, none⟩ : Addr) w_44 fun (x46 : (Array Value)) =>
 Nw 3 ⟨[(.int .i64 2), (.int .i64 3)]⟩ w_44 fun (b48 : Nat) (w_47 : World) =>
 Cl Try.prog [kI] n_prefixenc_Put ⟨[(.pointer r43), (.agg x46), (.slice (⟨some ⟨b48, 0, none⟩, 2, 2⟩ : Sl).base (⟨some ⟨b48, 0, none⟩, 2, 2⟩ : Sl).len (⟨some ⟨b48, 0, none⟩, 2, 2⟩ : Sl).cap)]⟩ w_47 fun (r50 : Int) (w_49 : World) =>
 Ld (.arr 258) (⟨b3, 0, none⟩ : Addr) w_49 fun (x51 : (Array Value)) =>
 Nw 3 ⟨[(.int .i64 9)]⟩ w_49 fun (b53 : Nat) (w_52 : World) =>
 Cl Try.prog [kI] n_prefixenc_Put ⟨[(.pointer r43), (.agg x51), (.slice (⟨some ⟨b53, 0, none⟩, 1, 1⟩ : Sl).base (⟨some ⟨b53, 0, none⟩, 1, 1⟩ : Sl).len (⟨some ⟨b53, 0, none⟩, 1, 1⟩ : Sl).cap)]⟩ w_52 fun (r55 : Int) (w_54 : World) =>
 Ld (.arr 258) (⟨b3, 0, none⟩ : Addr) w_54 fun (x56 : (Array Value)) =>
 Nw 3 ⟨[(.int .i64 2)]⟩ w_54 fun (b58 : Nat) (w_57 : World) =>
 Cl Try.prog [kI] n_prefixenc_Put ⟨[(.pointer none), (.agg x56), (.slice (⟨some ⟨b58, 0, none⟩, 1, 1⟩ : Sl).base (⟨some ⟨b58, 0, none⟩, 1, 1⟩ : Sl).len (⟨some ⟨b58, 0, none⟩, 1, 1⟩ : Sl).cap)]⟩ w_57 fun (r60 : Int) (w_59 : World) =>
 Ld (.arr 258) (⟨b3, 0, none⟩ : Addr) w_59 fun (x61 : (Array Value)) =>
 Cl Try.prog [kI] n_prefixenc_Put ⟨[(.pointer none), (.agg x61), (.slice none 0 0)]⟩ w_59 fun (r63 : Int) (w_62 : World) =>
 Run Try.prog (convert 44 9 (.slice r9.base r9.len r9.cap)) kStr w_62 fun (s65 : ByteArray) (w_64 : World) =>
 IfB ((s65).toList == ((ByteArray.mk #[152])).toList)
 (IfB ((r10 : Int) == (6 : Int))
 (IfB ((r11 : Int) == (0 : Int))
 (IfB ((r17 : Int) == (0 : Int))
 (Nw 3 ⟨[(.int .i64 2), (.int .i64 3), (.int .i64 0)]⟩ w_64 fun (b67 : Nat) (w_66 : World) =>
 Cl Try.prog [kB] n_ref07_Ints ⟨[(.slice r16.base r16.len r16.cap), (.slice (⟨some ⟨b67, 0, none⟩, 3, 3⟩ : Sl).base (⟨some ⟨b67, 0, none⟩, 3, 3⟩ : Sl).len (⟨some ⟨b67, 0, none⟩, 3, 3⟩ : Sl).cap)]⟩ w_66 fun (r69 : Bool) (w_68 : World) =>
 IfB r69
 (IfB ((r23 : Int) == (2 : Int))
 (IfB ((r29 : Int) == (2 : Int))
 (IfB ((r35 : Int) == (2 : Int))
 (IfB ((r40 : Int) == (6 : Int))
 (IfB ((r41 : Int) == (0 : Int))
 (IfB ((r50 : Int) == (0 : Int))
 (Cl Try.prog [kS] n_bitwriter_Writer_Bytes ⟨[(.pointer r43)]⟩ w_68 fun (r71 : Sl) (w_70 : World) =>
 Run Try.prog (convert 44 9 (.slice r71.base r71.len r71.cap)) kStr w_70 fun (s73 : ByteArray) (w_72 : World) =>
 IfB ((s73).toList == ((ByteArray.mk #[192])).toList)
 (Cl Try.prog [kI] n_bitwriter_Writer_Len ⟨[(.pointer r43)]⟩ w_72 fun (r75 : Int) (w_74 : World) =>
 IfB ((r75 : Int) == (4 : Int))
 (IfB ((r55 : Int) == (2 : Int))
 (IfB ((r60 : Int) == (2 : Int))
 (R (((r63 : Int) == (2 : Int))) w_74)
 (R (false) w_74))
 (R (false) w_74))
 (R (false) w_74))
 (R (false) w_72))
 (R (false) w_68))
 (R (false) w_68))
 (R (false) w_68))
 (R (false) w_68))
 (R (false) w_68))
 (R (false) w_68))
 (R (false) w_68))
 (R (false) w_64))
 (R (false) w_64))
 (R (false) w_64))
 (R (false) w_64))
theorem law11_wakes.ok  (R : Bool → World → Prop) (w : World) (h : law11_wakes.E  R w) : Cl Try.prog [kB] n_law11_wakes ⟨[]⟩ w R :=
  calls_of_eq Try.mix Try.f15 [] [kB] R 143 [.tmp 0] (by kernel_rfl) (by kernel_rfl) (by kernel_rfl) (by kernel_rfl) (by kernel_rfl)
    (.s .o (.s .o (.s .o (.s .o (.s .o (.s .o (.s .o (.s .o (.s .o (.s (.s .o (.c (.s .o .o) .o)) (.s .o (.s .o (.s .o (.s .o (.s .o (.s .o .o))))))))))))))))
    (by kernel_rfl) h
/-- prefixenc.Spell -/
def prefixenc_Spell.E (l1 : (Array Value)) (symbols2 : Sl) (R : Sl → Int → Int → World → Prop) (w : World) : Prop :=
 Nw 23 l1 w fun (b4 : Nat) (w_3 : World) =>
 Cl Try.prog [kP] n_bitwriter_New ⟨[]⟩ w_3 fun (r6 : (Option Addr)) (w_5 : World) =>
 Ld (.arr 258) (⟨b4, 0, none⟩ : Addr) w_5 fun (x7 : (Array Value)) =>
 Cl Try.prog [kI] n_prefixenc_Put ⟨[(.pointer r6), (.agg x7), (.slice symbols2.base symbols2.len symbols2.cap)]⟩ w_5 fun (r9 : Int) (w_8 : World) =>
 IfB ((r9 : Int) != (0 : Int))
 (R ((⟨none, 0, 0⟩ : Sl)) (0) (r9) w_8)
 (Cl Try.prog [kS] n_bitwriter_Writer_Bytes ⟨[(.pointer r6)]⟩ w_8 fun (r11 : Sl) (w_10 : World) =>
 Cl Try.prog [kI] n_bitwriter_Writer_Len ⟨[(.pointer r6)]⟩ w_10 fun (r13 : Int) (w_12 : World) =>
 R (r11) (r13) (0) w_12)
theorem prefixenc_Spell.ok (l1 : (Array Value)) (symbols2 : Sl) (R : Sl → Int → Int → World → Prop) (w : World) (h : prefixenc_Spell.E l1 symbols2 R w) : Cl Try.prog [kS, kI, kI] n_prefixenc_Spell ⟨[(.agg l1), (.slice symbols2.base symbols2.len symbols2.cap)]⟩ w R :=
  calls_of_eq Try.mix Try.f16 [(.agg l1), (.slice symbols2.base symbols2.len symbols2.cap)] [kS, kI, kI] R 20 [.tmp 4, .tmp 5, .tmp 6] (by kernel_rfl) (by kernel_rfl) (by kernel_rfl) (by kernel_rfl) (by kernel_rfl)
    (.s .o (.s .o (.s (.s .o (.s .o (.c (.s .o .o) .o))) (.s .o .o))))
    (by kernel_rfl) h
/-- winepressref11.Spell -/
def ref11_Spell.E (l1 : (Array Value)) (symbols2 : Sl) (R : Sl → Int → Int → World → Prop) (w : World) : Prop :=
 Nw 23 l1 w fun (b4 : Nat) (w_3 : World) =>
 Ld (.arr 258) (⟨b4, 0, none⟩ : Addr) w_3 fun (x5 : (Array Value)) =>
 Cl Try.prog [kS, kB] n_ref11_Bits ⟨[(.agg x5), (.slice symbols2.base symbols2.len symbols2.cap)]⟩ w_3 fun (r7 : Sl) (r8 : Bool) (w_6 : World) =>
 IfB (!r8)
 (R ((⟨none, 0, 0⟩ : Sl)) (0) (2) w_6)
 (Cl Try.prog [kS] n_ref11_Bytes ⟨[(.slice r7.base r7.len r7.cap)]⟩ w_6 fun (r10 : Sl) (w_9 : World) =>
 R (r10) ((r7.len : Int)) (0) w_9)
theorem ref11_Spell.ok (l1 : (Array Value)) (symbols2 : Sl) (R : Sl → Int → Int → World → Prop) (w : World) (h : ref11_Spell.E l1 symbols2 R w) : Cl Try.prog [kS, kI, kI] n_ref11_Spell ⟨[(.agg l1), (.slice symbols2.base symbols2.len symbols2.cap)]⟩ w R :=
  calls_of_eq Try.mix Try.f17 [(.agg l1), (.slice symbols2.base symbols2.len symbols2.cap)] [kS, kI, kI] R 21 [.tmp 4, .tmp 5, .tmp 6] (by kernel_rfl) (by kernel_rfl) (by kernel_rfl) (by kernel_rfl) (by kernel_rfl)
    (.s .o (.s .o (.s (.s .o (.c (.s .o .o) .o)) (.s .o .o))))
    (by kernel_rfl) h
/-- prefixenc.Size -/
def prefixenc_Size.E (l1 : (Array Value)) (symbols2 : Sl) (R : Int → Int → World → Prop) (w : World) : Prop :=
 Nw 23 l1 w fun (b4 : Nat) (w_3 : World) =>
 Ld (.arr 258) (⟨b4, 0, none⟩ : Addr) w_3 fun (x5 : (Array Value)) =>
 Cl Try.prog [kB] n_canonical_Valid ⟨[(.agg x5)]⟩ w_3 fun (r7 : Bool) (w_6 : World) =>
 IfB (!r7)
 (R (0) (2) w_6)
 (∃ (I_8 : Int → Int → World → Prop) (m_9 : Int → Int → World → Nat), I_8 (0) (0) w_6 ∧
 ∀ (n10 : Int) (t13_11 : Int), ∀ (w_12 : World), I_8 n10 t13_11 w_12 →
 IfB (decide ((t13_11 : Int) < ((symbols2.len : Int) : Int)))
 (Idx symbols2 t13_11 1 fun (q13 : Addr) =>
 Ld kI q13 w_12 fun (x14 : Int) =>
 IfB (decide ((x14 : Int) < (0 : Int)))
 (R (0) (2) w_12)
 (IfB (decide ((x14 : Int) ≥ (258 : Int)))
 (R (0) (2) w_12)
 (IdxP (⟨b4, 0, none⟩ : Addr) 258 x14 1 fun (q15 : Addr) =>
 Ld (kInt .u8) q15 w_12 fun (x16 : Int) =>
 IfB ((x16 : Int) == (0 : Int))
 (R (0) (2) w_12)
 (IdxP (⟨b4, 0, none⟩ : Addr) 258 x14 1 fun (q17 : Addr) =>
 Ld (kInt .u8) q17 w_12 fun (x18 : Int) =>
 I_8 ((i64 ((n10 : Int) + ((i64 x18) : Int)))) ((i64 ((t13_11 : Int) + (1 : Int)))) w_12 ∧ m_9 ((i64 ((n10 : Int) + ((i64 x18) : Int)))) ((i64 ((t13_11 : Int) + (1 : Int)))) w_12 < m_9 n10 t13_11 w_12))))
 (R (n10) (0) w_12))
theorem prefixenc_Size.ok (l1 : (Array Value)) (symbols2 : Sl) (R : Int → Int → World → Prop) (w : World) (h : prefixenc_Size.E l1 symbols2 R w) : Cl Try.prog [kI, kI] n_prefixenc_Size ⟨[(.agg l1), (.slice symbols2.base symbols2.len symbols2.cap)]⟩ w R :=
  calls_of_eq Try.mix Try.f18 [(.agg l1), (.slice symbols2.base symbols2.len symbols2.cap)] [kI, kI] R 37 [.tmp 4, .tmp 5] (by kernel_rfl) (by kernel_rfl) (by kernel_rfl) (by kernel_rfl) (by kernel_rfl)
    (.s .o (.s (.s .o (.c (.s .o .o) .o)) (.s (.s .o (.b (.l [(4, kI), (13, kI)] (.s .o (.s (.c .o .o) (.s (.b (.s .o (.s (.s .o (.c (.s .o .o) .o)) .o))) .o)))))) (.s .o .o))))
    (by kernel_rfl) h
/-- winepressref11.Size -/
def ref11_Size.E (l1 : (Array Value)) (symbols2 : Sl) (R : Int → Int → World → Prop) (w : World) : Prop :=
 Nw 23 l1 w fun (b4 : Nat) (w_3 : World) =>
 Ld (.arr 258) (⟨b4, 0, none⟩ : Addr) w_3 fun (x5 : (Array Value)) =>
 Cl Try.prog [kS, kB] n_ref11_Bits ⟨[(.agg x5), (.slice symbols2.base symbols2.len symbols2.cap)]⟩ w_3 fun (r7 : Sl) (r8 : Bool) (w_6 : World) =>
 IfB (!r8)
 (R (0) (2) w_6)
 (R ((r7.len : Int)) (0) w_6)
theorem ref11_Size.ok (l1 : (Array Value)) (symbols2 : Sl) (R : Int → Int → World → Prop) (w : World) (h : ref11_Size.E l1 symbols2 R w) : Cl Try.prog [kI, kI] n_ref11_Size ⟨[(.agg l1), (.slice symbols2.base symbols2.len symbols2.cap)]⟩ w R :=
  calls_of_eq Try.mix Try.f19 [(.agg l1), (.slice symbols2.base symbols2.len symbols2.cap)] [kI, kI] R 18 [.tmp 4, .tmp 5] (by kernel_rfl) (by kernel_rfl) (by kernel_rfl) (by kernel_rfl) (by kernel_rfl)
    (.s .o (.s .o (.s (.s .o (.c (.s .o .o) .o)) (.s .o .o))))
    (by kernel_rfl) h
/-- prefixenc.Read -/
def prefixenc_Read.E (l1 : (Array Value)) (b2 : Sl) (many3 : Int) (R : Sl → Int → World → Prop) (w : World) : Prop :=
 Nw 23 l1 w fun (b5 : Nat) (w_4 : World) =>
 Ld (.arr 258) (⟨b5, 0, none⟩ : Addr) w_4 fun (x6 : (Array Value)) =>
 Cl Try.prog [(.arr 258), kI] n_canonical_Codes ⟨[(.agg x6)]⟩ w_4 fun (r8 : (Array Value)) (r9 : Int) (w_7 : World) =>
 Nw 80 ⟨List.replicate 258 (.int .u32 0)⟩ w_7 fun (b11 : Nat) (w_10 : World) =>
 StA 258 (⟨b11, 0, none⟩ : Addr) r8 w_10 fun (w_12 : World) =>
 Join (fun (out14 : Sl) (w_15 : World) =>
 Run Try.prog (Instr.makeMap 83 none) kM w_15 fun (m_17 : Option Nat) (w_16 : World) =>
 Ld (.arr 258) (⟨b5, 0, none⟩ : Addr) w_16 fun (x18 : (Array Value)) =>
 Cl Try.prog [kS] n_canonical_Order ⟨[(.agg x18)]⟩ w_16 fun (r20 : Sl) (w_19 : World) =>
 ∃ (I_21 : Int → World → Prop) (m_22 : Int → World → Nat), I_21 (0) w_19 ∧
 ∀ (t38_23 : Int), ∀ (w_24 : World), I_21 t38_23 w_24 →
 IfB (decide ((t38_23 : Int) < ((r20.len : Int) : Int)))
 (Idx r20 t38_23 1 fun (q25 : Addr) =>
 Ld kI q25 w_24 fun (x26 : Int) =>
 Drw w_24 fun (w_27 : World) =>
 IdxP (⟨b11, 0, none⟩ : Addr) 258 x26 1 fun (q28 : Addr) =>
 Ld (kInt .u32) q28 w_27 fun (x29 : Int) =>
 IdxP (⟨b5, 0, none⟩ : Addr) 258 x26 1 fun (q30 : Addr) =>
 Ld (kInt .u8) q30 w_27 fun (x31 : Int) =>
 Run Try.prog (do Instr.mapUpdate 83 (.map m_17) (.agg ⟨[(.int .u32 x29), (.int .u8 x31)]⟩) (.int .i64 x26); pure undef) kV w_27 fun (_ : Value) (w_32 : World) =>
 I_21 ((i64 ((t38_23 : Int) + (1 : Int)))) w_32 ∧ m_22 ((i64 ((t38_23 : Int) + (1 : Int)))) w_32 < m_22 t38_23 w_24)
 (Nw 86 ⟨[(.int .u32 0), (.int .u8 0)]⟩ w_24 fun (b34 : Nat) (w_33 : World) =>
 ∃ (I_35 : Sl → Int → World → Prop) (m_36 : Sl → Int → World → Nat), I_35 (out14) (0) w_33 ∧
 ∀ (out37 : Sl) (t53_38 : Int), ∀ (w_39 : World), I_35 out37 t53_38 w_39 →
 IfB (decide ((t53_38 : Int) < (many3 : Int)))
 (Drw w_39 fun (w_40 : World) =>
 Ld (kInt .u32) ((⟨b34, 0, none⟩ : Addr).add 0) w_40 fun (bits41 : Int) =>
 0 ≤ (1 : Int) ∧
 0 ≤ (3 : Int) ∧
 Idx b2 (ishr .i64 (t53_38 : Int) (3 : Int)) 1 fun (q42 : Addr) =>
 Ld (kInt .u8) q42 w_40 fun (x43 : Int) =>
 0 ≤ ((i64 ((7 : Int) - ((iand .i64 (t53_38 : Int) (7 : Int)) : Int))) : Int) ∧
 Ld (kInt .u8) ((⟨b34, 0, none⟩ : Addr).add 1) w_40 fun (length44 : Int) =>
 StC (⟨b34, 0, none⟩ : Addr) [(.int .u32 (ior .u32 ((ishl .u32 (bits41 : Int) (1 : Int)) : Int) ((u32 (iand .u8 ((ishr .u8 (x43 : Int) ((i64 ((7 : Int) - ((iand .i64 (t53_38 : Int) (7 : Int)) : Int))) : Int)) : Int) (1 : Int))) : Int))), (.int .u8 (u8 ((length44 : Int) + (1 : Int))))] 0 w_40 fun (w_45 : World) =>
 Ld (.st [.int .u32, .int .u8]) (⟨b34, 0, none⟩ : Addr) w_45 fun (x46 : (TT [.int .u32, .int .u8])) =>
 RunR Try.prog (Instr.lookup 83 (.map m_17) (.agg ⟨[(.int .u32 x46.1), (.int .u8 x46.2.1)]⟩) true) [kI, kB] w_45 fun (e48 : Int) (e49 : Bool) (w_47 : World) =>
 IfB e49
 (Nw 3 ⟨[(.int .i64 e48)]⟩ w_47 fun (b51 : Nat) (w_50 : World) =>
 Run Try.prog (Builtin.append_ #[24, 24] 24 ⟨[(.slice out37.base out37.len out37.cap), (.slice (⟨some ⟨b51, 0, none⟩, 1, 1⟩ : Sl).base (⟨some ⟨b51, 0, none⟩, 1, 1⟩ : Sl).len (⟨some ⟨b51, 0, none⟩, 1, 1⟩ : Sl).cap)]⟩) kS w_50 fun (s53 : Sl) (w_52 : World) =>
 StC (⟨b34, 0, none⟩ : Addr) [(.int .u32 0), (.int .u8 0)] 0 w_52 fun (w_54 : World) =>
 Ld (kInt .u8) ((⟨b34, 0, none⟩ : Addr).add 1) w_54 fun (length55 : Int) =>
 IfB (decide ((length55 : Int) > (15 : Int)))
 (R ((⟨none, 0, 0⟩ : Sl)) (2) w_54)
 (I_35 (s53) ((i64 ((t53_38 : Int) + (1 : Int)))) w_54 ∧ m_36 (s53) ((i64 ((t53_38 : Int) + (1 : Int)))) w_54 < m_36 out37 t53_38 w_39))
 (Ld (kInt .u8) ((⟨b34, 0, none⟩ : Addr).add 1) w_47 fun (length56 : Int) =>
 IfB (decide ((length56 : Int) > (15 : Int)))
 (R ((⟨none, 0, 0⟩ : Sl)) (2) w_47)
 (I_35 (out37) ((i64 ((t53_38 : Int) + (1 : Int)))) w_47 ∧ m_36 (out37) ((i64 ((t53_38 : Int) + (1 : Int)))) w_47 < m_36 out37 t53_38 w_39)))
 (Ld (kInt .u8) ((⟨b34, 0, none⟩ : Addr).add 1) w_39 fun (length57 : Int) =>
 IfB (decide ((length57 : Int) > (0 : Int)))
 (R ((⟨none, 0, 0⟩ : Sl)) (2) w_39)
 (R (out37) (0) w_39)))) fun (K_13 : Sl → World → Prop) =>
 IfB ((r9 : Int) != (0 : Int))
 (R ((⟨none, 0, 0⟩ : Sl)) (2) w_12)
 (IfB (decide ((many3 : Int) < (0 : Int)))
 (R ((⟨none, 0, 0⟩ : Sl)) (2) w_12)
 (0 ≤ (3 : Int) ∧
 IfB (decide ((many3 : Int) > ((ishl .i64 ((b2.len : Int) : Int) (3 : Int)) : Int)))
 (R ((⟨none, 0, 0⟩ : Sl)) (2) w_12)
 (K_13 ((⟨none, 0, 0⟩ : Sl)) w_12)))
theorem prefixenc_Read.ok (l1 : (Array Value)) (b2 : Sl) (many3 : Int) (R : Sl → Int → World → Prop) (w : World) (h : prefixenc_Read.E l1 b2 many3 R w) : Cl Try.prog [kS, kI] n_prefixenc_Read ⟨[(.agg l1), (.slice b2.base b2.len b2.cap), (.int .i64 many3)]⟩ w R :=
  calls_of_eq Try.mix Try.f20 [(.agg l1), (.slice b2.base b2.len b2.cap), (.int .i64 many3)] [kS, kI] R 95 [.tmp 6, .tmp 7] (by kernel_rfl) (by kernel_rfl) (by kernel_rfl) (by kernel_rfl) (by kernel_rfl)
    (.s .o (.s .o (.j [(6, kS)] (.s .o (.c (.s .o .o) .o)) (.s .o (.s (.s .o (.b (.l [(38, kI)] (.s .o (.s (.c .o .o) (.s (.b (.s .o .o)) .o)))))) (.s .o (.s (.s .o (.b (.l [(6, kS), (53, kI)] (.s .o (.s (.c .o .o) (.s (.b (.s .o (.s .o (.s (.s .o (.s .o (.c .o .o))) (.s .o (.c (.s .o .o) .o)))))) .o)))))) (.s (.s .o (.c (.s .o .o) .o)) (.s .o .o)))))))))
    (by kernel_rfl) h
/-- winepressref11.Read -/
def ref11_Read.E (l1 : (Array Value)) (b2 : Sl) (many3 : Int) (R : Sl → Int → World → Prop) (w : World) : Prop :=
 Nw 23 l1 w fun (b5 : Nat) (w_4 : World) =>
 Join (fun (w_10 : World) =>
 ∃ (I_11 : Sl → Int → Int → Int → World → Prop) (m_12 : Sl → Int → Int → Int → World → Nat), I_11 ((⟨none, 0, 0⟩ : Sl)) (0) (0) (0) w_10 ∧
 ∀ (out13 : Sl) (code14 : Int) (n15 : Int) (i16 : Int), ∀ (w_17 : World), I_11 out13 code14 n15 i16 w_17 →
 IfB (decide ((i16 : Int) < (many3 : Int)))
 (Cl Try.prog [kI] n_ref03_Bit ⟨[(.slice b2.base b2.len b2.cap), (.int .i64 i16)]⟩ w_17 fun (r19 : Int) (w_18 : World) =>
 Ld (.arr 258) (⟨b5, 0, none⟩ : Addr) w_18 fun (x20 : (Array Value)) =>
 Cl Try.prog [kI, kB] n_ref09_Find ⟨[(.agg x20), (.int .u32 (u32 (((u32 ((2 : Int) * (code14 : Int))) : Int) + ((u32 r19) : Int)))), (.int .i64 (i64 ((n15 : Int) + (1 : Int))))]⟩ w_18 fun (r22 : Int) (r23 : Bool) (w_21 : World) =>
 IfB r23
 (Nw 3 ⟨[(.int .i64 r22)]⟩ w_21 fun (b25 : Nat) (w_24 : World) =>
 Run Try.prog (Builtin.append_ #[24, 24] 24 ⟨[(.slice out13.base out13.len out13.cap), (.slice (⟨some ⟨b25, 0, none⟩, 1, 1⟩ : Sl).base (⟨some ⟨b25, 0, none⟩, 1, 1⟩ : Sl).len (⟨some ⟨b25, 0, none⟩, 1, 1⟩ : Sl).cap)]⟩) kS w_24 fun (s27 : Sl) (w_26 : World) =>
 IfB (decide ((0 : Int) > (15 : Int)))
 (R ((⟨none, 0, 0⟩ : Sl)) (2) w_26)
 (I_11 (s27) (0) (0) ((i64 ((i16 : Int) + (1 : Int)))) w_26 ∧ m_12 (s27) (0) (0) ((i64 ((i16 : Int) + (1 : Int)))) w_26 < m_12 out13 code14 n15 i16 w_17))
 (IfB (decide (((i64 ((n15 : Int) + (1 : Int))) : Int) > (15 : Int)))
 (R ((⟨none, 0, 0⟩ : Sl)) (2) w_21)
 (I_11 (out13) ((u32 (((u32 ((2 : Int) * (code14 : Int))) : Int) + ((u32 r19) : Int)))) ((i64 ((n15 : Int) + (1 : Int)))) ((i64 ((i16 : Int) + (1 : Int)))) w_21 ∧ m_12 (out13) ((u32 (((u32 ((2 : Int) * (code14 : Int))) : Int) + ((u32 r19) : Int)))) ((i64 ((n15 : Int) + (1 : Int)))) ((i64 ((i16 : Int) + (1 : Int)))) w_21 < m_12 out13 code14 n15 i16 w_17)))
 (IfB (decide ((n15 : Int) > (0 : Int)))
 (R ((⟨none, 0, 0⟩ : Sl)) (2) w_17)
 (R (out13) (0) w_17))) fun (K_6 : World → Prop) =>
 Ld (.arr 258) (⟨b5, 0, none⟩ : Addr) w_4 fun (x7 : (Array Value)) =>
 Cl Try.prog [kB] n_ref09_Valid ⟨[(.agg x7)]⟩ w_4 fun (r9 : Bool) (w_8 : World) =>
 IfB (!r9)
 (R ((⟨none, 0, 0⟩ : Sl)) (2) w_8)
 (IfB (decide ((many3 : Int) < (0 : Int)))
 (R ((⟨none, 0, 0⟩ : Sl)) (2) w_8)
 (IfB (decide ((many3 : Int) > ((i64 ((8 : Int) * ((b2.len : Int) : Int))) : Int)))
 (R ((⟨none, 0, 0⟩ : Sl)) (2) w_8)
 (K_6  w_8)))
theorem ref11_Read.ok (l1 : (Array Value)) (b2 : Sl) (many3 : Int) (R : Sl → Int → World → Prop) (w : World) (h : ref11_Read.E l1 b2 many3 R w) : Cl Try.prog [kS, kI] n_ref11_Read ⟨[(.agg l1), (.slice b2.base b2.len b2.cap), (.int .i64 many3)]⟩ w R :=
  calls_of_eq Try.mix Try.f21 [(.agg l1), (.slice b2.base b2.len b2.cap), (.int .i64 many3)] [kS, kI] R 59 [.tmp 6, .tmp 7] (by kernel_rfl) (by kernel_rfl) (by kernel_rfl) (by kernel_rfl) (by kernel_rfl)
    (.s .o (.j [] (.s .o (.c (.s .o .o) .o)) (.s .o (.s .o (.s (.s .o (.b (.l [(8, kS), (9, (kInt .u32)), (10, kI), (11, kI)] (.s (.s .o (.c .o .o)) (.s (.b (.s .o (.s .o (.s .o (.s (.s .o (.c (.s .o (.s .o .o)) .o)) (.s .o (.c (.s .o .o) .o))))))) .o))))) (.s (.s .o (.c (.s .o .o) .o)) (.s .o .o)))))))
    (by kernel_rfl) h
/-- winepressref07.Ints -/
def ref07_Ints.E (a1 : Sl) (b2 : Sl) (R : Bool → World → Prop) (w : World) : Prop :=
 IfB (((a1.len : Int) : Int) != ((b2.len : Int) : Int))
 (R (false) w)
 (∃ (I_3 : Int → World → Prop) (m_4 : Int → World → Nat), I_3 (0) w ∧
 ∀ (i5 : Int), ∀ (w_6 : World), I_3 i5 w_6 →
 IfB (decide ((i5 : Int) < ((a1.len : Int) : Int)))
 (Drw w_6 fun (w_7 : World) =>
 Idx a1 i5 1 fun (q8 : Addr) =>
 Ld kI q8 w_7 fun (x9 : Int) =>
 Idx b2 i5 1 fun (q10 : Addr) =>
 Ld kI q10 w_7 fun (x11 : Int) =>
 IfB ((x9 : Int) != (x11 : Int))
 (R (false) w_7)
 (I_3 ((i64 ((i5 : Int) + (1 : Int)))) w_7 ∧ m_4 ((i64 ((i5 : Int) + (1 : Int)))) w_7 < m_4 i5 w_6))
 (R (true) w_6))
theorem ref07_Ints.ok (a1 : Sl) (b2 : Sl) (R : Bool → World → Prop) (w : World) (h : ref07_Ints.E a1 b2 R w) : Cl Try.prog [kB] n_ref07_Ints ⟨[(.slice a1.base a1.len a1.cap), (.slice b2.base b2.len b2.cap)]⟩ w R :=
  calls_of_eq Try.mix Try.f22 [(.slice a1.base a1.len a1.cap), (.slice b2.base b2.len b2.cap)] [kB] R 26 [.tmp 4] (by kernel_rfl) (by kernel_rfl) (by kernel_rfl) (by kernel_rfl) (by kernel_rfl)
    (.s .o (.s (.s .o (.c (.s .o .o) .o)) (.s (.s .o (.b (.l [(5, kI)] (.s (.s .o (.c .o .o)) (.s (.b (.s .o (.c (.s .o .o) .o))) .o))))) (.s .o .o))))
    (by kernel_rfl) h
/-- bitwriter.New -/
def bitwriter_New.E  (R : (Option Addr) → World → Prop) (w : World) : Prop :=
 Nw 90 ⟨[(.slice none 0 0), (.int .i64 0)]⟩ w fun (b2 : Nat) (w_1 : World) =>
 R ((some (⟨b2, 0, none⟩ : Addr))) w_1
theorem bitwriter_New.ok  (R : (Option Addr) → World → Prop) (w : World) (h : bitwriter_New.E  R w) : Cl Try.prog [kP] n_bitwriter_New ⟨[]⟩ w R :=
  calls_of_eq Try.mix Try.f23 [] [kP] R 3 [.tmp 0] (by kernel_rfl) (by kernel_rfl) (by kernel_rfl) (by kernel_rfl) (by kernel_rfl)
    (.s .o (.s .o .o))
    (by kernel_rfl) h
/-- winepressref03.Bit -/
def ref03_Bit.E (b1 : Sl) (i2 : Int) (R : Int → World → Prop) (w : World) : Prop :=
 (8 : Int) ≠ 0 ∧
 Idx b1 (i64 (Int.tdiv (i2 : Int) (8 : Int))) 1 fun (q3 : Addr) =>
 Ld (kInt .u8) q3 w fun (x4 : Int) =>
 (8 : Int) ≠ 0 ∧
 ∃ (I_5 : Int → Int → World → Prop) (m_6 : Int → Int → World → Nat), I_5 ((i64 x4)) ((Int.tmod (i2 : Int) (8 : Int))) w ∧
 ∀ (c7 : Int) (k8 : Int), ∀ (w_9 : World), I_5 c7 k8 w_9 →
 IfB (decide ((k8 : Int) < (7 : Int)))
 ((2 : Int) ≠ 0 ∧
 I_5 ((i64 (Int.tdiv (c7 : Int) (2 : Int)))) ((i64 ((k8 : Int) + (1 : Int)))) w_9 ∧ m_6 ((i64 (Int.tdiv (c7 : Int) (2 : Int)))) ((i64 ((k8 : Int) + (1 : Int)))) w_9 < m_6 c7 k8 w_9)
 ((2 : Int) ≠ 0 ∧
 R ((Int.tmod (c7 : Int) (2 : Int))) w_9)
theorem ref03_Bit.ok (b1 : Sl) (i2 : Int) (R : Int → World → Prop) (w : World) (h : ref03_Bit.E b1 i2 R w) : Cl Try.prog [kI] n_ref03_Bit ⟨[(.slice b1.base b1.len b1.cap), (.int .i64 i2)]⟩ w R :=
  calls_of_eq Try.mix Try.f24 [(.slice b1.base b1.len b1.cap), (.int .i64 i2)] [kI] R 23 [.tmp 4] (by kernel_rfl) (by kernel_rfl) (by kernel_rfl) (by kernel_rfl) (by kernel_rfl)
    (.s .o (.s .o (.s (.s .o (.b (.l [(5, kI), (6, kI)] (.s (.s .o (.c .o .o)) (.s (.b .o) .o))))) (.s .o .o))))
    (by kernel_rfl) h
/-- (*bitwriter.Writer).Put -/
def bitwriter_Writer_Put.E (w_1 : (Option Addr)) (v2 : Int) (width3 : Int) (R : Bool → World → Prop) (w : World) : Prop :=
 Nw 54 ⟨[(.pointer w_1)]⟩ w fun (b5 : Nat) (w_4 : World) =>
 Ld kP (⟨b5, 0, none⟩ : Addr) w_4 fun (x6 : (Option Addr)) =>
 IfB (Option.isNone (x6 : Option Addr))
 (R (false) w_4)
 (Cl Try.prog [kB] n_bitwriter_fits ⟨[(.int .u32 v2), (.int .i64 width3)]⟩ w_4 fun (r8 : Bool) (w_7 : World) =>
 IfB (!r8)
 (R (false) w_7)
 (Cl Try.prog [kV] n_bitwriter_down ⟨[(.int .u32 v2), (.int .i64 width3)]⟩ w_7 fun (r10 : Value) (w_9 : World) =>
 Rng Try.prog r10 [(kInt .u8)] w_9 (fun (l11 : Nat) (rec_12 : Nat → Obj) (y16 : Int) (w_13 : World) (Kt14 Kf15 : World → Prop) =>
 Beg l11 rec_12 w_13 fun (w_17 : World) =>
 Ld kP (⟨b5, 0, none⟩ : Addr) w_17 fun (x18 : (Option Addr)) =>
 Cl Try.prog [] n_bitwriter_Writer_add ⟨[(.pointer x18), (.int .u8 y16)]⟩ w_17 fun  (w_19 : World) =>
 EndT l11 rec_12 w_19 Kt14)
 (fun (D20 : Nat) (w_21 : World) =>
 Dfr (D20 :: [] : List Nat) w_21 fun (w_22 : World) =>
 R (true) w_22)
 (fun (D23 : Nat) (w_24 : World) =>
 Dfr (D23 :: [] : List Nat) w_24 fun (w_25 : World) =>
 R (false) w_25)))
theorem bitwriter_Writer_Put.ok (w_1 : (Option Addr)) (v2 : Int) (width3 : Int) (R : Bool → World → Prop) (w : World) (h : bitwriter_Writer_Put.E w_1 v2 width3 R w) : Cl Try.prog [kB] n_bitwriter_Writer_Put ⟨[(.pointer w_1), (.int .u32 v2), (.int .i64 width3)]⟩ w R :=
  calls_of_eqR Try.mix Try.f25 [(.pointer w_1), (.int .u32 v2), (.int .i64 width3)] [kB] R 23 [.tmp 6] (by kernel_rfl) (by kernel_rfl) (by kernel_rfl) (by kernel_rfl) (by kernel_rfl)
    (.s .o (.s (.s .o (.c (.s .o .o) .o)) (.s (.s .o (.b (.r [(kInt .u8)] .o (.b .o)))) (.s .o .o))))
    (by kernel_rfl) h
/-- prefixenc.Put -/
def prefixenc_Put.E (w_1 : (Option Addr)) (l2 : (Array Value)) (symbols3 : Sl) (R : Int → World → Prop) (w : World) : Prop :=
 Nw 23 l2 w fun (b5 : Nat) (w_4 : World) =>
 Ld (.arr 258) (⟨b5, 0, none⟩ : Addr) w_4 fun (x6 : (Array Value)) =>
 Cl Try.prog [kI, kI] n_prefixenc_Size ⟨[(.agg x6), (.slice symbols3.base symbols3.len symbols3.cap)]⟩ w_4 fun (r8 : Int) (r9 : Int) (w_7 : World) =>
 Join (fun (w_11 : World) =>
 Ld (.arr 258) (⟨b5, 0, none⟩ : Addr) w_11 fun (x12 : (Array Value)) =>
 Cl Try.prog [(.arr 258), kI] n_canonical_Codes ⟨[(.agg x12)]⟩ w_11 fun (r14 : (Array Value)) (r15 : Int) (w_13 : World) =>
 Nw 80 ⟨List.replicate 258 (.int .u32 0)⟩ w_13 fun (b17 : Nat) (w_16 : World) =>
 StA 258 (⟨b17, 0, none⟩ : Addr) r14 w_16 fun (w_18 : World) =>
 ∃ (I_19 : Int → World → Prop) (m_20 : Int → World → Nat), I_19 (0) w_18 ∧
 ∀ (t32_21 : Int), ∀ (w_22 : World), I_19 t32_21 w_22 →
 IfB (decide ((t32_21 : Int) < ((symbols3.len : Int) : Int)))
 (Idx symbols3 t32_21 1 fun (q23 : Addr) =>
 Ld kI q23 w_22 fun (x24 : Int) =>
 Drw w_22 fun (w_25 : World) =>
 IdxP (⟨b17, 0, none⟩ : Addr) 258 x24 1 fun (q26 : Addr) =>
 Ld (kInt .u32) q26 w_25 fun (x27 : Int) =>
 IdxP (⟨b5, 0, none⟩ : Addr) 258 x24 1 fun (q28 : Addr) =>
 Ld (kInt .u8) q28 w_25 fun (x29 : Int) =>
 Cl Try.prog [kB] n_bitwriter_Writer_Put ⟨[(.pointer w_1), (.int .u32 x27), (.int .i64 (i64 x29))]⟩ w_25 fun (r31 : Bool) (w_30 : World) =>
 I_19 ((i64 ((t32_21 : Int) + (1 : Int)))) w_30 ∧ m_20 ((i64 ((t32_21 : Int) + (1 : Int)))) w_30 < m_20 t32_21 w_22)
 (R (0) w_22)) fun (K_10 : World → Prop) =>
 IfB (Option.isNone (w_1 : Option Addr))
 (R (2) w_7)
 (IfB ((r9 : Int) != (0 : Int))
 (R (2) w_7)
 (K_10  w_7))
theorem prefixenc_Put.ok (w_1 : (Option Addr)) (l2 : (Array Value)) (symbols3 : Sl) (R : Int → World → Prop) (w : World) (h : prefixenc_Put.E w_1 l2 symbols3 R w) : Cl Try.prog [kI] n_prefixenc_Put ⟨[(.pointer w_1), (.agg l2), (.slice symbols3.base symbols3.len symbols3.cap)]⟩ w R :=
  calls_of_eq Try.mix Try.f26 [(.pointer w_1), (.agg l2), (.slice symbols3.base symbols3.len symbols3.cap)] [kI] R 46 [.tmp 6] (by kernel_rfl) (by kernel_rfl) (by kernel_rfl) (by kernel_rfl) (by kernel_rfl)
    (.s .o (.s .o (.j [] (.s .o (.c (.s .o .o) .o)) (.s .o (.s (.s .o (.b (.l [(32, kI)] (.s .o (.s (.c .o .o) (.s (.b (.s .o .o)) .o)))))) (.s .o .o))))))
    (by kernel_rfl) h
/-- winepressref11.Bits -/
def ref11_Bits.E (l1 : (Array Value)) (symbols2 : Sl) (R : Sl → Bool → World → Prop) (w : World) : Prop :=
 Nw 23 l1 w fun (b4 : Nat) (w_3 : World) =>
 Ld (.arr 258) (⟨b4, 0, none⟩ : Addr) w_3 fun (x5 : (Array Value)) =>
 Cl Try.prog [(.arr 258), kI] n_ref09_Codes ⟨[(.agg x5)]⟩ w_3 fun (r7 : (Array Value)) (r8 : Int) (w_6 : World) =>
 Nw 80 ⟨List.replicate 258 (.int .u32 0)⟩ w_6 fun (b10 : Nat) (w_9 : World) =>
 StA 258 (⟨b10, 0, none⟩ : Addr) r7 w_9 fun (w_11 : World) =>
 IfB ((r8 : Int) != (0 : Int))
 (R ((⟨none, 0, 0⟩ : Sl)) (false) w_11)
 (∃ (I_12 : Sl → Int → World → Prop) (m_13 : Sl → Int → World → Nat), I_12 ((⟨none, 0, 0⟩ : Sl)) (0) w_11 ∧
 ∀ (out14 : Sl) (i15 : Int), ∀ (w_16 : World), I_12 out14 i15 w_16 →
 IfB (decide ((i15 : Int) < ((symbols2.len : Int) : Int)))
 (Idx symbols2 i15 1 fun (q17 : Addr) =>
 Ld kI q17 w_16 fun (x18 : Int) =>
 Join (fun (w_22 : World) =>
 IdxP (⟨b4, 0, none⟩ : Addr) 258 x18 1 fun (q23 : Addr) =>
 Ld (kInt .u8) q23 w_22 fun (x24 : Int) =>
 ∃ (I_25 : Sl → Int → World → Prop) (m_26 : Sl → Int → World → Nat), I_25 (out14) ((i64 (((i64 x24) : Int) - (1 : Int)))) w_22 ∧
 ∀ (out27 : Sl) (k28 : Int), ∀ (w_29 : World), I_25 out27 k28 w_29 →
 IfB (decide ((k28 : Int) ≥ (0 : Int)))
 (IdxP (⟨b10, 0, none⟩ : Addr) 258 x18 1 fun (q30 : Addr) =>
 Ld (kInt .u32) q30 w_29 fun (x31 : Int) =>
 0 ≤ ((u64 k28) : Int) ∧
 Nw 3 ⟨[(.int .i64 (i64 (iand .u32 ((ishr .u32 (x31 : Int) ((u64 k28) : Int)) : Int) (1 : Int))))]⟩ w_29 fun (b33 : Nat) (w_32 : World) =>
 Run Try.prog (Builtin.append_ #[24, 24] 24 ⟨[(.slice out27.base out27.len out27.cap), (.slice (⟨some ⟨b33, 0, none⟩, 1, 1⟩ : Sl).base (⟨some ⟨b33, 0, none⟩, 1, 1⟩ : Sl).len (⟨some ⟨b33, 0, none⟩, 1, 1⟩ : Sl).cap)]⟩) kS w_32 fun (s35 : Sl) (w_34 : World) =>
 I_25 (s35) ((i64 ((k28 : Int) - (1 : Int)))) w_34 ∧ m_26 (s35) ((i64 ((k28 : Int) - (1 : Int)))) w_34 < m_26 out27 k28 w_29)
 (I_12 (out27) ((i64 ((i15 : Int) + (1 : Int)))) w_29 ∧ m_13 (out27) ((i64 ((i15 : Int) + (1 : Int)))) w_29 < m_13 out14 i15 w_16)) fun (K_19 : World → Prop) =>
 IfB (decide ((x18 : Int) < (0 : Int)))
 (R ((⟨none, 0, 0⟩ : Sl)) (false) w_16)
 (IfB (decide ((x18 : Int) ≥ (258 : Int)))
 (R ((⟨none, 0, 0⟩ : Sl)) (false) w_16)
 (IdxP (⟨b4, 0, none⟩ : Addr) 258 x18 1 fun (q20 : Addr) =>
 Ld (kInt .u8) q20 w_16 fun (x21 : Int) =>
 IfB ((x21 : Int) == (0 : Int))
 (R ((⟨none, 0, 0⟩ : Sl)) (false) w_16)
 (K_19  w_16))))
 (R (out14) (true) w_16))
theorem ref11_Bits.ok (l1 : (Array Value)) (symbols2 : Sl) (R : Sl → Bool → World → Prop) (w : World) (h : ref11_Bits.E l1 symbols2 R w) : Cl Try.prog [kS, kB] n_ref11_Bits ⟨[(.agg l1), (.slice symbols2.base symbols2.len symbols2.cap)]⟩ w R :=
  calls_of_eq Try.mix Try.f27 [(.agg l1), (.slice symbols2.base symbols2.len symbols2.cap)] [kS, kB] R 62 [.tmp 4, .tmp 5] (by kernel_rfl) (by kernel_rfl) (by kernel_rfl) (by kernel_rfl) (by kernel_rfl)
    (.s .o (.s .o (.s (.s .o (.c (.s .o .o) .o)) (.s .o (.s (.s .o (.b (.l [(8, kS), (9, kI)] (.s (.s .o (.c .o .o)) (.s (.b (.s .o (.j [] (.s .o (.c (.s .o .o) .o)) (.s .o (.b (.l [(8, kS), (11, kI)] (.s (.s .o (.c .o .o)) (.s (.b .o) .o)))))))) .o))))) (.s .o .o))))))
    (by kernel_rfl) h
/-- (*bitwriter.Writer).Len -/
def bitwriter_Writer_Len.E (w_1 : (Option Addr)) (R : Int → World → Prop) (w : World) : Prop :=
 IfB (Option.isNone (w_1 : Option Addr))
 (R (0) w)
 (NilCk w_1 fun (p2 : Addr) =>
 Ld kI (p2.add 1) w fun (many3 : Int) =>
 R (many3) w)
theorem bitwriter_Writer_Len.ok (w_1 : (Option Addr)) (R : Int → World → Prop) (w : World) (h : bitwriter_Writer_Len.E w_1 R w) : Cl Try.prog [kI] n_bitwriter_Writer_Len ⟨[(.pointer w_1)]⟩ w R :=
  calls_of_eq Try.mix Try.f28 [(.pointer w_1)] [kI] R 9 [.tmp 2] (by kernel_rfl) (by kernel_rfl) (by kernel_rfl) (by kernel_rfl) (by kernel_rfl)
    (.s .o (.s (.s .o (.c (.s .o .o) .o)) (.s .o .o)))
    (by kernel_rfl) h
/-- (*bitwriter.Writer).Bytes -/
def bitwriter_Writer_Bytes.E (w_1 : (Option Addr)) (R : Sl → World → Prop) (w : World) : Prop :=
 IfB (Option.isNone (w_1 : Option Addr))
 (R ((⟨none, 0, 0⟩ : Sl)) w)
 (NilCk w_1 fun (p2 : Addr) =>
 Ld kS (p2.add 0) w fun (b3 : Sl) =>
 Cl Try.prog [kS] n_bytes_Clone ⟨[(.slice b3.base b3.len b3.cap)]⟩ w fun (r5 : Sl) (w_4 : World) =>
 R (r5) w_4)
theorem bitwriter_Writer_Bytes.ok (w_1 : (Option Addr)) (R : Sl → World → Prop) (w : World) (h : bitwriter_Writer_Bytes.E w_1 R w) : Cl Try.prog [kS] n_bitwriter_Writer_Bytes ⟨[(.pointer w_1)]⟩ w R :=
  calls_of_eq Try.mix Try.f29 [(.pointer w_1)] [kS] R 10 [.tmp 2] (by kernel_rfl) (by kernel_rfl) (by kernel_rfl) (by kernel_rfl) (by kernel_rfl)
    (.s .o (.s (.s .o (.c (.s .o .o) .o)) (.s .o .o)))
    (by kernel_rfl) h
/-- winepressref11.Bytes -/
def ref11_Bytes.E (l1 : Sl) (R : Sl → World → Prop) (w : World) : Prop :=
 (8 : Int) ≠ 0 ∧
 Run Try.prog (Instr.makeSlice 44 (.int .i64 (i64 (Int.tdiv ((i64 (((l1.len : Int) : Int) + (7 : Int))) : Int) (8 : Int)))) (.int .i64 (i64 (Int.tdiv ((i64 (((l1.len : Int) : Int) + (7 : Int))) : Int) (8 : Int))))) kS w fun (s3 : Sl) (w_2 : World) =>
 ∃ (I_4 : Int → World → Prop) (m_5 : Int → World → Nat), I_4 (0) w_2 ∧
 ∀ (i6 : Int), ∀ (w_7 : World), I_4 i6 w_7 →
 IfB (decide ((i6 : Int) < ((l1.len : Int) : Int)))
 (Idx l1 i6 1 fun (q8 : Addr) =>
 Ld kI q8 w_7 fun (x9 : Int) =>
 IfB ((x9 : Int) == (1 : Int))
 ((8 : Int) ≠ 0 ∧
 (8 : Int) ≠ 0 ∧
 Idx s3 (i64 (Int.tdiv (i6 : Int) (8 : Int))) 1 fun (q10 : Addr) =>
 Ld (kInt .u8) q10 w_7 fun (x11 : Int) =>
 (8 : Int) ≠ 0 ∧
 0 ≤ ((u64 (Int.tmod (i6 : Int) (8 : Int))) : Int) ∧
 Idx s3 (i64 (Int.tdiv (i6 : Int) (8 : Int))) 1 fun (q12 : Addr) =>
 St q12 (.int .u8 (u8 ((x11 : Int) + ((ishr .u8 (128 : Int) ((u64 (Int.tmod (i6 : Int) (8 : Int))) : Int)) : Int)))) w_7 fun (w_13 : World) =>
 I_4 ((i64 ((i6 : Int) + (1 : Int)))) w_13 ∧ m_5 ((i64 ((i6 : Int) + (1 : Int)))) w_13 < m_5 i6 w_7)
 (I_4 ((i64 ((i6 : Int) + (1 : Int)))) w_7 ∧ m_5 ((i64 ((i6 : Int) + (1 : Int)))) w_7 < m_5 i6 w_7))
 (R (s3) w_7)
theorem ref11_Bytes.ok (l1 : Sl) (R : Sl → World → Prop) (w : World) (h : ref11_Bytes.E l1 R w) : Cl Try.prog [kS] n_ref11_Bytes ⟨[(.slice l1.base l1.len l1.cap)]⟩ w R :=
  calls_of_eq Try.mix Try.f30 [(.slice l1.base l1.len l1.cap)] [kS] R 36 [.tmp 2] (by kernel_rfl) (by kernel_rfl) (by kernel_rfl) (by kernel_rfl) (by kernel_rfl)
    (.s .o (.s .o (.s (.s .o (.b (.l [(4, kI)] (.s (.s .o (.c .o .o)) (.s (.b (.s .o (.c .o .o))) .o))))) (.s .o .o))))
    (by kernel_rfl) h
/-- winepressref09.Valid -/
def ref09_Valid.E (l1 : (Array Value)) (R : Bool → World → Prop) (w : World) : Prop :=
 Nw 23 l1 w fun (b3 : Nat) (w_2 : World) =>
 Ld (.arr 258) (⟨b3, 0, none⟩ : Addr) w_2 fun (x4 : (Array Value)) =>
 Cl Try.prog [kI] n_ref07_Sum ⟨[(.agg x4)]⟩ w_2 fun (r6 : Int) (w_5 : World) =>
 R ((decide ((r6 : Int) ≤ (32768 : Int)))) w_5
theorem ref09_Valid.ok (l1 : (Array Value)) (R : Bool → World → Prop) (w : World) (h : ref09_Valid.E l1 R w) : Cl Try.prog [kB] n_ref09_Valid ⟨[(.agg l1)]⟩ w R :=
  calls_of_eq Try.mix Try.f31 [(.agg l1)] [kB] R 6 [.tmp 2] (by kernel_rfl) (by kernel_rfl) (by kernel_rfl) (by kernel_rfl) (by kernel_rfl)
    (.s .o (.s .o .o))
    (by kernel_rfl) h
/-- kraft.Table -/
def kraft_Table.E (l1 : (Array Value)) (R : Bool → World → Prop) (w : World) : Prop :=
 Nw 23 l1 w fun (b3 : Nat) (w_2 : World) =>
 Ld (.arr 258) (⟨b3, 0, none⟩ : Addr) w_2 fun (x4 : (Array Value)) =>
 Cl Try.prog [kB] n_kraft_Complete ⟨[(.agg x4)]⟩ w_2 fun (r6 : Bool) (w_5 : World) =>
 IfB r6
 (IdxP (⟨b3, 0, none⟩ : Addr) 258 257 1 fun (q7 : Addr) =>
 Ld (kInt .u8) q7 w_5 fun (x8 : Int) =>
 R ((decide ((x8 : Int) > (0 : Int)))) w_5)
 (R (false) w_5)
theorem kraft_Table.ok (l1 : (Array Value)) (R : Bool → World → Prop) (w : World) (h : kraft_Table.E l1 R w) : Cl Try.prog [kB] n_kraft_Table ⟨[(.agg l1)]⟩ w R :=
  calls_of_eq Try.mix Try.f32 [(.agg l1)] [kB] R 10 [.tmp 2] (by kernel_rfl) (by kernel_rfl) (by kernel_rfl) (by kernel_rfl) (by kernel_rfl)
    (.s .o (.s .o .o))
    (by kernel_rfl) h
/-- winepressref08.Sum -/
def ref08_Sum.E (l1 : (Array Value)) (R : Int → World → Prop) (w : World) : Prop :=
 Nw 23 l1 w fun (b3 : Nat) (w_2 : World) =>
 ∃ (I_4 : Int → Int → World → Prop) (m_5 : Int → Int → World → Nat), I_4 (0) (0) w_2 ∧
 ∀ (n6 : Int) (s7 : Int), ∀ (w_8 : World), I_4 n6 s7 w_8 →
 IfB (decide ((s7 : Int) < (258 : Int)))
 (IdxP (⟨b3, 0, none⟩ : Addr) 258 s7 1 fun (q9 : Addr) =>
 Ld (kInt .u8) q9 w_8 fun (x10 : Int) =>
 Cl Try.prog [kI] n_ref08_Share ⟨[(.int .u8 x10)]⟩ w_8 fun (r12 : Int) (w_11 : World) =>
 I_4 ((i64 ((n6 : Int) + (r12 : Int)))) ((i64 ((s7 : Int) + (1 : Int)))) w_11 ∧ m_5 ((i64 ((n6 : Int) + (r12 : Int)))) ((i64 ((s7 : Int) + (1 : Int)))) w_11 < m_5 n6 s7 w_8)
 (R (n6) w_8)
theorem ref08_Sum.ok (l1 : (Array Value)) (R : Int → World → Prop) (w : World) (h : ref08_Sum.E l1 R w) : Cl Try.prog [kI] n_ref08_Sum ⟨[(.agg l1)]⟩ w R :=
  calls_of_eq Try.mix Try.f33 [(.agg l1)] [kI] R 16 [.tmp 2] (by kernel_rfl) (by kernel_rfl) (by kernel_rfl) (by kernel_rfl) (by kernel_rfl)
    (.s .o (.s .o (.s (.s .o (.b (.l [(3, kI), (4, kI)] (.s (.s .o (.c .o .o)) (.s (.b .o) .o))))) (.s .o .o))))
    (by kernel_rfl) h
/-- prefixdec.All -/
def prefixdec_All.E (l1 : (Array Value)) (many2 : Int) (b3 : Sl) (R : Sl → Int → Int → World → Prop) (w : World) : Prop :=
 Nw 23 l1 w fun (b5 : Nat) (w_4 : World) =>
 Ld (.arr 258) (⟨b5, 0, none⟩ : Addr) w_4 fun (x6 : (Array Value)) =>
 Cl Try.prog [(.arr 260), kI] n_prefixdec_New ⟨[(.agg x6)]⟩ w_4 fun (r8 : (Array Value)) (r9 : Int) (w_7 : World) =>
 Nw 26 ⟨List.replicate 258 (.int .u8 0) ++ [(.int .i64 0), (.int .i64 0)]⟩ w_7 fun (b11 : Nat) (w_10 : World) =>
 StA 260 (⟨b11, 0, none⟩ : Addr) r8 w_10 fun (w_12 : World) =>
 Join (fun (symbols14 : Sl) (n15 : Int) (w_16 : World) =>
 ∃ (I_17 : Sl → Int → World → Prop) (m_18 : Sl → Int → World → Nat), I_17 (symbols14) (n15) w_16 ∧
 ∀ (symbols19 : Sl) (n20 : Int), ∀ (w_21 : World), I_17 symbols19 n20 w_21 →
 IfB (decide ((many2 : Int) > ((symbols19.len : Int) : Int)))
 (IfB ((n20 : Int) == ((b3.len : Int) : Int))
 (R ((⟨none, 0, 0⟩ : Sl)) (0) (50) w_21)
 (Idx b3 n20 1 fun (q22 : Addr) =>
 Ld kI q22 w_21 fun (x23 : Int) =>
 0 ≤ (1 : Int) ∧
 IfB (((ishr .i64 (x23 : Int) (1 : Int)) : Int) != (0 : Int))
 (R ((⟨none, 0, 0⟩ : Sl)) (0) (2) w_21)
 (Held w_21 fun (S24 : World → Prop) (w_25 : World) =>
 LdS (.arr 260) (⟨b11, 0, none⟩ : Addr) S24 fun (x26 : (Array Value)) =>
 Idx b3 n20 1 fun (q27 : Addr) =>
 LdS kI q27 S24 fun (x28 : Int) =>
 (Cl Try.prog [(.arr 260), kI, kB] n_prefixdec_Step ⟨[(.agg x26), (.int .i64 x28)]⟩ w_25 fun (r30 : (Array Value)) (r31 : Int) (r32 : Bool) (w_29 : World) =>
 S24 w_29 ∧
 Nw 26 ⟨List.replicate 258 (.int .u8 0) ++ [(.int .i64 0), (.int .i64 0)]⟩ w_29 fun (b34 : Nat) (w_33 : World) =>
 S24 w_33 ∧
 StA 260 (⟨b34, 0, none⟩ : Addr) r30 w_33 fun (w_35 : World) =>
 S24 w_35 ∧
 IfB r32
 (Nw 3 ⟨[(.int .i64 r31)]⟩ w_35 fun (b37 : Nat) (w_36 : World) =>
 Run Try.prog (Builtin.append_ #[24, 24] 24 ⟨[(.slice symbols19.base symbols19.len symbols19.cap), (.slice (⟨some ⟨b37, 0, none⟩, 1, 1⟩ : Sl).base (⟨some ⟨b37, 0, none⟩, 1, 1⟩ : Sl).len (⟨some ⟨b37, 0, none⟩, 1, 1⟩ : Sl).cap)]⟩) kS w_36 fun (s39 : Sl) (w_38 : World) =>
 Ld (.arr 260) (⟨b34, 0, none⟩ : Addr) w_38 fun (x40 : (Array Value)) =>
 StA 260 (⟨b11, 0, none⟩ : Addr) x40 w_38 fun (w_41 : World) =>
 I_17 (s39) ((i64 ((n20 : Int) + (1 : Int)))) w_41 ∧ m_18 (s39) ((i64 ((n20 : Int) + (1 : Int)))) w_41 < m_18 symbols19 n20 w_21)
 (Ld (.arr 260) (⟨b34, 0, none⟩ : Addr) w_35 fun (x42 : (Array Value)) =>
 StA 260 (⟨b11, 0, none⟩ : Addr) x42 w_35 fun (w_43 : World) =>
 I_17 (symbols19) ((i64 ((n20 : Int) + (1 : Int)))) w_43 ∧ m_18 (symbols19) ((i64 ((n20 : Int) + (1 : Int)))) w_43 < m_18 symbols19 n20 w_21)) ∧
 (Nw 26 ⟨List.replicate 258 (.int .u8 0) ++ [(.int .i64 0), (.int .i64 0)]⟩ w_25 fun (b45 : Nat) (w_44 : World) =>
 S24 w_44 ∧
 Cl Try.prog [(.arr 260), kI, kB] n_prefixdec_Step ⟨[(.agg x26), (.int .i64 x28)]⟩ w_44 fun (r47 : (Array Value)) (r48 : Int) (r49 : Bool) (w_46 : World) =>
 S24 w_46 ∧
 StA 260 (⟨b45, 0, none⟩ : Addr) r47 w_46 fun (w_50 : World) =>
 S24 w_50 ∧
 IfB r49
 (Nw 3 ⟨[(.int .i64 r48)]⟩ w_50 fun (b52 : Nat) (w_51 : World) =>
 Run Try.prog (Builtin.append_ #[24, 24] 24 ⟨[(.slice symbols19.base symbols19.len symbols19.cap), (.slice (⟨some ⟨b52, 0, none⟩, 1, 1⟩ : Sl).base (⟨some ⟨b52, 0, none⟩, 1, 1⟩ : Sl).len (⟨some ⟨b52, 0, none⟩, 1, 1⟩ : Sl).cap)]⟩) kS w_51 fun (s54 : Sl) (w_53 : World) =>
 Ld (.arr 260) (⟨b45, 0, none⟩ : Addr) w_53 fun (x55 : (Array Value)) =>
 StA 260 (⟨b11, 0, none⟩ : Addr) x55 w_53 fun (w_56 : World) =>
 I_17 (s54) ((i64 ((n20 : Int) + (1 : Int)))) w_56 ∧ m_18 (s54) ((i64 ((n20 : Int) + (1 : Int)))) w_56 < m_18 symbols19 n20 w_21)
 (Ld (.arr 260) (⟨b45, 0, none⟩ : Addr) w_50 fun (x57 : (Array Value)) =>
 StA 260 (⟨b11, 0, none⟩ : Addr) x57 w_50 fun (w_58 : World) =>
 I_17 (symbols19) ((i64 ((n20 : Int) + (1 : Int)))) w_58 ∧ m_18 (symbols19) ((i64 ((n20 : Int) + (1 : Int)))) w_58 < m_18 symbols19 n20 w_21)))))
 (R (symbols19) (n20) (0) w_21)) fun (K_13 : Sl → Int → World → Prop) =>
 IfB ((r9 : Int) != (0 : Int))
 (R ((⟨none, 0, 0⟩ : Sl)) (0) (2) w_12)
 (IfB (decide ((many2 : Int) < (0 : Int)))
 (R ((⟨none, 0, 0⟩ : Sl)) (0) (2) w_12)
 (K_13 ((⟨none, 0, 0⟩ : Sl)) (0) w_12))
theorem prefixdec_All.ok (l1 : (Array Value)) (many2 : Int) (b3 : Sl) (R : Sl → Int → Int → World → Prop) (w : World) (h : prefixdec_All.E l1 many2 b3 R w) : Cl Try.prog [kS, kI, kI] n_prefixdec_All ⟨[(.agg l1), (.int .i64 many2), (.slice b3.base b3.len b3.cap)]⟩ w R :=
  calls_of_eq Try.mix Try.f34 [(.agg l1), (.int .i64 many2), (.slice b3.base b3.len b3.cap)] [kS, kI, kI] R 58 [.tmp 6, .tmp 7, .tmp 8] (by kernel_rfl) (by kernel_rfl) (by kernel_rfl) (by kernel_rfl) (by kernel_rfl)
    (.s .o (.s .o (.j [(6, kS), (7, kI)] (.s .o (.c (.s .o .o) .o)) (.s (.b (.l [(6, kS), (7, kI)] (.s (.s .o (.c .o .o)) (.b (.s (.s .o (.c (.s .o .o) .o)) (.s (.s .o (.c (.s .o .o) .o)) (.s .o (.s (.s .o (.c .o .o)) (.s .o .o))))))))) (.s .o .o)))))
    (by kernel_rfl) h
/-- winepresslaw12.three -/
def law12_three.E  (R : (Array Value) → World → Prop) (w : World) : Prop :=
 Nw 23 ⟨List.replicate 258 (.int .u8 0)⟩ w fun (b2 : Nat) (w_1 : World) =>
 Nw 23 ⟨List.replicate 258 (.int .u8 0)⟩ w_1 fun (b4 : Nat) (w_3 : World) =>
 IdxP (⟨b4, 0, none⟩ : Addr) 258 0 1 fun (q5 : Addr) =>
 St q5 (.int .u8 1) w_3 fun (w_6 : World) =>
 IdxP (⟨b4, 0, none⟩ : Addr) 258 1 1 fun (q7 : Addr) =>
 St q7 (.int .u8 2) w_6 fun (w_8 : World) =>
 IdxP (⟨b4, 0, none⟩ : Addr) 258 257 1 fun (q9 : Addr) =>
 St q9 (.int .u8 2) w_8 fun (w_10 : World) =>
 Ld (.arr 258) (⟨b4, 0, none⟩ : Addr) w_10 fun (x11 : (Array Value)) =>
 StA 258 (⟨b2, 0, none⟩ : Addr) x11 w_10 fun (w_12 : World) =>
 Ld (.arr 258) (⟨b2, 0, none⟩ : Addr) w_12 fun (res13 : (Array Value)) =>
 R (res13) w_12
theorem law12_three.ok  (R : (Array Value) → World → Prop) (w : World) (h : law12_three.E  R w) : Cl Try.prog [(.arr 258)] n_law12_three ⟨[]⟩ w R :=
  calls_of_eq Try.mix Try.f35 [] [(.arr 258)] R 6 [.cell 0 23] (by kernel_rfl) (by kernel_rfl) (by kernel_rfl) (by kernel_rfl) (by kernel_rfl)
    (.s .o (.s .o (.s .o (.s .o .o))))
    (by kernel_rfl) h
/-- winepressref02.Ints -/
def ref02_Ints.E (a1 : Sl) (b2 : Sl) (R : Bool → World → Prop) (w : World) : Prop :=
 IfB (((a1.len : Int) : Int) != ((b2.len : Int) : Int))
 (R (false) w)
 (∃ (I_3 : Int → World → Prop) (m_4 : Int → World → Nat), I_3 (0) w ∧
 ∀ (i5 : Int), ∀ (w_6 : World), I_3 i5 w_6 →
 IfB (decide ((i5 : Int) < ((a1.len : Int) : Int)))
 (Drw w_6 fun (w_7 : World) =>
 Idx a1 i5 1 fun (q8 : Addr) =>
 Ld kI q8 w_7 fun (x9 : Int) =>
 Idx b2 i5 1 fun (q10 : Addr) =>
 Ld kI q10 w_7 fun (x11 : Int) =>
 IfB ((x9 : Int) != (x11 : Int))
 (R (false) w_7)
 (I_3 ((i64 ((i5 : Int) + (1 : Int)))) w_7 ∧ m_4 ((i64 ((i5 : Int) + (1 : Int)))) w_7 < m_4 i5 w_6))
 (R (true) w_6))
theorem ref02_Ints.ok (a1 : Sl) (b2 : Sl) (R : Bool → World → Prop) (w : World) (h : ref02_Ints.E a1 b2 R w) : Cl Try.prog [kB] n_ref02_Ints ⟨[(.slice a1.base a1.len a1.cap), (.slice b2.base b2.len b2.cap)]⟩ w R :=
  calls_of_eq Try.mix Try.f36 [(.slice a1.base a1.len a1.cap), (.slice b2.base b2.len b2.cap)] [kB] R 26 [.tmp 4] (by kernel_rfl) (by kernel_rfl) (by kernel_rfl) (by kernel_rfl) (by kernel_rfl)
    (.s .o (.s (.s .o (.c (.s .o .o) .o)) (.s (.s .o (.b (.l [(5, kI)] (.s (.s .o (.c .o .o)) (.s (.b (.s .o (.c (.s .o .o) .o))) .o))))) (.s .o .o))))
    (by kernel_rfl) h
/-- prefixdec.first -/
def prefixdec_first.E (l1 : (Array Value)) (bits2 : Int) (R : Int → Int → World → Prop) (w : World) : Prop :=
 Nw 23 l1 w fun (b4 : Nat) (w_3 : World) =>
 Ld (.arr 258) (⟨b4, 0, none⟩ : Addr) w_3 fun (x5 : (Array Value)) =>
 Cl Try.prog [(.st [.int .i64, .int .i64, .int .i64, .int .i64, .int .i64, .int .i64, .int .i64, .int .i64, .int .i64, .int .i64, .int .i64, .int .i64, .int .i64, .int .i64, .int .i64, .int .i64])] n_kraft_Counts ⟨[(.agg x5)]⟩ w_3 fun (r7 : (TT [.int .i64, .int .i64, .int .i64, .int .i64, .int .i64, .int .i64, .int .i64, .int .i64, .int .i64, .int .i64, .int .i64, .int .i64, .int .i64, .int .i64, .int .i64, .int .i64])) (w_6 : World) =>
 Nw 97 ⟨List.replicate 16 (.int .i64 0)⟩ w_6 fun (b9 : Nat) (w_8 : World) =>
 StC (⟨b9, 0, none⟩ : Addr) [(.int .i64 r7.1), (.int .i64 r7.2.1), (.int .i64 r7.2.2.1), (.int .i64 r7.2.2.2.1), (.int .i64 r7.2.2.2.2.1), (.int .i64 r7.2.2.2.2.2.1), (.int .i64 r7.2.2.2.2.2.2.1), (.int .i64 r7.2.2.2.2.2.2.2.1), (.int .i64 r7.2.2.2.2.2.2.2.2.1), (.int .i64 r7.2.2.2.2.2.2.2.2.2.1), (.int .i64 r7.2.2.2.2.2.2.2.2.2.2.1), (.int .i64 r7.2.2.2.2.2.2.2.2.2.2.2.1), (.int .i64 r7.2.2.2.2.2.2.2.2.2.2.2.2.1), (.int .i64 r7.2.2.2.2.2.2.2.2.2.2.2.2.2.1), (.int .i64 r7.2.2.2.2.2.2.2.2.2.2.2.2.2.2.1), (.int .i64 r7.2.2.2.2.2.2.2.2.2.2.2.2.2.2.2.1)] 0 w_8 fun (w_10 : World) =>
 IdxP (⟨b9, 0, none⟩ : Addr) 16 0 1 fun (q11 : Addr) =>
 St q11 (.int .i64 0) w_10 fun (w_12 : World) =>
 ∃ (I_13 : Int → Int → World → Prop) (m_14 : Int → Int → World → Nat), I_13 (0) (1) w_12 ∧
 ∀ (code15 : Int) (n16 : Int), ∀ (w_17 : World), I_13 code15 n16 w_17 →
 IfB (decide ((n16 : Int) ≤ (bits2 : Int)))
 (IdxP (⟨b9, 0, none⟩ : Addr) 16 (i64 ((n16 : Int) - (1 : Int))) 1 fun (q18 : Addr) =>
 Ld kI q18 w_17 fun (x19 : Int) =>
 0 ≤ (1 : Int) ∧
 I_13 ((ishl .i64 ((i64 ((code15 : Int) + (x19 : Int))) : Int) (1 : Int))) ((i64 ((n16 : Int) + (1 : Int)))) w_17 ∧ m_14 ((ishl .i64 ((i64 ((code15 : Int) + (x19 : Int))) : Int) (1 : Int))) ((i64 ((n16 : Int) + (1 : Int)))) w_17 < m_14 code15 n16 w_17)
 (Drw w_17 fun (w_20 : World) =>
 IdxP (⟨b9, 0, none⟩ : Addr) 16 bits2 1 fun (q21 : Addr) =>
 Ld kI q21 w_20 fun (x22 : Int) =>
 R (code15) (x22) w_20)
theorem prefixdec_first.ok (l1 : (Array Value)) (bits2 : Int) (R : Int → Int → World → Prop) (w : World) (h : prefixdec_first.E l1 bits2 R w) : Cl Try.prog [kI, kI] n_prefixdec_first ⟨[(.agg l1), (.int .i64 bits2)]⟩ w R :=
  calls_of_eq Try.mix Try.f37 [(.agg l1), (.int .i64 bits2)] [kI, kI] R 27 [.tmp 4, .tmp 5] (by kernel_rfl) (by kernel_rfl) (by kernel_rfl) (by kernel_rfl) (by kernel_rfl)
    (.s .o (.s .o (.s .o (.s (.s .o (.b (.l [(4, kI), (7, kI)] (.s (.s .o (.c .o .o)) (.s (.b .o) .o))))) (.s .o .o)))))
    (by kernel_rfl) h
/-- prefixdec.of -/
def prefixdec_of.E (l1 : (Array Value)) (bits2 : Int) (place3 : Int) (R : Int → World → Prop) (w : World) : Prop :=
 Nw 23 l1 w fun (b5 : Nat) (w_4 : World) =>
 Ld (.arr 258) (⟨b5, 0, none⟩ : Addr) w_4 fun (x6 : (Array Value)) =>
 ∃ (I_7 : Int → Int → World → Prop) (m_8 : Int → Int → World → Nat), I_7 (place3) (0) w_4 ∧
 ∀ (place9 : Int) (t10_10 : Int), ∀ (w_11 : World), I_7 place9 t10_10 w_11 →
 IfB (decide ((t10_10 : Int) < (258 : Int)))
 (IdxV (.int .u8) x6 258 t10_10 fun (e12 : Int) =>
 IfB (((i64 e12) : Int) != (bits2 : Int))
 (I_7 (place9) ((i64 ((t10_10 : Int) + (1 : Int)))) w_11 ∧ m_8 (place9) ((i64 ((t10_10 : Int) + (1 : Int)))) w_11 < m_8 place9 t10_10 w_11)
 (IfB ((place9 : Int) == (0 : Int))
 (R (t10_10) w_11)
 (I_7 ((i64 ((place9 : Int) - (1 : Int)))) ((i64 ((t10_10 : Int) + (1 : Int)))) w_11 ∧ m_8 ((i64 ((place9 : Int) - (1 : Int)))) ((i64 ((t10_10 : Int) + (1 : Int)))) w_11 < m_8 place9 t10_10 w_11)))
 (R (0) w_11)
theorem prefixdec_of.ok (l1 : (Array Value)) (bits2 : Int) (place3 : Int) (R : Int → World → Prop) (w : World) (h : prefixdec_of.E l1 bits2 place3 R w) : Cl Try.prog [kI] n_prefixdec_of ⟨[(.agg l1), (.int .i64 bits2), (.int .i64 place3)]⟩ w R :=
  calls_of_eq Try.mix Try.f38 [(.agg l1), (.int .i64 bits2), (.int .i64 place3)] [kI] R 24 [.tmp 6] (by kernel_rfl) (by kernel_rfl) (by kernel_rfl) (by kernel_rfl) (by kernel_rfl)
    (.s .o (.s (.s .o (.b (.l [(2, kI), (10, kI)] (.s .o (.s (.c .o .o) (.s (.b (.s .o (.s (.s .o (.c .o .o)) (.s (.s .o (.c (.s .o .o) .o)) .o)))) .o)))))) (.s .o .o)))
    (by kernel_rfl) h
/-- prefixdec.short -/
def prefixdec_short.E (l1 : (Array Value)) (R : Value → World → Prop) (w : World) : Prop :=
 Nw 23 l1 w fun (b3 : Nat) (w_2 : World) =>
 R ((.func (.func 53) ⟨[]⟩ ⟨[(.pointer (some (⟨b3, 0, none⟩ : Addr)))]⟩)) w_2
theorem prefixdec_short.ok (l1 : (Array Value)) (R : Value → World → Prop) (w : World) (h : prefixdec_short.E l1 R w) : Cl Try.prog [kV] n_prefixdec_short ⟨[(.agg l1)]⟩ w R :=
  calls_of_eq Try.mix Try.f39 [(.agg l1)] [kV] R 4 [.tmp 2] (by kernel_rfl) (by kernel_rfl) (by kernel_rfl) (by kernel_rfl) (by kernel_rfl)
    (.s .o (.s .o .o))
    (by kernel_rfl) h
/-- canonical.Valid -/
def canonical_Valid.E (l1 : (Array Value)) (R : Bool → World → Prop) (w : World) : Prop :=
 Nw 23 l1 w fun (b3 : Nat) (w_2 : World) =>
 Ld (.arr 258) (⟨b3, 0, none⟩ : Addr) w_2 fun (x4 : (Array Value)) =>
 Cl Try.prog [kB] n_kraft_Fits ⟨[(.agg x4)]⟩ w_2 fun (r6 : Bool) (w_5 : World) =>
 R (r6) w_5
theorem canonical_Valid.ok (l1 : (Array Value)) (R : Bool → World → Prop) (w : World) (h : canonical_Valid.E l1 R w) : Cl Try.prog [kB] n_canonical_Valid ⟨[(.agg l1)]⟩ w R :=
  calls_of_eq Try.mix Try.f40 [(.agg l1)] [kB] R 5 [.tmp 2] (by kernel_rfl) (by kernel_rfl) (by kernel_rfl) (by kernel_rfl) (by kernel_rfl)
    (.s .o (.s .o .o))
    (by kernel_rfl) h
/-- canonical.Codes -/
def canonical_Codes.E (l1 : (Array Value)) (R : (Array Value) → Int → World → Prop) (w : World) : Prop :=
 Nw 23 l1 w fun (b3 : Nat) (w_2 : World) =>
 Nw 80 ⟨List.replicate 258 (.int .u32 0)⟩ w_2 fun (b5 : Nat) (w_4 : World) =>
 Ld (.arr 258) (⟨b3, 0, none⟩ : Addr) w_4 fun (x6 : (Array Value)) =>
 Cl Try.prog [kB] n_canonical_Valid ⟨[(.agg x6)]⟩ w_4 fun (r8 : Bool) (w_7 : World) =>
 IfB (!r8)
 (Ld (.arr 258) (⟨b5, 0, none⟩ : Addr) w_7 fun (x9 : (Array Value)) =>
 StA 258 (⟨b5, 0, none⟩ : Addr) x9 w_7 fun (w_10 : World) =>
 Ld (.arr 258) (⟨b5, 0, none⟩ : Addr) w_10 fun (res11 : (Array Value)) =>
 R (res11) (2) w_10)
 (Ld (.arr 258) (⟨b3, 0, none⟩ : Addr) w_7 fun (x12 : (Array Value)) =>
 Cl Try.prog [kS] n_canonical_Order ⟨[(.agg x12)]⟩ w_7 fun (r14 : Sl) (w_13 : World) =>
 ∃ (I_15 : Int → Int → Int → World → Prop) (m_16 : Int → Int → Int → World → Nat), I_15 (0) (0) (0) w_13 ∧
 ∀ (next17 : Int) (last18 : Int) (t15_19 : Int), ∀ (w_20 : World), I_15 next17 last18 t15_19 w_20 →
 IfB (decide ((t15_19 : Int) < ((r14.len : Int) : Int)))
 (Idx r14 t15_19 1 fun (q21 : Addr) =>
 Ld kI q21 w_20 fun (x22 : Int) =>
 IdxP (⟨b3, 0, none⟩ : Addr) 258 x22 1 fun (q23 : Addr) =>
 Ld (kInt .u8) q23 w_20 fun (x24 : Int) =>
 0 ≤ ((u8 ((x24 : Int) - (last18 : Int))) : Int) ∧
 Held w_20 fun (S25 : World → Prop) (w_26 : World) =>
 IdxP (⟨b3, 0, none⟩ : Addr) 258 x22 1 fun (q27 : Addr) =>
 LdS (kInt .u8) q27 S25 fun (x28 : Int) =>
 IdxP (⟨b5, 0, none⟩ : Addr) 258 x22 1 fun (q29 : Addr) =>
 St q29 (.int .u32 (ishl .u32 (next17 : Int) ((u8 ((x24 : Int) - (last18 : Int))) : Int))) w_26 fun (w_30 : World) =>
 S25 w_30 ∧
 I_15 ((u32 (((ishl .u32 (next17 : Int) ((u8 ((x24 : Int) - (last18 : Int))) : Int)) : Int) + (1 : Int)))) (x28) ((i64 ((t15_19 : Int) + (1 : Int)))) w_30 ∧ m_16 ((u32 (((ishl .u32 (next17 : Int) ((u8 ((x24 : Int) - (last18 : Int))) : Int)) : Int) + (1 : Int)))) (x28) ((i64 ((t15_19 : Int) + (1 : Int)))) w_30 < m_16 next17 last18 t15_19 w_20)
 (Ld (.arr 258) (⟨b5, 0, none⟩ : Addr) w_20 fun (x31 : (Array Value)) =>
 StA 258 (⟨b5, 0, none⟩ : Addr) x31 w_20 fun (w_32 : World) =>
 Ld (.arr 258) (⟨b5, 0, none⟩ : Addr) w_32 fun (res33 : (Array Value)) =>
 R (res33) (0) w_32))
theorem canonical_Codes.ok (l1 : (Array Value)) (R : (Array Value) → Int → World → Prop) (w : World) (h : canonical_Codes.E l1 R w) : Cl Try.prog [(.arr 258), kI] n_canonical_Codes ⟨[(.agg l1)]⟩ w R :=
  calls_of_eq Try.mix Try.f41 [(.agg l1)] [(.arr 258), kI] R 36 [.cell 2 80, .tmp 3] (by kernel_rfl) (by kernel_rfl) (by kernel_rfl) (by kernel_rfl) (by kernel_rfl)
    (.s .o (.s (.s .o (.c (.s .o .o) .o)) (.s .o (.s (.s .o (.b (.l [(4, (kInt .u32)), (5, (kInt .u8)), (15, kI)] (.s .o (.s (.c .o .o) (.s (.b (.s .o (.s .o (.s .o .o)))) .o)))))) (.s .o .o)))))
    (by kernel_rfl) h
/-- canonical.Order -/
def canonical_Order.E (l1 : (Array Value)) (R : Sl → World → Prop) (w : World) : Prop :=
 Nw 23 l1 w fun (b3 : Nat) (w_2 : World) =>
 Ld (.arr 258) (⟨b3, 0, none⟩ : Addr) w_2 fun (x4 : (Array Value)) =>
 Cl Try.prog [kB] n_canonical_Valid ⟨[(.agg x4)]⟩ w_2 fun (r6 : Bool) (w_5 : World) =>
 IfB (!r6)
 (R ((⟨none, 0, 0⟩ : Sl)) w_5)
 (Ld (.arr 258) (⟨b3, 0, none⟩ : Addr) w_5 fun (x7 : (Array Value)) =>
 ∃ (I_8 : Sl → Int → World → Prop) (m_9 : Sl → Int → World → Nat), I_8 ((⟨none, 0, 0⟩ : Sl)) (0) w_5 ∧
 ∀ (out10 : Sl) (t9_11 : Int), ∀ (w_12 : World), I_8 out10 t9_11 w_12 →
 IfB (decide ((t9_11 : Int) < (258 : Int)))
 (IdxV (.int .u8) x7 258 t9_11 fun (e13 : Int) =>
 IfB (decide ((e13 : Int) > (0 : Int)))
 (Nw 3 ⟨[(.int .i64 t9_11)]⟩ w_12 fun (b15 : Nat) (w_14 : World) =>
 Run Try.prog (Builtin.append_ #[24, 24] 24 ⟨[(.slice out10.base out10.len out10.cap), (.slice (⟨some ⟨b15, 0, none⟩, 1, 1⟩ : Sl).base (⟨some ⟨b15, 0, none⟩, 1, 1⟩ : Sl).len (⟨some ⟨b15, 0, none⟩, 1, 1⟩ : Sl).cap)]⟩) kS w_14 fun (s17 : Sl) (w_16 : World) =>
 I_8 (s17) ((i64 ((t9_11 : Int) + (1 : Int)))) w_16 ∧ m_9 (s17) ((i64 ((t9_11 : Int) + (1 : Int)))) w_16 < m_9 out10 t9_11 w_12)
 (I_8 (out10) ((i64 ((t9_11 : Int) + (1 : Int)))) w_12 ∧ m_9 (out10) ((i64 ((t9_11 : Int) + (1 : Int)))) w_12 < m_9 out10 t9_11 w_12))
 (Cl Try.prog [] n_slices_SortStableFunc_int_int ⟨[(.slice out10.base out10.len out10.cap), (.func (.func 56) ⟨[]⟩ ⟨[(.pointer (some (⟨b3, 0, none⟩ : Addr)))]⟩)]⟩ w_12 fun  (w_18 : World) =>
 R (out10) w_18))
theorem canonical_Order.ok (l1 : (Array Value)) (R : Sl → World → Prop) (w : World) (h : canonical_Order.E l1 R w) : Cl Try.prog [kS] n_canonical_Order ⟨[(.agg l1)]⟩ w R :=
  calls_of_eq Try.mix Try.f42 [(.agg l1)] [kS] R 24 [.tmp 2] (by kernel_rfl) (by kernel_rfl) (by kernel_rfl) (by kernel_rfl) (by kernel_rfl)
    (.s .o (.s (.s .o (.c (.s .o .o) .o)) (.s (.s .o (.b (.l [(2, kS), (9, kI)] (.s .o (.s (.c .o .o) (.s (.b (.s .o (.s .o (.c .o .o)))) .o)))))) (.s .o (.s .o .o)))))
    (by kernel_rfl) h
/-- winepressref09.Find -/
def ref09_Find.E (l1 : (Array Value)) (code2 : Int) (length3 : Int) (R : Int → Bool → World → Prop) (w : World) : Prop :=
 Nw 23 l1 w fun (b5 : Nat) (w_4 : World) =>
 Ld (.arr 258) (⟨b5, 0, none⟩ : Addr) w_4 fun (x6 : (Array Value)) =>
 Cl Try.prog [(.arr 258), kI] n_ref09_Codes ⟨[(.agg x6)]⟩ w_4 fun (r8 : (Array Value)) (r9 : Int) (w_7 : World) =>
 Nw 80 ⟨List.replicate 258 (.int .u32 0)⟩ w_7 fun (b11 : Nat) (w_10 : World) =>
 StA 258 (⟨b11, 0, none⟩ : Addr) r8 w_10 fun (w_12 : World) =>
 ∃ (I_13 : Int → World → Prop) (m_14 : Int → World → Nat), I_13 (0) w_12 ∧
 ∀ (s15 : Int), ∀ (w_16 : World), I_13 s15 w_16 →
 IfB (decide ((s15 : Int) < (258 : Int)))
 (IfB ((r9 : Int) == (0 : Int))
 (IdxP (⟨b5, 0, none⟩ : Addr) 258 s15 1 fun (q17 : Addr) =>
 Ld (kInt .u8) q17 w_16 fun (x18 : Int) =>
 IfB (decide ((x18 : Int) > (0 : Int)))
 (IdxP (⟨b5, 0, none⟩ : Addr) 258 s15 1 fun (q19 : Addr) =>
 Ld (kInt .u8) q19 w_16 fun (x20 : Int) =>
 IfB (((i64 x20) : Int) == (length3 : Int))
 (IdxP (⟨b11, 0, none⟩ : Addr) 258 s15 1 fun (q21 : Addr) =>
 Ld (kInt .u32) q21 w_16 fun (x22 : Int) =>
 IfB ((x22 : Int) == (code2 : Int))
 (R (s15) (true) w_16)
 (I_13 ((i64 ((s15 : Int) + (1 : Int)))) w_16 ∧ m_14 ((i64 ((s15 : Int) + (1 : Int)))) w_16 < m_14 s15 w_16))
 (I_13 ((i64 ((s15 : Int) + (1 : Int)))) w_16 ∧ m_14 ((i64 ((s15 : Int) + (1 : Int)))) w_16 < m_14 s15 w_16))
 (I_13 ((i64 ((s15 : Int) + (1 : Int)))) w_16 ∧ m_14 ((i64 ((s15 : Int) + (1 : Int)))) w_16 < m_14 s15 w_16))
 (R (0) (false) w_16))
 (R (0) (false) w_16)
theorem ref09_Find.ok (l1 : (Array Value)) (code2 : Int) (length3 : Int) (R : Int → Bool → World → Prop) (w : World) (h : ref09_Find.E l1 code2 length3 R w) : Cl Try.prog [kI, kB] n_ref09_Find ⟨[(.agg l1), (.int .u32 code2), (.int .i64 length3)]⟩ w R :=
  calls_of_eq Try.mix Try.f43 [(.agg l1), (.int .u32 code2), (.int .i64 length3)] [kI, kB] R 44 [.tmp 6, .tmp 7] (by kernel_rfl) (by kernel_rfl) (by kernel_rfl) (by kernel_rfl) (by kernel_rfl)
    (.s .o (.s .o (.s (.s .o (.b (.l [(10, kI)] (.s (.s .o (.c .o .o)) (.s (.b (.s .o (.c (.s .o .o) .o))) .o))))) (.s .o .o))))
    (by kernel_rfl) h
/-- bitwriter.fits -/
def bitwriter_fits.E (v1 : Int) (width2 : Int) (R : Bool → World → Prop) (w : World) : Prop :=
 IfB (decide ((width2 : Int) ≥ (0 : Int)))
 (IfB (decide ((width2 : Int) ≤ (32 : Int)))
 (0 ≤ (width2 : Int) ∧
 R ((((ishr .u64 ((u64 v1) : Int) (width2 : Int)) : Int) == (0 : Int))) w)
 (R (false) w))
 (R (false) w)
theorem bitwriter_fits.ok (v1 : Int) (width2 : Int) (R : Bool → World → Prop) (w : World) (h : bitwriter_fits.E v1 width2 R w) : Cl Try.prog [kB] n_bitwriter_fits ⟨[(.int .u32 v1), (.int .i64 width2)]⟩ w R :=
  calls_of_eq Try.mix Try.f44 [(.int .u32 v1), (.int .i64 width2)] [kB] R 18 [.tmp 4] (by kernel_rfl) (by kernel_rfl) (by kernel_rfl) (by kernel_rfl) (by kernel_rfl)
    (.s .o (.s .o .o))
    (by kernel_rfl) h
/-- bitwriter.down -/
def bitwriter_down.E (v1 : Int) (width2 : Int) (R : Value → World → Prop) (w : World) : Prop :=
 Nw 58 ⟨[(.int .u32 v1)]⟩ w fun (b4 : Nat) (w_3 : World) =>
 Nw 3 ⟨[(.int .i64 width2)]⟩ w_3 fun (b6 : Nat) (w_5 : World) =>
 R ((.func (.func 58) ⟨[]⟩ ⟨[(.pointer (some (⟨b6, 0, none⟩ : Addr))), (.pointer (some (⟨b4, 0, none⟩ : Addr)))]⟩)) w_5
theorem bitwriter_down.ok (v1 : Int) (width2 : Int) (R : Value → World → Prop) (w : World) (h : bitwriter_down.E v1 width2 R w) : Cl Try.prog [kV] n_bitwriter_down ⟨[(.int .u32 v1), (.int .i64 width2)]⟩ w R :=
  calls_of_eq Try.mix Try.f45 [(.int .u32 v1), (.int .i64 width2)] [kV] R 6 [.tmp 4] (by kernel_rfl) (by kernel_rfl) (by kernel_rfl) (by kernel_rfl) (by kernel_rfl)
    (.s .o (.s .o .o))
    (by kernel_rfl) h
/-- (*bitwriter.Writer).add -/
def bitwriter_Writer_add.E (w_1 : (Option Addr)) (bit2 : Int) (R : World → Prop) (w : World) : Prop :=
 NilCk w_1 fun (p3 : Addr) =>
 Ld kI (p3.add 1) w fun (many4 : Int) =>
 IfB (((iand .i64 (many4 : Int) (7 : Int)) : Int) == (0 : Int))
 (NilCk w_1 fun (p5 : Addr) =>
 Ld kS (p5.add 0) w fun (b6 : Sl) =>
 Nw 5 ⟨[(.int .u8 0)]⟩ w fun (b8 : Nat) (w_7 : World) =>
 Run Try.prog (Builtin.append_ #[44, 44] 44 ⟨[(.slice b6.base b6.len b6.cap), (.slice (⟨some ⟨b8, 0, none⟩, 1, 1⟩ : Sl).base (⟨some ⟨b8, 0, none⟩, 1, 1⟩ : Sl).len (⟨some ⟨b8, 0, none⟩, 1, 1⟩ : Sl).cap)]⟩) kS w_7 fun (s10 : Sl) (w_9 : World) =>
 NilCk w_1 fun (p11 : Addr) =>
 St (p11.add 0) (.slice s10.base s10.len s10.cap) w_9 fun (w_12 : World) =>
 Drw w_12 fun (w_13 : World) =>
 NilCk w_1 fun (p14 : Addr) =>
 Ld kS (p14.add 0) w_13 fun (b15 : Sl) =>
 NilCk w_1 fun (p16 : Addr) =>
 Ld kI (p16.add 1) w_13 fun (many17 : Int) =>
 0 ≤ (3 : Int) ∧
 Idx b15 (ishr .i64 (many17 : Int) (3 : Int)) 1 fun (q18 : Addr) =>
 Ld (kInt .u8) q18 w_13 fun (x19 : Int) =>
 NilCk w_1 fun (p20 : Addr) =>
 Ld kI (p20.add 1) w_13 fun (many21 : Int) =>
 0 ≤ ((i64 ((7 : Int) - ((iand .i64 (many21 : Int) (7 : Int)) : Int))) : Int) ∧
 Idx b15 (ishr .i64 (many17 : Int) (3 : Int)) 1 fun (q22 : Addr) =>
 St q22 (.int .u8 (ior .u8 (x19 : Int) ((ishl .u8 (bit2 : Int) ((i64 ((7 : Int) - ((iand .i64 (many21 : Int) (7 : Int)) : Int))) : Int)) : Int))) w_13 fun (w_23 : World) =>
 NilCk w_1 fun (p24 : Addr) =>
 Ld kI (p24.add 1) w_23 fun (many25 : Int) =>
 NilCk w_1 fun (p26 : Addr) =>
 St (p26.add 1) (.int .i64 (i64 ((many25 : Int) + (1 : Int)))) w_23 fun (w_27 : World) =>
 R  w_27)
 (Drw w fun (w_28 : World) =>
 NilCk w_1 fun (p29 : Addr) =>
 Ld kS (p29.add 0) w_28 fun (b30 : Sl) =>
 NilCk w_1 fun (p31 : Addr) =>
 Ld kI (p31.add 1) w_28 fun (many32 : Int) =>
 0 ≤ (3 : Int) ∧
 Idx b30 (ishr .i64 (many32 : Int) (3 : Int)) 1 fun (q33 : Addr) =>
 Ld (kInt .u8) q33 w_28 fun (x34 : Int) =>
 NilCk w_1 fun (p35 : Addr) =>
 Ld kI (p35.add 1) w_28 fun (many36 : Int) =>
 0 ≤ ((i64 ((7 : Int) - ((iand .i64 (many36 : Int) (7 : Int)) : Int))) : Int) ∧
 Idx b30 (ishr .i64 (many32 : Int) (3 : Int)) 1 fun (q37 : Addr) =>
 St q37 (.int .u8 (ior .u8 (x34 : Int) ((ishl .u8 (bit2 : Int) ((i64 ((7 : Int) - ((iand .i64 (many36 : Int) (7 : Int)) : Int))) : Int)) : Int))) w_28 fun (w_38 : World) =>
 NilCk w_1 fun (p39 : Addr) =>
 Ld kI (p39.add 1) w_38 fun (many40 : Int) =>
 NilCk w_1 fun (p41 : Addr) =>
 St (p41.add 1) (.int .i64 (i64 ((many40 : Int) + (1 : Int)))) w_38 fun (w_42 : World) =>
 R  w_42)
theorem bitwriter_Writer_add.ok (w_1 : (Option Addr)) (bit2 : Int) (R : World → Prop) (w : World) (h : bitwriter_Writer_add.E w_1 bit2 R w) : Cl Try.prog [] n_bitwriter_Writer_add ⟨[(.pointer w_1), (.int .u8 bit2)]⟩ w R :=
  calls_of_eq Try.mix Try.f46 [(.pointer w_1), (.int .u8 bit2)] [] R 47 [] (by kernel_rfl) (by kernel_rfl) (by kernel_rfl) (by kernel_rfl) (by kernel_rfl)
    (.s (.s .o (.c .o .o)) (.s .o .o))
    (by kernel_rfl) h
/-- winepressref09.Codes -/
def ref09_Codes.E (l1 : (Array Value)) (R : (Array Value) → Int → World → Prop) (w : World) : Prop :=
 Nw 23 l1 w fun (b3 : Nat) (w_2 : World) =>
 Nw 80 ⟨List.replicate 258 (.int .u32 0)⟩ w_2 fun (b5 : Nat) (w_4 : World) =>
 Nw 80 ⟨List.replicate 258 (.int .u32 0)⟩ w_4 fun (b7 : Nat) (w_6 : World) =>
 Ld (.arr 258) (⟨b3, 0, none⟩ : Addr) w_6 fun (x8 : (Array Value)) =>
 Cl Try.prog [kB] n_ref09_Valid ⟨[(.agg x8)]⟩ w_6 fun (r10 : Bool) (w_9 : World) =>
 IfB (!r10)
 (Ld (.arr 258) (⟨b7, 0, none⟩ : Addr) w_9 fun (x11 : (Array Value)) =>
 StA 258 (⟨b5, 0, none⟩ : Addr) x11 w_9 fun (w_12 : World) =>
 Ld (.arr 258) (⟨b5, 0, none⟩ : Addr) w_12 fun (res13 : (Array Value)) =>
 R (res13) (2) w_12)
 (Ld (.arr 258) (⟨b3, 0, none⟩ : Addr) w_9 fun (x14 : (Array Value)) =>
 Cl Try.prog [kS] n_ref09_Order ⟨[(.agg x14)]⟩ w_9 fun (r16 : Sl) (w_15 : World) =>
 ∃ (I_17 : Int → World → Prop) (m_18 : Int → World → Nat), I_17 (1) w_15 ∧
 ∀ (i19 : Int), ∀ (w_20 : World), I_17 i19 w_20 →
 IfB (decide ((i19 : Int) < ((r16.len : Int) : Int)))
 (Idx r16 (i64 ((i19 : Int) - (1 : Int))) 1 fun (q21 : Addr) =>
 Ld kI q21 w_20 fun (x22 : Int) =>
 IdxP (⟨b7, 0, none⟩ : Addr) 258 x22 1 fun (q23 : Addr) =>
 Ld (kInt .u32) q23 w_20 fun (x24 : Int) =>
 Idx r16 (i64 ((i19 : Int) - (1 : Int))) 1 fun (q25 : Addr) =>
 Ld kI q25 w_20 fun (x26 : Int) =>
 IdxP (⟨b3, 0, none⟩ : Addr) 258 x26 1 fun (q27 : Addr) =>
 Ld (kInt .u8) q27 w_20 fun (x28 : Int) =>
 ∃ (I_29 : Int → Int → World → Prop) (m_30 : Int → Int → World → Nat), I_29 ((u32 ((x24 : Int) + (1 : Int)))) (x28) w_20 ∧
 ∀ (c31 : Int) (k32 : Int), ∀ (w_33 : World), I_29 c31 k32 w_33 →
 Idx r16 i19 1 fun (q34 : Addr) =>
 Ld kI q34 w_33 fun (x35 : Int) =>
 IdxP (⟨b3, 0, none⟩ : Addr) 258 x35 1 fun (q36 : Addr) =>
 Ld (kInt .u8) q36 w_33 fun (x37 : Int) =>
 IfB (decide ((k32 : Int) < (x37 : Int)))
 (I_29 ((u32 ((2 : Int) * (c31 : Int)))) ((u8 ((k32 : Int) + (1 : Int)))) w_33 ∧ m_30 ((u32 ((2 : Int) * (c31 : Int)))) ((u8 ((k32 : Int) + (1 : Int)))) w_33 < m_30 c31 k32 w_33)
 (Idx r16 i19 1 fun (q38 : Addr) =>
 Ld kI q38 w_33 fun (x39 : Int) =>
 IdxP (⟨b7, 0, none⟩ : Addr) 258 x39 1 fun (q40 : Addr) =>
 St q40 (.int .u32 c31) w_33 fun (w_41 : World) =>
 I_17 ((i64 ((i19 : Int) + (1 : Int)))) w_41 ∧ m_18 ((i64 ((i19 : Int) + (1 : Int)))) w_41 < m_18 i19 w_20))
 (Ld (.arr 258) (⟨b7, 0, none⟩ : Addr) w_20 fun (x42 : (Array Value)) =>
 StA 258 (⟨b5, 0, none⟩ : Addr) x42 w_20 fun (w_43 : World) =>
 Ld (.arr 258) (⟨b5, 0, none⟩ : Addr) w_43 fun (res44 : (Array Value)) =>
 R (res44) (0) w_43))
theorem ref09_Codes.ok (l1 : (Array Value)) (R : (Array Value) → Int → World → Prop) (w : World) (h : ref09_Codes.E l1 R w) : Cl Try.prog [(.arr 258), kI] n_ref09_Codes ⟨[(.agg l1)]⟩ w R :=
  calls_of_eq Try.mix Try.f47 [(.agg l1)] [(.arr 258), kI] R 55 [.cell 2 80, .tmp 3] (by kernel_rfl) (by kernel_rfl) (by kernel_rfl) (by kernel_rfl) (by kernel_rfl)
    (.s .o (.s .o (.s (.s .o (.c (.s .o .o) .o)) (.s .o (.s (.s .o (.b (.l [(6, kI)] (.s (.s .o (.c .o .o)) (.s (.b (.s .o (.s (.s .o (.b (.l [(7, (kInt .u32)), (8, (kInt .u8))] (.s (.s .o (.c .o .o)) (.s (.b .o) .o))))) .o))) .o))))) (.s .o .o))))))
    (by kernel_rfl) h
/-- bytes.Clone -/
def bytes_Clone.E (b1 : Sl) (R : Sl → World → Prop) (w : World) : Prop :=
 IfB (Option.isNone (b1).base)
 (R ((⟨none, 0, 0⟩ : Sl)) w)
 (Nw 5 ⟨[]⟩ w fun (b3 : Nat) (w_2 : World) =>
 Run Try.prog (Builtin.append_ #[44, 44] 44 ⟨[(.slice (⟨some ⟨b3, 0, none⟩, 0, 0⟩ : Sl).base (⟨some ⟨b3, 0, none⟩, 0, 0⟩ : Sl).len (⟨some ⟨b3, 0, none⟩, 0, 0⟩ : Sl).cap), (.slice b1.base b1.len b1.cap)]⟩) kS w_2 fun (s5 : Sl) (w_4 : World) =>
 R (s5) w_4)
theorem bytes_Clone.ok (b1 : Sl) (R : Sl → World → Prop) (w : World) (h : bytes_Clone.E b1 R w) : Cl Try.prog [kS] n_bytes_Clone ⟨[(.slice b1.base b1.len b1.cap)]⟩ w R :=
  calls_of_eq Try.mix Try.f48 [(.slice b1.base b1.len b1.cap)] [kS] R 8 [.tmp 2] (by kernel_rfl) (by kernel_rfl) (by kernel_rfl) (by kernel_rfl) (by kernel_rfl)
    (.s .o (.s (.s .o (.c (.s .o .o) .o)) (.s .o .o)))
    (by kernel_rfl) h
/-- winepressref07.Sum -/
def ref07_Sum.E (l1 : (Array Value)) (R : Int → World → Prop) (w : World) : Prop :=
 Nw 23 l1 w fun (b3 : Nat) (w_2 : World) =>
 ∃ (I_4 : Int → Int → World → Prop) (m_5 : Int → Int → World → Nat), I_4 (0) (0) w_2 ∧
 ∀ (n6 : Int) (s7 : Int), ∀ (w_8 : World), I_4 n6 s7 w_8 →
 IfB (decide ((s7 : Int) < (258 : Int)))
 (IdxP (⟨b3, 0, none⟩ : Addr) 258 s7 1 fun (q9 : Addr) =>
 Ld (kInt .u8) q9 w_8 fun (x10 : Int) =>
 IfB (decide ((x10 : Int) > (15 : Int)))
 (R (32769) w_8)
 (IdxP (⟨b3, 0, none⟩ : Addr) 258 s7 1 fun (q11 : Addr) =>
 Ld (kInt .u8) q11 w_8 fun (x12 : Int) =>
 IfB (decide ((x12 : Int) > (0 : Int)))
 (IdxP (⟨b3, 0, none⟩ : Addr) 258 s7 1 fun (q13 : Addr) =>
 Ld (kInt .u8) q13 w_8 fun (x14 : Int) =>
 0 ≤ ((u64 (i64 ((15 : Int) - ((i64 x14) : Int)))) : Int) ∧
 I_4 ((i64 ((n6 : Int) + ((ishl .i64 (1 : Int) ((u64 (i64 ((15 : Int) - ((i64 x14) : Int)))) : Int)) : Int)))) ((i64 ((s7 : Int) + (1 : Int)))) w_8 ∧ m_5 ((i64 ((n6 : Int) + ((ishl .i64 (1 : Int) ((u64 (i64 ((15 : Int) - ((i64 x14) : Int)))) : Int)) : Int)))) ((i64 ((s7 : Int) + (1 : Int)))) w_8 < m_5 n6 s7 w_8)
 (I_4 (n6) ((i64 ((s7 : Int) + (1 : Int)))) w_8 ∧ m_5 (n6) ((i64 ((s7 : Int) + (1 : Int)))) w_8 < m_5 n6 s7 w_8)))
 (R (n6) w_8)
theorem ref07_Sum.ok (l1 : (Array Value)) (R : Int → World → Prop) (w : World) (h : ref07_Sum.E l1 R w) : Cl Try.prog [kI] n_ref07_Sum ⟨[(.agg l1)]⟩ w R :=
  calls_of_eq Try.mix Try.f49 [(.agg l1)] [kI] R 27 [.tmp 2] (by kernel_rfl) (by kernel_rfl) (by kernel_rfl) (by kernel_rfl) (by kernel_rfl)
    (.s .o (.s .o (.s (.s .o (.b (.l [(3, kI), (4, kI)] (.s (.s .o (.c .o .o)) (.s (.b (.s (.s .o (.c (.s .o .o) .o)) (.s .o (.c .o .o)))) .o))))) (.s .o .o))))
    (by kernel_rfl) h
/-- kraft.Complete -/
def kraft_Complete.E (l1 : (Array Value)) (R : Bool → World → Prop) (w : World) : Prop :=
 Nw 23 l1 w fun (b3 : Nat) (w_2 : World) =>
 Ld (.arr 258) (⟨b3, 0, none⟩ : Addr) w_2 fun (x4 : (Array Value)) =>
 Cl Try.prog [kI] n_kraft_Sum ⟨[(.agg x4)]⟩ w_2 fun (r6 : Int) (w_5 : World) =>
 R (((r6 : Int) == (32768 : Int))) w_5
theorem kraft_Complete.ok (l1 : (Array Value)) (R : Bool → World → Prop) (w : World) (h : kraft_Complete.E l1 R w) : Cl Try.prog [kB] n_kraft_Complete ⟨[(.agg l1)]⟩ w R :=
  calls_of_eq Try.mix Try.f50 [(.agg l1)] [kB] R 6 [.tmp 2] (by kernel_rfl) (by kernel_rfl) (by kernel_rfl) (by kernel_rfl) (by kernel_rfl)
    (.s .o (.s .o .o))
    (by kernel_rfl) h
/-- winepressref08.Share -/
def ref08_Share.E (n1 : Int) (R : Int → World → Prop) (w : World) : Prop :=
 IfB ((n1 : Int) == (0 : Int))
 (R (0) w)
 (IfB (decide ((n1 : Int) > (15 : Int)))
 (R (32769) w)
 (∃ (I_2 : Int → Int → World → Prop) (m_3 : Int → Int → World → Nat), I_2 (32768) (0) w ∧
 ∀ (v4 : Int) (i5 : Int), ∀ (w_6 : World), I_2 v4 i5 w_6 →
 IfB (decide ((i5 : Int) < (n1 : Int)))
 ((2 : Int) ≠ 0 ∧
 I_2 ((i64 (Int.tdiv (v4 : Int) (2 : Int)))) ((u8 ((i5 : Int) + (1 : Int)))) w_6 ∧ m_3 ((i64 (Int.tdiv (v4 : Int) (2 : Int)))) ((u8 ((i5 : Int) + (1 : Int)))) w_6 < m_3 v4 i5 w_6)
 (R (v4) w_6)))
theorem ref08_Share.ok (n1 : Int) (R : Int → World → Prop) (w : World) (h : ref08_Share.E n1 R w) : Cl Try.prog [kI] n_ref08_Share ⟨[(.int .u8 n1)]⟩ w R :=
  calls_of_eq Try.mix Try.f51 [(.int .u8 n1)] [kI] R 17 [.tmp 2] (by kernel_rfl) (by kernel_rfl) (by kernel_rfl) (by kernel_rfl) (by kernel_rfl)
    (.s .o (.s (.s .o (.c (.s .o .o) .o)) (.s (.s .o (.c (.s .o .o) .o)) (.s .o (.s (.s .o (.b (.l [(3, kI), (4, (kInt .u8))] (.s (.s .o (.c .o .o)) (.s (.b .o) .o))))) (.s .o .o))))))
    (by kernel_rfl) h
/-- kraft.Counts -/
def kraft_Counts.E (l1 : (Array Value)) (R : (TT [.int .i64, .int .i64, .int .i64, .int .i64, .int .i64, .int .i64, .int .i64, .int .i64, .int .i64, .int .i64, .int .i64, .int .i64, .int .i64, .int .i64, .int .i64, .int .i64]) → World → Prop) (w : World) : Prop :=
 Nw 23 l1 w fun (b3 : Nat) (w_2 : World) =>
 Nw 97 ⟨List.replicate 16 (.int .i64 0)⟩ w_2 fun (b5 : Nat) (w_4 : World) =>
 Ld (.arr 258) (⟨b3, 0, none⟩ : Addr) w_4 fun (x6 : (Array Value)) =>
 ∃ (I_7 : Int → World → Prop) (m_8 : Int → World → Nat), I_7 (0) w_4 ∧
 ∀ (t6_9 : Int), ∀ (w_10 : World), I_7 t6_9 w_10 →
 IfB (decide ((t6_9 : Int) < (258 : Int)))
 (IdxV (.int .u8) x6 258 t6_9 fun (e11 : Int) =>
 IfB (decide (((i64 e11) : Int) < (16 : Int)))
 (IdxP (⟨b5, 0, none⟩ : Addr) 16 e11 1 fun (q12 : Addr) =>
 Ld kI q12 w_10 fun (x13 : Int) =>
 IdxP (⟨b5, 0, none⟩ : Addr) 16 e11 1 fun (q14 : Addr) =>
 St q14 (.int .i64 (i64 ((x13 : Int) + (1 : Int)))) w_10 fun (w_15 : World) =>
 I_7 ((i64 ((t6_9 : Int) + (1 : Int)))) w_15 ∧ m_8 ((i64 ((t6_9 : Int) + (1 : Int)))) w_15 < m_8 t6_9 w_10)
 (I_7 ((i64 ((t6_9 : Int) + (1 : Int)))) w_10 ∧ m_8 ((i64 ((t6_9 : Int) + (1 : Int)))) w_10 < m_8 t6_9 w_10))
 (Ld (.st [.int .i64, .int .i64, .int .i64, .int .i64, .int .i64, .int .i64, .int .i64, .int .i64, .int .i64, .int .i64, .int .i64, .int .i64, .int .i64, .int .i64, .int .i64, .int .i64]) (⟨b5, 0, none⟩ : Addr) w_10 fun (x16 : (TT [.int .i64, .int .i64, .int .i64, .int .i64, .int .i64, .int .i64, .int .i64, .int .i64, .int .i64, .int .i64, .int .i64, .int .i64, .int .i64, .int .i64, .int .i64, .int .i64])) =>
 StC (⟨b5, 0, none⟩ : Addr) [(.int .i64 x16.1), (.int .i64 x16.2.1), (.int .i64 x16.2.2.1), (.int .i64 x16.2.2.2.1), (.int .i64 x16.2.2.2.2.1), (.int .i64 x16.2.2.2.2.2.1), (.int .i64 x16.2.2.2.2.2.2.1), (.int .i64 x16.2.2.2.2.2.2.2.1), (.int .i64 x16.2.2.2.2.2.2.2.2.1), (.int .i64 x16.2.2.2.2.2.2.2.2.2.1), (.int .i64 x16.2.2.2.2.2.2.2.2.2.2.1), (.int .i64 x16.2.2.2.2.2.2.2.2.2.2.2.1), (.int .i64 x16.2.2.2.2.2.2.2.2.2.2.2.2.1), (.int .i64 x16.2.2.2.2.2.2.2.2.2.2.2.2.2.1), (.int .i64 x16.2.2.2.2.2.2.2.2.2.2.2.2.2.2.1), (.int .i64 x16.2.2.2.2.2.2.2.2.2.2.2.2.2.2.2.1)] 0 w_10 fun (w_17 : World) =>
 Ld (.st [.int .i64, .int .i64, .int .i64, .int .i64, .int .i64, .int .i64, .int .i64, .int .i64, .int .i64, .int .i64, .int .i64, .int .i64, .int .i64, .int .i64, .int .i64, .int .i64]) (⟨b5, 0, none⟩ : Addr) w_17 fun (res18 : (TT [.int .i64, .int .i64, .int .i64, .int .i64, .int .i64, .int .i64, .int .i64, .int .i64, .int .i64, .int .i64, .int .i64, .int .i64, .int .i64, .int .i64, .int .i64, .int .i64])) =>
 R (res18) w_17)
theorem kraft_Counts.ok (l1 : (Array Value)) (R : (TT [.int .i64, .int .i64, .int .i64, .int .i64, .int .i64, .int .i64, .int .i64, .int .i64, .int .i64, .int .i64, .int .i64, .int .i64, .int .i64, .int .i64, .int .i64, .int .i64]) → World → Prop) (w : World) (h : kraft_Counts.E l1 R w) : Cl Try.prog [(.st [.int .i64, .int .i64, .int .i64, .int .i64, .int .i64, .int .i64, .int .i64, .int .i64, .int .i64, .int .i64, .int .i64, .int .i64, .int .i64, .int .i64, .int .i64, .int .i64])] n_kraft_Counts ⟨[(.agg l1)]⟩ w R :=
  calls_of_eq Try.mix Try.f52 [(.agg l1)] [(.st [.int .i64, .int .i64, .int .i64, .int .i64, .int .i64, .int .i64, .int .i64, .int .i64, .int .i64, .int .i64, .int .i64, .int .i64, .int .i64, .int .i64, .int .i64, .int .i64])] R 19 [.cell 2 97] (by kernel_rfl) (by kernel_rfl) (by kernel_rfl) (by kernel_rfl) (by kernel_rfl)
    (.s .o (.s (.s .o (.b (.l [(6, kI)] (.s .o (.s (.c .o .o) (.s (.b (.s .o (.s .o (.c .o .o)))) .o)))))) (.s .o .o)))
    (by kernel_rfl) h
/-- prefixdec.short$1 -/
def prefixdec_short_1.E (yield1 : Value) (c2 : Addr) (R : World → Prop) (w : World) : Prop :=
 Ld (.arr 258) c2 w fun (x3 : (Array Value)) =>
 Cl Try.prog [(.arr 258), kI] n_canonical_Codes ⟨[(.agg x3)]⟩ w fun (r5 : (Array Value)) (r6 : Int) (w_4 : World) =>
 Nw 80 ⟨List.replicate 258 (.int .u32 0)⟩ w_4 fun (b8 : Nat) (w_7 : World) =>
 StA 258 (⟨b8, 0, none⟩ : Addr) r5 w_7 fun (w_9 : World) =>
 Ld (.arr 258) c2 w_9 fun (x10 : (Array Value)) =>
 ∃ (I_11 : Int → World → Prop) (m_12 : Int → World → Nat), I_11 (0) w_9 ∧
 ∀ (t14_13 : Int), ∀ (w_14 : World), I_11 t14_13 w_14 →
 IfB (decide ((t14_13 : Int) < (258 : Int)))
 (IdxV (.int .u8) x10 258 t14_13 fun (e15 : Int) =>
 IfB ((e15 : Int) == (0 : Int))
 (([] : List Nat) = ([] : List Nat) ∧ I_11 ((i64 ((t14_13 : Int) + (1 : Int)))) w_14 ∧ m_12 ((i64 ((t14_13 : Int) + (1 : Int)))) w_14 < m_12 t14_13 w_14)
 (IfB (decide ((e15 : Int) > (9 : Int)))
 (([] : List Nat) = ([] : List Nat) ∧ I_11 ((i64 ((t14_13 : Int) + (1 : Int)))) w_14 ∧ m_12 ((i64 ((t14_13 : Int) + (1 : Int)))) w_14 < m_12 t14_13 w_14)
 (IdxP (⟨b8, 0, none⟩ : Addr) 258 t14_13 1 fun (q16 : Addr) =>
 Ld (kInt .u32) q16 w_14 fun (x17 : Int) =>
 0 ≤ ((u8 ((9 : Int) - (e15 : Int))) : Int) ∧
 0 ≤ (e15 : Int) ∧
 ClY Try.prog yield1 [kB] [(.agg ⟨[(.int .i64 t14_13), (.int .i64 (i64 e15))]⟩), (.agg ⟨[(.int .i64 (ishl .i64 ((i64 x17) : Int) ((u8 ((9 : Int) - (e15 : Int))) : Int))), (.int .i64 (i64 (((ishl .i64 ((i64 x17) : Int) ((u8 ((9 : Int) - (e15 : Int))) : Int)) : Int) + ((ishr .i64 (512 : Int) (e15 : Int)) : Int))))]⟩)] w_14 fun (r19 : Bool) (w_18 : World) =>
 IfB (!r19)
 (R  w_18)
 (([] : List Nat) = ([] : List Nat) ∧ I_11 ((i64 ((t14_13 : Int) + (1 : Int)))) w_18 ∧ m_12 ((i64 ((t14_13 : Int) + (1 : Int)))) w_18 < m_12 t14_13 w_14))))
 (R  w_14)
theorem prefixdec_short_1.ok (yield1 : Value) (c2 : Addr) (R : World → Prop) (w : World) (h : prefixdec_short_1.E yield1 c2 R w) : Cl Try.prog [] n_prefixdec_short_1 ⟨[yield1, (.pointer (some c2))]⟩ w R :=
  calls_of_eqR Try.mix Try.f53 [yield1, (.pointer (some c2))] [] R 45 [] (by kernel_rfl) (by kernel_rfl) (by kernel_rfl) (by kernel_rfl) (by kernel_rfl)
    (.s .o (.s .o (.b (.l [(14, kI)] (.s .o (.s (.c .o .o) (.s (.b (.s .o (.s (.s .o (.c .o .o)) (.s .o (.s .o (.c .o .o)))))) .o)))))))
    (by kernel_rfl) h
/-- kraft.Fits -/
def kraft_Fits.E (l1 : (Array Value)) (R : Bool → World → Prop) (w : World) : Prop :=
 Nw 23 l1 w fun (b3 : Nat) (w_2 : World) =>
 Ld (.arr 258) (⟨b3, 0, none⟩ : Addr) w_2 fun (x4 : (Array Value)) =>
 Cl Try.prog [kI] n_kraft_Sum ⟨[(.agg x4)]⟩ w_2 fun (r6 : Int) (w_5 : World) =>
 R ((decide ((r6 : Int) ≤ (32768 : Int)))) w_5
theorem kraft_Fits.ok (l1 : (Array Value)) (R : Bool → World → Prop) (w : World) (h : kraft_Fits.E l1 R w) : Cl Try.prog [kB] n_kraft_Fits ⟨[(.agg l1)]⟩ w R :=
  calls_of_eq Try.mix Try.f54 [(.agg l1)] [kB] R 6 [.tmp 2] (by kernel_rfl) (by kernel_rfl) (by kernel_rfl) (by kernel_rfl) (by kernel_rfl)
    (.s .o (.s .o .o))
    (by kernel_rfl) h
/-- slices.SortStableFunc[[]int,int] -/
def slices_SortStableFunc_int_int.E (x1 : Sl) (cmp2 : Value) (R : World → Prop) (w : World) : Prop :=
 Cl Try.prog [] n_slices_stableCmpFunc_int ⟨[(.slice x1.base x1.len x1.cap), (.int .i64 (x1.len : Int)), cmp2]⟩ w fun  (w_3 : World) =>
 R  w_3
theorem slices_SortStableFunc_int_int.ok (x1 : Sl) (cmp2 : Value) (R : World → Prop) (w : World) (h : slices_SortStableFunc_int_int.E x1 cmp2 R w) : Cl Try.prog [] n_slices_SortStableFunc_int_int ⟨[(.slice x1.base x1.len x1.cap), cmp2]⟩ w R :=
  calls_of_eq Try.mix Try.f55 [(.slice x1.base x1.len x1.cap), cmp2] [] R 9 [] (by kernel_rfl) (by kernel_rfl) (by kernel_rfl) (by kernel_rfl) (by kernel_rfl)
    .o
    (by kernel_rfl) h
/-- canonical.Order$1 -/
def canonical_Order_1.E (a1 : Int) (b2 : Int) (c3 : Addr) (R : Int → World → Prop) (w : World) : Prop :=
 Drw w fun (w_4 : World) =>
 IdxP c3 258 a1 1 fun (q5 : Addr) =>
 Ld (kInt .u8) q5 w_4 fun (x6 : Int) =>
 IdxP c3 258 b2 1 fun (q7 : Addr) =>
 Ld (kInt .u8) q7 w_4 fun (x8 : Int) =>
 Cl Try.prog [kI] n_cmp_Compare_uint8 ⟨[(.int .u8 x6), (.int .u8 x8)]⟩ w_4 fun (r10 : Int) (w_9 : World) =>
 R (r10) w_9
theorem canonical_Order_1.ok (a1 : Int) (b2 : Int) (c3 : Addr) (R : Int → World → Prop) (w : World) (h : canonical_Order_1.E a1 b2 c3 R w) : Cl Try.prog [kI] n_canonical_Order_1 ⟨[(.int .i64 a1), (.int .i64 b2), (.pointer (some c3))]⟩ w R :=
  calls_of_eq Try.mix Try.f56 [(.int .i64 a1), (.int .i64 b2), (.pointer (some c3))] [kI] R 13 [.tmp 5] (by kernel_rfl) (by kernel_rfl) (by kernel_rfl) (by kernel_rfl) (by kernel_rfl)
    (.s .o (.s .o .o))
    (by kernel_rfl) h
/-- cmp.Compare[uint8] -/
def cmp_Compare_uint8.E (x1 : Int) (y2 : Int) (R : Int → World → Prop) (w : World) : Prop :=
 Cl Try.prog [kB] n_cmp_isNaN_uint8 ⟨[(.int .u8 x1)]⟩ w fun (r4 : Bool) (w_3 : World) =>
 Cl Try.prog [kB] n_cmp_isNaN_uint8 ⟨[(.int .u8 y2)]⟩ w_3 fun (r6 : Bool) (w_5 : World) =>
 IfB r4
 (IfB r6
 (R (0) w_5)
 (R ((-1)) w_5))
 (IfB r6
 (R (1) w_5)
 (IfB (decide ((x1 : Int) < (y2 : Int)))
 (R ((-1)) w_5)
 (IfB (decide ((x1 : Int) > (y2 : Int)))
 (R (1) w_5)
 (R (0) w_5))))
theorem cmp_Compare_uint8.ok (x1 : Int) (y2 : Int) (R : Int → World → Prop) (w : World) (h : cmp_Compare_uint8.E x1 y2 R w) : Cl Try.prog [kI] n_cmp_Compare_uint8 ⟨[(.int .u8 x1), (.int .u8 y2)]⟩ w R :=
  calls_of_eq Try.mix Try.f57 [(.int .u8 x1), (.int .u8 y2)] [kI] R 20 [.tmp 4] (by kernel_rfl) (by kernel_rfl) (by kernel_rfl) (by kernel_rfl) (by kernel_rfl)
    (.s .o (.s .o (.s .o (.s (.s .o (.c (.s (.s .o (.c (.s .o .o) .o)) (.s .o .o)) .o)) (.s (.s .o (.c (.s .o .o) .o)) (.s (.s .o (.c (.s .o .o) .o)) (.s (.s .o (.c (.s .o .o) .o)) (.s .o .o))))))))
    (by kernel_rfl) h
/-- bitwriter.down$1 -/
def bitwriter_down_1.E (yield1 : Value) (c2 : Addr) (c3 : Addr) (R : World → Prop) (w : World) : Prop :=
 Ld kI c2 w fun (x4 : Int) =>
 ∃ (I_5 : Int → World → Prop) (m_6 : Int → World → Nat), I_5 ((i64 ((x4 : Int) - (1 : Int)))) w ∧
 ∀ (i7 : Int), ∀ (w_8 : World), I_5 i7 w_8 →
 IfB (decide ((i7 : Int) ≥ (0 : Int)))
 (Ld (kInt .u32) c3 w_8 fun (x9 : Int) =>
 0 ≤ (i7 : Int) ∧
 ClY Try.prog yield1 [kB] [(.int .u8 (iand .u8 ((u8 (ishr .u32 (x9 : Int) (i7 : Int))) : Int) (1 : Int)))] w_8 fun (r11 : Bool) (w_10 : World) =>
 IfB (!r11)
 (R  w_10)
 (([] : List Nat) = ([] : List Nat) ∧ I_5 ((i64 ((i7 : Int) - (1 : Int)))) w_10 ∧ m_6 ((i64 ((i7 : Int) - (1 : Int)))) w_10 < m_6 i7 w_8))
 (R  w_8)
theorem bitwriter_down_1.ok (yield1 : Value) (c2 : Addr) (c3 : Addr) (R : World → Prop) (w : World) (h : bitwriter_down_1.E yield1 c2 c3 R w) : Cl Try.prog [] n_bitwriter_down_1 ⟨[yield1, (.pointer (some c2)), (.pointer (some c3))]⟩ w R :=
  calls_of_eqR Try.mix Try.f58 [yield1, (.pointer (some c2)), (.pointer (some c3))] [] R 19 [] (by kernel_rfl) (by kernel_rfl) (by kernel_rfl) (by kernel_rfl) (by kernel_rfl)
    (.s .o (.b (.l [(4, kI)] (.s (.s .o (.c .o .o)) (.s (.b (.s .o (.c .o .o))) .o)))))
    (by kernel_rfl) h
/-- winepressref09.Order -/
def ref09_Order.E (l1 : (Array Value)) (R : Sl → World → Prop) (w : World) : Prop :=
 Nw 23 l1 w fun (b3 : Nat) (w_2 : World) =>
 ∃ (I_4 : Sl → Int → World → Prop) (m_5 : Sl → Int → World → Nat), I_4 ((⟨none, 0, 0⟩ : Sl)) (1) w_2 ∧
 ∀ (out6 : Sl) (n7 : Int), ∀ (w_8 : World), I_4 out6 n7 w_8 →
 IfB (decide ((n7 : Int) ≤ (15 : Int)))
 (Ld (.arr 258) (⟨b3, 0, none⟩ : Addr) w_8 fun (x9 : (Array Value)) =>
 Cl Try.prog [kB] n_ref09_Valid ⟨[(.agg x9)]⟩ w_8 fun (r11 : Bool) (w_10 : World) =>
 IfB r11
 (∃ (I_12 : Sl → Int → World → Prop) (m_13 : Sl → Int → World → Nat), I_12 (out6) (0) w_10 ∧
 ∀ (out14 : Sl) (s15 : Int), ∀ (w_16 : World), I_12 out14 s15 w_16 →
 IfB (decide ((s15 : Int) < (258 : Int)))
 (IdxP (⟨b3, 0, none⟩ : Addr) 258 s15 1 fun (q17 : Addr) =>
 Ld (kInt .u8) q17 w_16 fun (x18 : Int) =>
 IfB (((i64 x18) : Int) == (n7 : Int))
 (Nw 3 ⟨[(.int .i64 s15)]⟩ w_16 fun (b20 : Nat) (w_19 : World) =>
 Run Try.prog (Builtin.append_ #[24, 24] 24 ⟨[(.slice out14.base out14.len out14.cap), (.slice (⟨some ⟨b20, 0, none⟩, 1, 1⟩ : Sl).base (⟨some ⟨b20, 0, none⟩, 1, 1⟩ : Sl).len (⟨some ⟨b20, 0, none⟩, 1, 1⟩ : Sl).cap)]⟩) kS w_19 fun (s22 : Sl) (w_21 : World) =>
 I_12 (s22) ((i64 ((s15 : Int) + (1 : Int)))) w_21 ∧ m_13 (s22) ((i64 ((s15 : Int) + (1 : Int)))) w_21 < m_13 out14 s15 w_16)
 (I_12 (out14) ((i64 ((s15 : Int) + (1 : Int)))) w_16 ∧ m_13 (out14) ((i64 ((s15 : Int) + (1 : Int)))) w_16 < m_13 out14 s15 w_16))
 (I_4 (out14) ((i64 ((n7 : Int) + (1 : Int)))) w_16 ∧ m_5 (out14) ((i64 ((n7 : Int) + (1 : Int)))) w_16 < m_5 out6 n7 w_8))
 (R (out6) w_10))
 (R (out6) w_8)
theorem ref09_Order.ok (l1 : (Array Value)) (R : Sl → World → Prop) (w : World) (h : ref09_Order.E l1 R w) : Cl Try.prog [kS] n_ref09_Order ⟨[(.agg l1)]⟩ w R :=
  calls_of_eq Try.mix Try.f59 [(.agg l1)] [kS] R 29 [.tmp 2] (by kernel_rfl) (by kernel_rfl) (by kernel_rfl) (by kernel_rfl) (by kernel_rfl)
    (.s .o (.s .o (.s (.s .o (.b (.l [(3, kS), (4, kI)] (.s (.s .o (.c .o .o)) (.s (.b (.s .o (.b (.l [(3, kS), (5, kI)] (.s (.s .o (.c .o .o)) (.s (.b (.s .o (.c .o .o))) .o)))))) .o))))) (.s .o .o))))
    (by kernel_rfl) h
/-- kraft.Sum -/
def kraft_Sum.E (l1 : (Array Value)) (R : Int → World → Prop) (w : World) : Prop :=
 Nw 23 l1 w fun (b3 : Nat) (w_2 : World) =>
 Ld (.arr 258) (⟨b3, 0, none⟩ : Addr) w_2 fun (x4 : (Array Value)) =>
 ∃ (I_5 : Int → Int → World → Prop) (m_6 : Int → Int → World → Nat), I_5 (0) (0) w_2 ∧
 ∀ (sum7 : Int) (t6_8 : Int), ∀ (w_9 : World), I_5 sum7 t6_8 w_9 →
 IfB (decide ((t6_8 : Int) < (258 : Int)))
 (IdxV (.int .u8) x4 258 t6_8 fun (e10 : Int) =>
 Cl Try.prog [kI] n_kraft_share ⟨[(.int .u8 e10)]⟩ w_9 fun (r12 : Int) (w_11 : World) =>
 I_5 ((i64 ((sum7 : Int) + (r12 : Int)))) ((i64 ((t6_8 : Int) + (1 : Int)))) w_11 ∧ m_6 ((i64 ((sum7 : Int) + (r12 : Int)))) ((i64 ((t6_8 : Int) + (1 : Int)))) w_11 < m_6 sum7 t6_8 w_9)
 (R (sum7) w_9)
theorem kraft_Sum.ok (l1 : (Array Value)) (R : Int → World → Prop) (w : World) (h : kraft_Sum.E l1 R w) : Cl Try.prog [kI] n_kraft_Sum ⟨[(.agg l1)]⟩ w R :=
  calls_of_eq Try.mix Try.f60 [(.agg l1)] [kI] R 15 [.tmp 2] (by kernel_rfl) (by kernel_rfl) (by kernel_rfl) (by kernel_rfl) (by kernel_rfl)
    (.s .o (.s (.s .o (.b (.l [(2, kI), (6, kI)] (.s .o (.s (.c .o .o) (.s (.b (.s .o .o)) .o)))))) (.s .o .o)))
    (by kernel_rfl) h
/-- slices.stableCmpFunc[int] -/
def slices_stableCmpFunc_int.E (data1 : Sl) (n2 : Int) (cmp3 : Value) (R : World → Prop) (w : World) : Prop :=
 ∃ (I_4 : Int → Int → World → Prop) (m_5 : Int → Int → World → Nat), I_4 (0) (20) w ∧
 ∀ (a6 : Int) (b7 : Int), ∀ (w_8 : World), I_4 a6 b7 w_8 →
 IfB (decide ((b7 : Int) ≤ (n2 : Int)))
 (Cl Try.prog [] n_slices_insertionSortCmpFunc_int ⟨[(.slice data1.base data1.len data1.cap), (.int .i64 a6), (.int .i64 b7), cmp3]⟩ w_8 fun  (w_9 : World) =>
 I_4 (b7) ((i64 ((b7 : Int) + (20 : Int)))) w_9 ∧ m_5 (b7) ((i64 ((b7 : Int) + (20 : Int)))) w_9 < m_5 a6 b7 w_8)
 (Cl Try.prog [] n_slices_insertionSortCmpFunc_int ⟨[(.slice data1.base data1.len data1.cap), (.int .i64 a6), (.int .i64 n2), cmp3]⟩ w_8 fun  (w_10 : World) =>
 ∃ (I_11 : Int → World → Prop) (m_12 : Int → World → Nat), I_11 (20) w_10 ∧
 ∀ (blockSize13 : Int), ∀ (w_14 : World), I_11 blockSize13 w_14 →
 IfB (decide ((blockSize13 : Int) < (n2 : Int)))
 (∃ (I_15 : Int → Int → World → Prop) (m_16 : Int → Int → World → Nat), I_15 (0) ((i64 ((2 : Int) * (blockSize13 : Int)))) w_14 ∧
 ∀ (a17 : Int) (b18 : Int), ∀ (w_19 : World), I_15 a17 b18 w_19 →
 IfB (decide ((b18 : Int) ≤ (n2 : Int)))
 (Cl Try.prog [] n_slices_symMergeCmpFunc_int ⟨[(.slice data1.base data1.len data1.cap), (.int .i64 a17), (.int .i64 (i64 ((a17 : Int) + (blockSize13 : Int)))), (.int .i64 b18), cmp3]⟩ w_19 fun  (w_20 : World) =>
 I_15 (b18) ((i64 ((b18 : Int) + ((i64 ((2 : Int) * (blockSize13 : Int))) : Int)))) w_20 ∧ m_16 (b18) ((i64 ((b18 : Int) + ((i64 ((2 : Int) * (blockSize13 : Int))) : Int)))) w_20 < m_16 a17 b18 w_19)
 (IfB (decide (((i64 ((a17 : Int) + (blockSize13 : Int))) : Int) < (n2 : Int)))
 (Cl Try.prog [] n_slices_symMergeCmpFunc_int ⟨[(.slice data1.base data1.len data1.cap), (.int .i64 a17), (.int .i64 (i64 ((a17 : Int) + (blockSize13 : Int)))), (.int .i64 n2), cmp3]⟩ w_19 fun  (w_21 : World) =>
 I_11 ((i64 ((blockSize13 : Int) * (2 : Int)))) w_21 ∧ m_12 ((i64 ((blockSize13 : Int) * (2 : Int)))) w_21 < m_12 blockSize13 w_14)
 (I_11 ((i64 ((blockSize13 : Int) * (2 : Int)))) w_19 ∧ m_12 ((i64 ((blockSize13 : Int) * (2 : Int)))) w_19 < m_12 blockSize13 w_14)))
 (R  w_14))
theorem slices_stableCmpFunc_int.ok (data1 : Sl) (n2 : Int) (cmp3 : Value) (R : World → Prop) (w : World) (h : slices_stableCmpFunc_int.E data1 n2 cmp3 R w) : Cl Try.prog [] n_slices_stableCmpFunc_int ⟨[(.slice data1.base data1.len data1.cap), (.int .i64 n2), cmp3]⟩ w R :=
  calls_of_eq Try.mix Try.f61 [(.slice data1.base data1.len data1.cap), (.int .i64 n2), cmp3] [] R 63 [] (by kernel_rfl) (by kernel_rfl) (by kernel_rfl) (by kernel_rfl) (by kernel_rfl)
    (.s .o (.s .o (.s (.b (.l [(7, kI), (8, kI)] (.s (.s .o (.c .o .o)) (.b (.s .o (.s .o .o)))))) (.s .o (.b (.l [(6, kI)] (.s (.s .o (.c .o .o)) (.b (.s .o (.s (.b (.l [(7, kI), (8, kI)] (.s (.s .o (.c .o .o)) (.b (.s .o (.s .o .o)))))) (.s (.s .o (.s .o (.c .o .o))) .o)))))))))))
    (by kernel_rfl) h
/-- cmp.isNaN[uint8] -/
def cmp_isNaN_uint8.E (x1 : Int) (R : Bool → World → Prop) (w : World) : Prop :=
 R (((x1 : Int) != (x1 : Int))) w
theorem cmp_isNaN_uint8.ok (x1 : Int) (R : Bool → World → Prop) (w : World) (h : cmp_isNaN_uint8.E x1 R w) : Cl Try.prog [kB] n_cmp_isNaN_uint8 ⟨[(.int .u8 x1)]⟩ w R :=
  calls_of_eq Try.mix Try.f62 [(.int .u8 x1)] [kB] R 6 [.tmp 2] (by kernel_rfl) (by kernel_rfl) (by kernel_rfl) (by kernel_rfl) (by kernel_rfl)
    (.s .o (.s .o .o))
    (by kernel_rfl) h
/-- kraft.share -/
def kraft_share.E (n1 : Int) (R : Int → World → Prop) (w : World) : Prop :=
 IfB ((n1 : Int) == (0 : Int))
 (R (0) w)
 (IfB (decide ((n1 : Int) > (15 : Int)))
 (R (32769) w)
 (0 ≤ (n1 : Int) ∧
 R ((ishr .i64 (32768 : Int) (n1 : Int))) w))
theorem kraft_share.ok (n1 : Int) (R : Int → World → Prop) (w : World) (h : kraft_share.E n1 R w) : Cl Try.prog [kI] n_kraft_share ⟨[(.int .u8 n1)]⟩ w R :=
  calls_of_eq Try.mix Try.f63 [(.int .u8 n1)] [kI] R 11 [.tmp 2] (by kernel_rfl) (by kernel_rfl) (by kernel_rfl) (by kernel_rfl) (by kernel_rfl)
    (.s .o (.s (.b (.s .o (.c (.s .o .o) (.s .o (.c (.s .o .o) .o))))) (.s .o .o)))
    (by kernel_rfl) h
/-- slices.insertionSortCmpFunc[int] -/
def slices_insertionSortCmpFunc_int.E (data1 : Sl) (a2 : Int) (b3 : Int) (cmp4 : Value) (R : World → Prop) (w : World) : Prop :=
 ∃ (I_5 : Int → World → Prop) (m_6 : Int → World → Nat), I_5 ((i64 ((a2 : Int) + (1 : Int)))) w ∧
 ∀ (i7 : Int), ∀ (w_8 : World), I_5 i7 w_8 →
 IfB (decide ((i7 : Int) < (b3 : Int)))
 (∃ (I_9 : Int → World → Prop) (m_10 : Int → World → Nat), I_9 (i7) w_8 ∧
 ∀ (j11 : Int), ∀ (w_12 : World), I_9 j11 w_12 →
 Drw w_12 fun (w_13 : World) =>
 IfB (decide ((j11 : Int) > (a2 : Int)))
 (Idx data1 j11 1 fun (q14 : Addr) =>
 Ld kI q14 w_13 fun (x15 : Int) =>
 Idx data1 (i64 ((j11 : Int) - (1 : Int))) 1 fun (q16 : Addr) =>
 Ld kI q16 w_13 fun (x17 : Int) =>
 ClV Try.prog cmp4 [kI] [(.int .i64 x15), (.int .i64 x17)] w_13 fun (r19 : Int) (w_18 : World) =>
 IfB (decide ((r19 : Int) < (0 : Int)))
 (Drw w_18 fun (w_20 : World) =>
 Idx data1 (i64 ((j11 : Int) - (1 : Int))) 1 fun (q21 : Addr) =>
 Ld kI q21 w_20 fun (x22 : Int) =>
 Idx data1 j11 1 fun (q23 : Addr) =>
 Ld kI q23 w_20 fun (x24 : Int) =>
 Idx data1 j11 1 fun (q25 : Addr) =>
 St q25 (.int .i64 x22) w_20 fun (w_26 : World) =>
 Idx data1 (i64 ((j11 : Int) - (1 : Int))) 1 fun (q27 : Addr) =>
 St q27 (.int .i64 x24) w_26 fun (w_28 : World) =>
 I_9 ((i64 ((j11 : Int) - (1 : Int)))) w_28 ∧ m_10 ((i64 ((j11 : Int) - (1 : Int)))) w_28 < m_10 j11 w_12)
 (I_5 ((i64 ((i7 : Int) + (1 : Int)))) w_18 ∧ m_6 ((i64 ((i7 : Int) + (1 : Int)))) w_18 < m_6 i7 w_8))
 (I_5 ((i64 ((i7 : Int) + (1 : Int)))) w_13 ∧ m_6 ((i64 ((i7 : Int) + (1 : Int)))) w_13 < m_6 i7 w_8))
 (R  w_8)
theorem slices_insertionSortCmpFunc_int.ok (data1 : Sl) (a2 : Int) (b3 : Int) (cmp4 : Value) (R : World → Prop) (w : World) (h : slices_insertionSortCmpFunc_int.E data1 a2 b3 cmp4 R w) : Cl Try.prog [] n_slices_insertionSortCmpFunc_int ⟨[(.slice data1.base data1.len data1.cap), (.int .i64 a2), (.int .i64 b3), cmp4]⟩ w R :=
  calls_of_eq Try.mix Try.f64 [(.slice data1.base data1.len data1.cap), (.int .i64 a2), (.int .i64 b3), cmp4] [] R 53 [] (by kernel_rfl) (by kernel_rfl) (by kernel_rfl) (by kernel_rfl) (by kernel_rfl)
    (.s .o (.b (.l [(8, kI)] (.s (.s .o (.c .o .o)) (.s (.b (.s .o (.b (.l [(9, kI)] (.s (.s .o (.c .o .o)) (.s (.b .o) .o)))))) .o)))))
    (by kernel_rfl) h
/-- slices.symMergeCmpFunc[int] -/
def slices_symMergeCmpFunc_int.E (data1 : Sl) (a2 : Int) (m_3 : Int) (b4 : Int) (cmp5 : Value) (R : World → Prop) (w : World) : Prop :=
 IfB (((i64 ((m_3 : Int) - (a2 : Int))) : Int) == (1 : Int))
 (∃ (I_6 : Int → Int → World → Prop) (m_7 : Int → Int → World → Nat), I_6 (m_3) (b4) w ∧
 ∀ (i8 : Int) (j9 : Int), ∀ (w_10 : World), I_6 i8 j9 w_10 →
 IfB (decide ((i8 : Int) < (j9 : Int)))
 (0 ≤ (1 : Int) ∧
 Drw w_10 fun (w_11 : World) =>
 Idx data1 (i64 (ishr .u64 ((u64 (i64 ((i8 : Int) + (j9 : Int)))) : Int) (1 : Int))) 1 fun (q12 : Addr) =>
 Ld kI q12 w_11 fun (x13 : Int) =>
 Idx data1 a2 1 fun (q14 : Addr) =>
 Ld kI q14 w_11 fun (x15 : Int) =>
 ClV Try.prog cmp5 [kI] [(.int .i64 x13), (.int .i64 x15)] w_11 fun (r17 : Int) (w_16 : World) =>
 IfB (decide ((r17 : Int) < (0 : Int)))
 (I_6 ((i64 (((i64 (ishr .u64 ((u64 (i64 ((i8 : Int) + (j9 : Int)))) : Int) (1 : Int))) : Int) + (1 : Int)))) (j9) w_16 ∧ m_7 ((i64 (((i64 (ishr .u64 ((u64 (i64 ((i8 : Int) + (j9 : Int)))) : Int) (1 : Int))) : Int) + (1 : Int)))) (j9) w_16 < m_7 i8 j9 w_10)
 (I_6 (i8) ((i64 (ishr .u64 ((u64 (i64 ((i8 : Int) + (j9 : Int)))) : Int) (1 : Int)))) w_16 ∧ m_7 (i8) ((i64 (ishr .u64 ((u64 (i64 ((i8 : Int) + (j9 : Int)))) : Int) (1 : Int)))) w_16 < m_7 i8 j9 w_10))
 (∃ (I_18 : Int → World → Prop) (m_19 : Int → World → Nat), I_18 (a2) w_10 ∧
 ∀ (k20 : Int), ∀ (w_21 : World), I_18 k20 w_21 →
 IfB (decide ((k20 : Int) < ((i64 ((i8 : Int) - (1 : Int))) : Int)))
 (Drw w_21 fun (w_22 : World) =>
 Idx data1 (i64 ((k20 : Int) + (1 : Int))) 1 fun (q23 : Addr) =>
 Ld kI q23 w_22 fun (x24 : Int) =>
 Idx data1 k20 1 fun (q25 : Addr) =>
 Ld kI q25 w_22 fun (x26 : Int) =>
 Idx data1 k20 1 fun (q27 : Addr) =>
 St q27 (.int .i64 x24) w_22 fun (w_28 : World) =>
 Idx data1 (i64 ((k20 : Int) + (1 : Int))) 1 fun (q29 : Addr) =>
 St q29 (.int .i64 x26) w_28 fun (w_30 : World) =>
 I_18 ((i64 ((k20 : Int) + (1 : Int)))) w_30 ∧ m_19 ((i64 ((k20 : Int) + (1 : Int)))) w_30 < m_19 k20 w_21)
 (R  w_21)))
 (IfB (((i64 ((b4 : Int) - (m_3 : Int))) : Int) == (1 : Int))
 (∃ (I_31 : Int → Int → World → Prop) (m_32 : Int → Int → World → Nat), I_31 (a2) (m_3) w ∧
 ∀ (i33 : Int) (j34 : Int), ∀ (w_35 : World), I_31 i33 j34 w_35 →
 IfB (decide ((i33 : Int) < (j34 : Int)))
 (0 ≤ (1 : Int) ∧
 Drw w_35 fun (w_36 : World) =>
 Idx data1 m_3 1 fun (q37 : Addr) =>
 Ld kI q37 w_36 fun (x38 : Int) =>
 Idx data1 (i64 (ishr .u64 ((u64 (i64 ((i33 : Int) + (j34 : Int)))) : Int) (1 : Int))) 1 fun (q39 : Addr) =>
 Ld kI q39 w_36 fun (x40 : Int) =>
 ClV Try.prog cmp5 [kI] [(.int .i64 x38), (.int .i64 x40)] w_36 fun (r42 : Int) (w_41 : World) =>
 IfB (!(decide ((r42 : Int) < (0 : Int))))
 (I_31 ((i64 (((i64 (ishr .u64 ((u64 (i64 ((i33 : Int) + (j34 : Int)))) : Int) (1 : Int))) : Int) + (1 : Int)))) (j34) w_41 ∧ m_32 ((i64 (((i64 (ishr .u64 ((u64 (i64 ((i33 : Int) + (j34 : Int)))) : Int) (1 : Int))) : Int) + (1 : Int)))) (j34) w_41 < m_32 i33 j34 w_35)
 (I_31 (i33) ((i64 (ishr .u64 ((u64 (i64 ((i33 : Int) + (j34 : Int)))) : Int) (1 : Int)))) w_41 ∧ m_32 (i33) ((i64 (ishr .u64 ((u64 (i64 ((i33 : Int) + (j34 : Int)))) : Int) (1 : Int)))) w_41 < m_32 i33 j34 w_35))
 (∃ (I_43 : Int → World → Prop) (m_44 : Int → World → Nat), I_43 (m_3) w_35 ∧
 ∀ (k45 : Int), ∀ (w_46 : World), I_43 k45 w_46 →
 IfB (decide ((k45 : Int) > (i33 : Int)))
 (Drw w_46 fun (w_47 : World) =>
 Idx data1 (i64 ((k45 : Int) - (1 : Int))) 1 fun (q48 : Addr) =>
 Ld kI q48 w_47 fun (x49 : Int) =>
 Idx data1 k45 1 fun (q50 : Addr) =>
 Ld kI q50 w_47 fun (x51 : Int) =>
 Idx data1 k45 1 fun (q52 : Addr) =>
 St q52 (.int .i64 x49) w_47 fun (w_53 : World) =>
 Idx data1 (i64 ((k45 : Int) - (1 : Int))) 1 fun (q54 : Addr) =>
 St q54 (.int .i64 x51) w_53 fun (w_55 : World) =>
 I_43 ((i64 ((k45 : Int) - (1 : Int)))) w_55 ∧ m_44 ((i64 ((k45 : Int) - (1 : Int)))) w_55 < m_44 k45 w_46)
 (R  w_46)))
 (0 ≤ (1 : Int) ∧
 Join (fun (start57 : Int) (r58 : Int) (w_59 : World) =>
 ∃ (I_60 : Int → Int → World → Prop) (m_61 : Int → Int → World → Nat), I_60 (start57) (r58) w_59 ∧
 ∀ (start62 : Int) (r63 : Int), ∀ (w_64 : World), I_60 start62 r63 w_64 →
 IfB (decide ((start62 : Int) < (r63 : Int)))
 (0 ≤ (1 : Int) ∧
 Drw w_64 fun (w_65 : World) =>
 Idx data1 (i64 (((i64 (((i64 (((i64 (ishr .u64 ((u64 (i64 ((a2 : Int) + (b4 : Int)))) : Int) (1 : Int))) : Int) + (m_3 : Int))) : Int) - (1 : Int))) : Int) - ((i64 (ishr .u64 ((u64 (i64 ((start62 : Int) + (r63 : Int)))) : Int) (1 : Int))) : Int))) 1 fun (q66 : Addr) =>
 Ld kI q66 w_65 fun (x67 : Int) =>
 Idx data1 (i64 (ishr .u64 ((u64 (i64 ((start62 : Int) + (r63 : Int)))) : Int) (1 : Int))) 1 fun (q68 : Addr) =>
 Ld kI q68 w_65 fun (x69 : Int) =>
 ClV Try.prog cmp5 [kI] [(.int .i64 x67), (.int .i64 x69)] w_65 fun (r71 : Int) (w_70 : World) =>
 IfB (!(decide ((r71 : Int) < (0 : Int))))
 (I_60 ((i64 (((i64 (ishr .u64 ((u64 (i64 ((start62 : Int) + (r63 : Int)))) : Int) (1 : Int))) : Int) + (1 : Int)))) (r63) w_70 ∧ m_61 ((i64 (((i64 (ishr .u64 ((u64 (i64 ((start62 : Int) + (r63 : Int)))) : Int) (1 : Int))) : Int) + (1 : Int)))) (r63) w_70 < m_61 start62 r63 w_64)
 (I_60 (start62) ((i64 (ishr .u64 ((u64 (i64 ((start62 : Int) + (r63 : Int)))) : Int) (1 : Int)))) w_70 ∧ m_61 (start62) ((i64 (ishr .u64 ((u64 (i64 ((start62 : Int) + (r63 : Int)))) : Int) (1 : Int)))) w_70 < m_61 start62 r63 w_64))
 (Join (fun (w_74 : World) =>
 IfB (decide ((a2 : Int) < (start62 : Int)))
 (IfB (decide ((start62 : Int) < ((i64 (ishr .u64 ((u64 (i64 ((a2 : Int) + (b4 : Int)))) : Int) (1 : Int))) : Int)))
 (Cl Try.prog [] n_slices_symMergeCmpFunc_int ⟨[(.slice data1.base data1.len data1.cap), (.int .i64 a2), (.int .i64 start62), (.int .i64 (i64 (ishr .u64 ((u64 (i64 ((a2 : Int) + (b4 : Int)))) : Int) (1 : Int)))), cmp5]⟩ w_74 fun  (w_75 : World) =>
 IfB (decide (((i64 (ishr .u64 ((u64 (i64 ((a2 : Int) + (b4 : Int)))) : Int) (1 : Int))) : Int) < ((i64 (((i64 (((i64 (ishr .u64 ((u64 (i64 ((a2 : Int) + (b4 : Int)))) : Int) (1 : Int))) : Int) + (m_3 : Int))) : Int) - (start62 : Int))) : Int)))
 (IfB (decide (((i64 (((i64 (((i64 (ishr .u64 ((u64 (i64 ((a2 : Int) + (b4 : Int)))) : Int) (1 : Int))) : Int) + (m_3 : Int))) : Int) - (start62 : Int))) : Int) < (b4 : Int)))
 (Cl Try.prog [] n_slices_symMergeCmpFunc_int ⟨[(.slice data1.base data1.len data1.cap), (.int .i64 (i64 (ishr .u64 ((u64 (i64 ((a2 : Int) + (b4 : Int)))) : Int) (1 : Int)))), (.int .i64 (i64 (((i64 (((i64 (ishr .u64 ((u64 (i64 ((a2 : Int) + (b4 : Int)))) : Int) (1 : Int))) : Int) + (m_3 : Int))) : Int) - (start62 : Int)))), (.int .i64 b4), cmp5]⟩ w_75 fun  (w_76 : World) =>
 R  w_76)
 (R  w_75))
 (R  w_75))
 (IfB (decide (((i64 (ishr .u64 ((u64 (i64 ((a2 : Int) + (b4 : Int)))) : Int) (1 : Int))) : Int) < ((i64 (((i64 (((i64 (ishr .u64 ((u64 (i64 ((a2 : Int) + (b4 : Int)))) : Int) (1 : Int))) : Int) + (m_3 : Int))) : Int) - (start62 : Int))) : Int)))
 (IfB (decide (((i64 (((i64 (((i64 (ishr .u64 ((u64 (i64 ((a2 : Int) + (b4 : Int)))) : Int) (1 : Int))) : Int) + (m_3 : Int))) : Int) - (start62 : Int))) : Int) < (b4 : Int)))
 (Cl Try.prog [] n_slices_symMergeCmpFunc_int ⟨[(.slice data1.base data1.len data1.cap), (.int .i64 (i64 (ishr .u64 ((u64 (i64 ((a2 : Int) + (b4 : Int)))) : Int) (1 : Int)))), (.int .i64 (i64 (((i64 (((i64 (ishr .u64 ((u64 (i64 ((a2 : Int) + (b4 : Int)))) : Int) (1 : Int))) : Int) + (m_3 : Int))) : Int) - (start62 : Int)))), (.int .i64 b4), cmp5]⟩ w_74 fun  (w_77 : World) =>
 R  w_77)
 (R  w_74))
 (R  w_74)))
 (IfB (decide (((i64 (ishr .u64 ((u64 (i64 ((a2 : Int) + (b4 : Int)))) : Int) (1 : Int))) : Int) < ((i64 (((i64 (((i64 (ishr .u64 ((u64 (i64 ((a2 : Int) + (b4 : Int)))) : Int) (1 : Int))) : Int) + (m_3 : Int))) : Int) - (start62 : Int))) : Int)))
 (IfB (decide (((i64 (((i64 (((i64 (ishr .u64 ((u64 (i64 ((a2 : Int) + (b4 : Int)))) : Int) (1 : Int))) : Int) + (m_3 : Int))) : Int) - (start62 : Int))) : Int) < (b4 : Int)))
 (Cl Try.prog [] n_slices_symMergeCmpFunc_int ⟨[(.slice data1.base data1.len data1.cap), (.int .i64 (i64 (ishr .u64 ((u64 (i64 ((a2 : Int) + (b4 : Int)))) : Int) (1 : Int)))), (.int .i64 (i64 (((i64 (((i64 (ishr .u64 ((u64 (i64 ((a2 : Int) + (b4 : Int)))) : Int) (1 : Int))) : Int) + (m_3 : Int))) : Int) - (start62 : Int)))), (.int .i64 b4), cmp5]⟩ w_74 fun  (w_78 : World) =>
 R  w_78)
 (R  w_74))
 (R  w_74))) fun (K_72 : World → Prop) =>
 IfB (decide ((start62 : Int) < (m_3 : Int)))
 (IfB (decide ((m_3 : Int) < ((i64 (((i64 (((i64 (ishr .u64 ((u64 (i64 ((a2 : Int) + (b4 : Int)))) : Int) (1 : Int))) : Int) + (m_3 : Int))) : Int) - (start62 : Int))) : Int)))
 (Cl Try.prog [] n_slices_rotateCmpFunc_int ⟨[(.slice data1.base data1.len data1.cap), (.int .i64 start62), (.int .i64 m_3), (.int .i64 (i64 (((i64 (((i64 (ishr .u64 ((u64 (i64 ((a2 : Int) + (b4 : Int)))) : Int) (1 : Int))) : Int) + (m_3 : Int))) : Int) - (start62 : Int)))), cmp5]⟩ w_64 fun  (w_73 : World) =>
 K_72  w_73)
 (K_72  w_64))
 (K_72  w_64))) fun (K_56 : Int → Int → World → Prop) =>
 IfB (decide ((m_3 : Int) > ((i64 (ishr .u64 ((u64 (i64 ((a2 : Int) + (b4 : Int)))) : Int) (1 : Int))) : Int)))
 (K_56 ((i64 (((i64 (((i64 (ishr .u64 ((u64 (i64 ((a2 : Int) + (b4 : Int)))) : Int) (1 : Int))) : Int) + (m_3 : Int))) : Int) - (b4 : Int)))) ((i64 (ishr .u64 ((u64 (i64 ((a2 : Int) + (b4 : Int)))) : Int) (1 : Int)))) w)
 (K_56 (a2) (m_3) w)))
theorem slices_symMergeCmpFunc_int.ok (data1 : Sl) (a2 : Int) (m_3 : Int) (b4 : Int) (cmp5 : Value) (R : World → Prop) (w : World) (h : slices_symMergeCmpFunc_int.E data1 a2 m_3 b4 cmp5 R w) : Cl Try.prog [] n_slices_symMergeCmpFunc_int ⟨[(.slice data1.base data1.len data1.cap), (.int .i64 a2), (.int .i64 m_3), (.int .i64 b4), cmp5]⟩ w R :=
  calls_of_eq Try.mix Try.f65 [(.slice data1.base data1.len data1.cap), (.int .i64 a2), (.int .i64 m_3), (.int .i64 b4), cmp5] [] R 220 [] (by kernel_rfl) (by kernel_rfl) (by kernel_rfl) (by kernel_rfl) (by kernel_rfl)
    (.s (.s .o (.c (.s .o (.s .o (.s (.b (.l [(10, kI), (11, kI)] (.s (.s .o (.c .o .o)) (.b (.s .o (.s .o (.c .o .o))))))) (.s (.s .o (.b (.l [(13, kI)] (.s (.s .o (.c .o .o)) (.s (.b .o) .o))))) .o)))) .o)) (.s (.s .o (.c (.s .o (.s .o (.s (.b (.l [(14, kI), (15, kI)] (.s (.s .o (.c .o .o)) (.b (.s .o (.s .o (.c .o .o))))))) (.s (.s .o (.b (.l [(17, kI)] (.s (.s .o (.c .o .o)) (.s (.b .o) .o))))) .o)))) .o)) (.s .o (.s .o (.s .o (.j [(20, kI), (21, kI)] (.s .o (.c (.s .o .o) (.s .o .o))) (.s .o (.s (.b (.l [(20, kI), (21, kI)] (.s (.s .o (.c .o .o)) (.b (.s .o (.s .o (.c .o .o))))))) (.s .o (.j [] (.s .o (.c .o .o)) (.s (.s .o (.c .o .o)) (.s .o (.c .o .o)))))))))))))
    (by kernel_rfl) h
/-- slices.rotateCmpFunc[int] -/
def slices_rotateCmpFunc_int.E (data1 : Sl) (a2 : Int) (m_3 : Int) (b4 : Int) (cmp5 : Value) (R : World → Prop) (w : World) : Prop :=
 ∃ (I_6 : Int → Int → World → Prop) (m_7 : Int → Int → World → Nat), I_6 ((i64 ((m_3 : Int) - (a2 : Int)))) ((i64 ((b4 : Int) - (m_3 : Int)))) w ∧
 ∀ (i8 : Int) (j9 : Int), ∀ (w_10 : World), I_6 i8 j9 w_10 →
 IfB ((i8 : Int) != (j9 : Int))
 (IfB (decide ((i8 : Int) > (j9 : Int)))
 (Cl Try.prog [] n_slices_swapRangeCmpFunc_int ⟨[(.slice data1.base data1.len data1.cap), (.int .i64 (i64 ((m_3 : Int) - (i8 : Int)))), (.int .i64 m_3), (.int .i64 j9), cmp5]⟩ w_10 fun  (w_11 : World) =>
 I_6 ((i64 ((i8 : Int) - (j9 : Int)))) (j9) w_11 ∧ m_7 ((i64 ((i8 : Int) - (j9 : Int)))) (j9) w_11 < m_7 i8 j9 w_10)
 (Cl Try.prog [] n_slices_swapRangeCmpFunc_int ⟨[(.slice data1.base data1.len data1.cap), (.int .i64 (i64 ((m_3 : Int) - (i8 : Int)))), (.int .i64 (i64 (((i64 ((m_3 : Int) + (j9 : Int))) : Int) - (i8 : Int)))), (.int .i64 i8), cmp5]⟩ w_10 fun  (w_12 : World) =>
 I_6 (i8) ((i64 ((j9 : Int) - (i8 : Int)))) w_12 ∧ m_7 (i8) ((i64 ((j9 : Int) - (i8 : Int)))) w_12 < m_7 i8 j9 w_10))
 (Cl Try.prog [] n_slices_swapRangeCmpFunc_int ⟨[(.slice data1.base data1.len data1.cap), (.int .i64 (i64 ((m_3 : Int) - (i8 : Int)))), (.int .i64 m_3), (.int .i64 i8), cmp5]⟩ w_10 fun  (w_13 : World) =>
 R  w_13)
theorem slices_rotateCmpFunc_int.ok (data1 : Sl) (a2 : Int) (m_3 : Int) (b4 : Int) (cmp5 : Value) (R : World → Prop) (w : World) (h : slices_rotateCmpFunc_int.E data1 a2 m_3 b4 cmp5 R w) : Cl Try.prog [] n_slices_rotateCmpFunc_int ⟨[(.slice data1.base data1.len data1.cap), (.int .i64 a2), (.int .i64 m_3), (.int .i64 b4), cmp5]⟩ w R :=
  calls_of_eq Try.mix Try.f66 [(.slice data1.base data1.len data1.cap), (.int .i64 a2), (.int .i64 m_3), (.int .i64 b4), cmp5] [] R 58 [] (by kernel_rfl) (by kernel_rfl) (by kernel_rfl) (by kernel_rfl) (by kernel_rfl)
    (.s .o (.s .o (.s (.b (.l [(10, kI), (11, kI)] (.s (.s .o (.c .o .o)) (.b (.s .o (.c (.s .o .o) (.s .o .o))))))) .o)))
    (by kernel_rfl) h
/-- slices.swapRangeCmpFunc[int] -/
def slices_swapRangeCmpFunc_int.E (data1 : Sl) (a2 : Int) (b3 : Int) (n4 : Int) (cmp5 : Value) (R : World → Prop) (w : World) : Prop :=
 ∃ (I_6 : Int → World → Prop) (m_7 : Int → World → Nat), I_6 (0) w ∧
 ∀ (i8 : Int), ∀ (w_9 : World), I_6 i8 w_9 →
 IfB (decide ((i8 : Int) < (n4 : Int)))
 (Drw w_9 fun (w_10 : World) =>
 Idx data1 (i64 ((b3 : Int) + (i8 : Int))) 1 fun (q11 : Addr) =>
 Ld kI q11 w_10 fun (x12 : Int) =>
 Idx data1 (i64 ((a2 : Int) + (i8 : Int))) 1 fun (q13 : Addr) =>
 Ld kI q13 w_10 fun (x14 : Int) =>
 Idx data1 (i64 ((a2 : Int) + (i8 : Int))) 1 fun (q15 : Addr) =>
 St q15 (.int .i64 x12) w_10 fun (w_16 : World) =>
 Idx data1 (i64 ((b3 : Int) + (i8 : Int))) 1 fun (q17 : Addr) =>
 St q17 (.int .i64 x14) w_16 fun (w_18 : World) =>
 I_6 ((i64 ((i8 : Int) + (1 : Int)))) w_18 ∧ m_7 ((i64 ((i8 : Int) + (1 : Int)))) w_18 < m_7 i8 w_9)
 (R  w_9)
theorem slices_swapRangeCmpFunc_int.ok (data1 : Sl) (a2 : Int) (b3 : Int) (n4 : Int) (cmp5 : Value) (R : World → Prop) (w : World) (h : slices_swapRangeCmpFunc_int.E data1 a2 b3 n4 cmp5 R w) : Cl Try.prog [] n_slices_swapRangeCmpFunc_int ⟨[(.slice data1.base data1.len data1.cap), (.int .i64 a2), (.int .i64 b3), (.int .i64 n4), cmp5]⟩ w R :=
  calls_of_eq Try.mix Try.f67 [(.slice data1.base data1.len data1.cap), (.int .i64 a2), (.int .i64 b3), (.int .i64 n4), cmp5] [] R 38 [] (by kernel_rfl) (by kernel_rfl) (by kernel_rfl) (by kernel_rfl) (by kernel_rfl)
    (.s .o (.b (.l [(10, kI)] (.s (.s .o (.c .o .o)) (.s (.b .o) .o)))))
    (by kernel_rfl) h
end Go.Proofs.Ytajpnkioigcejaa
