/-
  The formulas of the functions of this translation, printed by program: each is the verification condition of its function, and holds of no other. Conditions: none.
-/
import Derived.Test.YtcidpcahgkngjaaVc
import Derived.Test.YtcidpcahgkngjaaChecked
namespace Go.Proofs.Ytcidpcahgkngjaa
open Go Go.Vc
abbrev n_law09_CanonicalPrefix : Nat := 3
abbrev n_law09_CanonicalWhole : Nat := 4
abbrev n_law07_PackageMergeMatches : Nat := 5
abbrev n_law07_PackageMergeLeast : Nat := 6
abbrev n_law07_PackageMergeWhole : Nat := 7
abbrev n_law07_PackageMergeLimit : Nat := 8
abbrev n_law07_PackageMergeTurned : Nat := 9
abbrev n_ref07_Sum : Nat := 10
abbrev n_law09_wakes : Nat := 11
abbrev n_canonical_Codes : Nat := 12
abbrev n_canonical_Order : Nat := 13
abbrev n_law09_begins : Nat := 14
abbrev n_packagemerge_Lengths : Nat := 15
abbrev n_ref07_Lengths : Nat := 16
abbrev n_ref07_Ints : Nat := 17
abbrev n_packagemerge_Order : Nat := 18
abbrev n_ref07_Order : Nat := 19
abbrev n_packagemerge_Total : Nat := 20
abbrev n_ref07_Total : Nat := 21
abbrev n_packagemerge_Valid : Nat := 22
abbrev n_ref07_Valid : Nat := 23
abbrev n_law07_wakes : Nat := 24
abbrev n_law07_few : Nat := 25
abbrev n_canonical_Find : Nat := 26
abbrev n_canonical_First : Nat := 27
abbrev n_canonical_Valid : Nat := 28
abbrev n_slices_SortStableFunc_int_int : Nat := 29
abbrev n_canonical_Order_1 : Nat := 30
abbrev n_cmp_Compare_uint8 : Nat := 31
abbrev n_packagemerge_leaves : Nat := 32
abbrev n_packagemerge_next : Nat := 33
abbrev n_ref07_rows : Nat := 34
abbrev n_ref07_count : Nat := 35
abbrev n_packagemerge_Order_1 : Nat := 36
abbrev n_cmp_Compare_int : Nat := 37
abbrev n_slices_ContainsFunc_int_int : Nat := 38
abbrev n_packagemerge_Valid_1 : Nat := 39
abbrev n_kraft_Fits : Nat := 40
abbrev n_slices_stableCmpFunc_int : Nat := 41
abbrev n_cmp_isNaN_uint8 : Nat := 42
abbrev n_ref07_put : Nat := 43
abbrev n_cmp_isNaN_int : Nat := 44
abbrev n_slices_IndexFunc_int_int : Nat := 45
abbrev n_kraft_Sum : Nat := 46
abbrev n_slices_insertionSortCmpFunc_int : Nat := 47
abbrev n_slices_symMergeCmpFunc_int : Nat := 48
abbrev n_kraft_share : Nat := 49
abbrev n_slices_rotateCmpFunc_int : Nat := 50
abbrev n_slices_swapRangeCmpFunc_int : Nat := 51
theorem Try.mix : Try.prog.follows .mixedOrders = true := by kernel_rfl
/-- winepresslaw09.CanonicalPrefix -/
def law09_CanonicalPrefix.E (l1 : (Array Value)) (R : Bool → World → Prop) (w : World) : Prop :=
 Nw 23 l1 w fun (b3 : Nat) (w_2 : World) =>
 Ld (.arr 258) (⟨b3, 0, none⟩ : Addr) w_2 fun (x4 : (Array Value)) =>
 Cl Try.prog [kI] n_ref07_Sum ⟨[(.agg x4)]⟩ w_2 fun (r6 : Int) (w_5 : World) =>
 IfB (decide ((r6 : Int) > (32768 : Int)))
 (Cl Try.prog [kB] n_law09_wakes ⟨[]⟩ w_5 fun (r8 : Bool) (w_7 : World) =>
 R (r8) w_7)
 (Ld (.arr 258) (⟨b3, 0, none⟩ : Addr) w_5 fun (x9 : (Array Value)) =>
 Cl Try.prog [(.arr 258), kI] n_canonical_Codes ⟨[(.agg x9)]⟩ w_5 fun (r11 : (Array Value)) (r12 : Int) (w_10 : World) =>
 Nw 28 ⟨List.replicate 258 (.int .u32 0)⟩ w_10 fun (b14 : Nat) (w_13 : World) =>
 StA 258 (⟨b14, 0, none⟩ : Addr) r11 w_13 fun (w_15 : World) =>
 Ld (.arr 258) (⟨b3, 0, none⟩ : Addr) w_15 fun (x16 : (Array Value)) =>
 Cl Try.prog [kS] n_canonical_Order ⟨[(.agg x16)]⟩ w_15 fun (r18 : Sl) (w_17 : World) =>
 IfB ((r12 : Int) != (0 : Int))
 (R (false) w_17)
 (∃ (I_19 : Int → World → Prop) (m_20 : Int → World → Nat), I_19 (0) w_17 ∧
 ∀ (i21 : Int), ∀ (w_22 : World), I_19 i21 w_22 →
 IfB (decide ((i21 : Int) < ((r18.len : Int) : Int)))
 (Join (fun (w_84 : World) =>
 I_19 ((i64 ((i21 : Int) + (1 : Int)))) w_84 ∧ m_20 ((i64 ((i21 : Int) + (1 : Int)))) w_84 < m_20 i21 w_22) fun (K_23 : World → Prop) =>
 Idx r18 i21 1 fun (q24 : Addr) =>
 Ld kI q24 w_22 fun (x25 : Int) =>
 Join (fun (w_34 : World) =>
 IfB ((i21 : Int) == (0 : Int))
 (IdxP (⟨b14, 0, none⟩ : Addr) 258 x25 1 fun (q35 : Addr) =>
 Ld (kInt .u32) q35 w_34 fun (x36 : Int) =>
 IfB ((x36 : Int) != (0 : Int))
 (R (false) w_34)
 (K_23  w_34))
 (Idx r18 (i64 ((i21 : Int) - (1 : Int))) 1 fun (q37 : Addr) =>
 Ld kI q37 w_34 fun (x38 : Int) =>
 Drw w_34 fun (w_39 : World) =>
 IdxP (⟨b3, 0, none⟩ : Addr) 258 x38 1 fun (q40 : Addr) =>
 Ld (kInt .u8) q40 w_39 fun (x41 : Int) =>
 IdxP (⟨b3, 0, none⟩ : Addr) 258 x25 1 fun (q42 : Addr) =>
 Ld (kInt .u8) q42 w_39 fun (x43 : Int) =>
 IfB (decide ((x41 : Int) > (x43 : Int)))
 (R (false) w_39)
 (IdxP (⟨b3, 0, none⟩ : Addr) 258 x38 1 fun (q44 : Addr) =>
 Ld (kInt .u8) q44 w_39 fun (x45 : Int) =>
 IdxP (⟨b3, 0, none⟩ : Addr) 258 x25 1 fun (q46 : Addr) =>
 Ld (kInt .u8) q46 w_39 fun (x47 : Int) =>
 IfB ((x45 : Int) == (x47 : Int))
 (IfB (decide ((x38 : Int) ≥ (x25 : Int)))
 (R (false) w_39)
 (IdxP (⟨b14, 0, none⟩ : Addr) 258 x25 1 fun (q48 : Addr) =>
 Ld (kInt .u32) q48 w_39 fun (x49 : Int) =>
 IdxP (⟨b3, 0, none⟩ : Addr) 258 x25 1 fun (q50 : Addr) =>
 Ld (kInt .u8) q50 w_39 fun (x51 : Int) =>
 0 ≤ ((u64 (i64 ((15 : Int) - ((i64 x51) : Int)))) : Int) ∧
 IdxP (⟨b14, 0, none⟩ : Addr) 258 x38 1 fun (q52 : Addr) =>
 Ld (kInt .u32) q52 w_39 fun (x53 : Int) =>
 IdxP (⟨b3, 0, none⟩ : Addr) 258 x38 1 fun (q54 : Addr) =>
 Ld (kInt .u8) q54 w_39 fun (x55 : Int) =>
 0 ≤ ((u64 (i64 ((15 : Int) - ((i64 x55) : Int)))) : Int) ∧
 IfB (decide (((ishl .u32 (x49 : Int) ((u64 (i64 ((15 : Int) - ((i64 x51) : Int)))) : Int)) : Int) ≤ ((ishl .u32 (x53 : Int) ((u64 (i64 ((15 : Int) - ((i64 x55) : Int)))) : Int)) : Int)))
 (R (false) w_39)
 (IdxP (⟨b14, 0, none⟩ : Addr) 258 x38 1 fun (q56 : Addr) =>
 Ld (kInt .u32) q56 w_39 fun (x57 : Int) =>
 IdxP (⟨b3, 0, none⟩ : Addr) 258 x38 1 fun (q58 : Addr) =>
 Ld (kInt .u8) q58 w_39 fun (x59 : Int) =>
 IdxP (⟨b14, 0, none⟩ : Addr) 258 x25 1 fun (q60 : Addr) =>
 Ld (kInt .u32) q60 w_39 fun (x61 : Int) =>
 IdxP (⟨b3, 0, none⟩ : Addr) 258 x25 1 fun (q62 : Addr) =>
 Ld (kInt .u8) q62 w_39 fun (x63 : Int) =>
 Cl Try.prog [kB] n_law09_begins ⟨[(.int .u32 x57), (.int .u8 x59), (.int .u32 x61), (.int .u8 x63)]⟩ w_39 fun (r65 : Bool) (w_64 : World) =>
 IfB r65
 (R (false) w_64)
 (K_23  w_64))))
 (IdxP (⟨b14, 0, none⟩ : Addr) 258 x25 1 fun (q66 : Addr) =>
 Ld (kInt .u32) q66 w_39 fun (x67 : Int) =>
 IdxP (⟨b3, 0, none⟩ : Addr) 258 x25 1 fun (q68 : Addr) =>
 Ld (kInt .u8) q68 w_39 fun (x69 : Int) =>
 0 ≤ ((u64 (i64 ((15 : Int) - ((i64 x69) : Int)))) : Int) ∧
 IdxP (⟨b14, 0, none⟩ : Addr) 258 x38 1 fun (q70 : Addr) =>
 Ld (kInt .u32) q70 w_39 fun (x71 : Int) =>
 IdxP (⟨b3, 0, none⟩ : Addr) 258 x38 1 fun (q72 : Addr) =>
 Ld (kInt .u8) q72 w_39 fun (x73 : Int) =>
 0 ≤ ((u64 (i64 ((15 : Int) - ((i64 x73) : Int)))) : Int) ∧
 IfB (decide (((ishl .u32 (x67 : Int) ((u64 (i64 ((15 : Int) - ((i64 x69) : Int)))) : Int)) : Int) ≤ ((ishl .u32 (x71 : Int) ((u64 (i64 ((15 : Int) - ((i64 x73) : Int)))) : Int)) : Int)))
 (R (false) w_39)
 (IdxP (⟨b14, 0, none⟩ : Addr) 258 x38 1 fun (q74 : Addr) =>
 Ld (kInt .u32) q74 w_39 fun (x75 : Int) =>
 IdxP (⟨b3, 0, none⟩ : Addr) 258 x38 1 fun (q76 : Addr) =>
 Ld (kInt .u8) q76 w_39 fun (x77 : Int) =>
 IdxP (⟨b14, 0, none⟩ : Addr) 258 x25 1 fun (q78 : Addr) =>
 Ld (kInt .u32) q78 w_39 fun (x79 : Int) =>
 IdxP (⟨b3, 0, none⟩ : Addr) 258 x25 1 fun (q80 : Addr) =>
 Ld (kInt .u8) q80 w_39 fun (x81 : Int) =>
 Cl Try.prog [kB] n_law09_begins ⟨[(.int .u32 x75), (.int .u8 x77), (.int .u32 x79), (.int .u8 x81)]⟩ w_39 fun (r83 : Bool) (w_82 : World) =>
 IfB r83
 (R (false) w_82)
 (K_23  w_82)))))) fun (K_26 : World → Prop) =>
 Drw w_22 fun (w_27 : World) =>
 IfB (decide ((x25 : Int) < (0 : Int)))
 (R (false) w_27)
 (IfB (decide ((x25 : Int) ≥ (258 : Int)))
 (R (false) w_27)
 (IdxP (⟨b3, 0, none⟩ : Addr) 258 x25 1 fun (q28 : Addr) =>
 Ld (kInt .u8) q28 w_27 fun (x29 : Int) =>
 IfB (decide ((x29 : Int) < (1 : Int)))
 (R (false) w_27)
 (IdxP (⟨b14, 0, none⟩ : Addr) 258 x25 1 fun (q30 : Addr) =>
 Ld (kInt .u32) q30 w_27 fun (x31 : Int) =>
 IdxP (⟨b3, 0, none⟩ : Addr) 258 x25 1 fun (q32 : Addr) =>
 Ld (kInt .u8) q32 w_27 fun (x33 : Int) =>
 0 ≤ ((u64 x33) : Int) ∧
 IfB (decide ((x31 : Int) ≥ ((ishl .u32 (1 : Int) ((u64 x33) : Int)) : Int)))
 (R (false) w_27)
 (K_26  w_27)))))
 (∃ (I_85 : Int → World → Prop) (m_86 : Int → World → Nat), I_85 (0) w_22 ∧
 ∀ (i87 : Int), ∀ (w_88 : World), I_85 i87 w_88 →
 IfB (decide ((i87 : Int) < ((r18.len : Int) : Int)))
 (∃ (I_89 : Int → World → Prop) (m_90 : Int → World → Nat), I_89 (0) w_88 ∧
 ∀ (k91 : Int), ∀ (w_92 : World), I_89 k91 w_92 →
 IfB (decide ((k91 : Int) < (i87 : Int)))
 (IfB (decide ((k91 : Int) < (40 : Int)))
 (Drw w_92 fun (w_93 : World) =>
 Idx r18 k91 1 fun (q94 : Addr) =>
 Ld kI q94 w_93 fun (x95 : Int) =>
 IdxP (⟨b14, 0, none⟩ : Addr) 258 x95 1 fun (q96 : Addr) =>
 Ld (kInt .u32) q96 w_93 fun (x97 : Int) =>
 Idx r18 k91 1 fun (q98 : Addr) =>
 Ld kI q98 w_93 fun (x99 : Int) =>
 IdxP (⟨b3, 0, none⟩ : Addr) 258 x99 1 fun (q100 : Addr) =>
 Ld (kInt .u8) q100 w_93 fun (x101 : Int) =>
 Idx r18 i87 1 fun (q102 : Addr) =>
 Ld kI q102 w_93 fun (x103 : Int) =>
 IdxP (⟨b14, 0, none⟩ : Addr) 258 x103 1 fun (q104 : Addr) =>
 Ld (kInt .u32) q104 w_93 fun (x105 : Int) =>
 Idx r18 i87 1 fun (q106 : Addr) =>
 Ld kI q106 w_93 fun (x107 : Int) =>
 IdxP (⟨b3, 0, none⟩ : Addr) 258 x107 1 fun (q108 : Addr) =>
 Ld (kInt .u8) q108 w_93 fun (x109 : Int) =>
 Cl Try.prog [kB] n_law09_begins ⟨[(.int .u32 x97), (.int .u8 x101), (.int .u32 x105), (.int .u8 x109)]⟩ w_93 fun (r111 : Bool) (w_110 : World) =>
 IfB r111
 (R (false) w_110)
 (I_89 ((i64 ((k91 : Int) + (1 : Int)))) w_110 ∧ m_90 ((i64 ((k91 : Int) + (1 : Int)))) w_110 < m_90 k91 w_92))
 (I_85 ((i64 ((i87 : Int) + (1 : Int)))) w_92 ∧ m_86 ((i64 ((i87 : Int) + (1 : Int)))) w_92 < m_86 i87 w_88))
 (I_85 ((i64 ((i87 : Int) + (1 : Int)))) w_92 ∧ m_86 ((i64 ((i87 : Int) + (1 : Int)))) w_92 < m_86 i87 w_88))
 (Cl Try.prog [kB] n_law09_wakes ⟨[]⟩ w_88 fun (r113 : Bool) (w_112 : World) =>
 R (r113) w_112))))
theorem law09_CanonicalPrefix.ok (l1 : (Array Value)) (R : Bool → World → Prop) (w : World) (h : law09_CanonicalPrefix.E l1 R w) : Cl Try.prog [kB] n_law09_CanonicalPrefix ⟨[(.agg l1)]⟩ w R :=
  calls_of_eq Try.mix Try.f3 [(.agg l1)] [kB] R 168 [.tmp 2] (by kernel_rfl) (by kernel_rfl) (by kernel_rfl) (by kernel_rfl) (by kernel_rfl)
    (.s .o (.s (.s .o (.c (.s .o .o) .o)) (.s .o (.s .o (.s (.s .o (.c (.s .o .o) .o)) (.s (.s .o (.b (.l [(6, kI)] (.s (.s .o (.c .o .o)) (.j [] (.b (.s .o (.j [] (.s .o (.c (.s .o .o) .o)) (.s (.s .o (.c (.s (.s .o (.c (.s .o .o) .o)) .o) .o)) (.s .o (.s .o (.c (.s .o .o) .o))))))) .o))))) (.s (.s .o (.b (.l [(9, kI)] (.s (.s .o (.c .o .o)) (.s (.b (.s .o (.b (.l [(10, kI)] (.s (.s .o (.c .o .o)) (.s (.b (.s .o (.c (.s .o .o) .o))) .o)))))) .o))))) (.s .o .o))))))))
    (by kernel_rfl) h
/-- winepresslaw09.CanonicalWhole -/
def law09_CanonicalWhole.E (l1 : (Array Value)) (bits2 : Int) (R : Bool → World → Prop) (w : World) : Prop :=
 Nw 23 l1 w fun (b4 : Nat) (w_3 : World) =>
 Ld (.arr 258) (⟨b4, 0, none⟩ : Addr) w_3 fun (x5 : (Array Value)) =>
 Cl Try.prog [kI] n_ref07_Sum ⟨[(.agg x5)]⟩ w_3 fun (r7 : Int) (w_6 : World) =>
 IfB (decide ((r7 : Int) > (32768 : Int)))
 (Cl Try.prog [kB] n_law09_wakes ⟨[]⟩ w_6 fun (r9 : Bool) (w_8 : World) =>
 R (r9) w_8)
 (Ld (.arr 258) (⟨b4, 0, none⟩ : Addr) w_6 fun (x10 : (Array Value)) =>
 Cl Try.prog [(.arr 258), kI] n_canonical_Codes ⟨[(.agg x10)]⟩ w_6 fun (r12 : (Array Value)) (r13 : Int) (w_11 : World) =>
 Nw 28 ⟨List.replicate 258 (.int .u32 0)⟩ w_11 fun (b15 : Nat) (w_14 : World) =>
 StA 258 (⟨b15, 0, none⟩ : Addr) r12 w_14 fun (w_16 : World) =>
 (32768 : Int) ≠ 0 ∧
 ∃ (I_17 : Int → Int → World → Prop) (m_18 : Int → Int → World → Nat), I_17 (0) (0) w_16 ∧
 ∀ (n19 : Int) (s20 : Int), ∀ (w_21 : World), I_17 n19 s20 w_21 →
 IfB (decide ((s20 : Int) < (258 : Int)))
 (Drw w_21 fun (w_22 : World) =>
 IdxP (⟨b4, 0, none⟩ : Addr) 258 s20 1 fun (q23 : Addr) =>
 Ld (kInt .u8) q23 w_22 fun (x24 : Int) =>
 IfB (decide ((x24 : Int) > (0 : Int)))
 (IdxP (⟨b4, 0, none⟩ : Addr) 258 s20 1 fun (q25 : Addr) =>
 Ld (kInt .u8) q25 w_22 fun (x26 : Int) =>
 0 ≤ ((u64 (i64 ((15 : Int) - ((i64 x26) : Int)))) : Int) ∧
 IdxP (⟨b15, 0, none⟩ : Addr) 258 s20 1 fun (q27 : Addr) =>
 Ld (kInt .u32) q27 w_22 fun (x28 : Int) =>
 IfB (((ishr .u32 ((Int.tmod (bits2 : Int) (32768 : Int)) : Int) ((u64 (i64 ((15 : Int) - ((i64 x26) : Int)))) : Int)) : Int) == (x28 : Int))
 (I_17 ((i64 ((n19 : Int) + (1 : Int)))) ((i64 ((s20 : Int) + (1 : Int)))) w_22 ∧ m_18 ((i64 ((n19 : Int) + (1 : Int)))) ((i64 ((s20 : Int) + (1 : Int)))) w_22 < m_18 n19 s20 w_21)
 (I_17 (n19) ((i64 ((s20 : Int) + (1 : Int)))) w_22 ∧ m_18 (n19) ((i64 ((s20 : Int) + (1 : Int)))) w_22 < m_18 n19 s20 w_21))
 (I_17 (n19) ((i64 ((s20 : Int) + (1 : Int)))) w_22 ∧ m_18 (n19) ((i64 ((s20 : Int) + (1 : Int)))) w_22 < m_18 n19 s20 w_21))
 (IfB ((r13 : Int) == (0 : Int))
 (IfB (decide ((n19 : Int) ≤ (1 : Int)))
 (IfB (decide ((r7 : Int) < (32768 : Int)))
 (IfB (((n19 : Int) == (1 : Int)) == (decide (((i64 (Int.tmod (bits2 : Int) (32768 : Int))) : Int) < (r7 : Int))))
 (Cl Try.prog [kB] n_law09_wakes ⟨[]⟩ w_21 fun (r30 : Bool) (w_29 : World) =>
 R (r30) w_29)
 (R (false) w_21))
 (IfB ((n19 : Int) == (1 : Int))
 (IfB (((n19 : Int) == (1 : Int)) == (decide (((i64 (Int.tmod (bits2 : Int) (32768 : Int))) : Int) < (r7 : Int))))
 (Cl Try.prog [kB] n_law09_wakes ⟨[]⟩ w_21 fun (r32 : Bool) (w_31 : World) =>
 R (r32) w_31)
 (R (false) w_21))
 (R (false) w_21)))
 (R (false) w_21))
 (R (false) w_21)))
theorem law09_CanonicalWhole.ok (l1 : (Array Value)) (bits2 : Int) (R : Bool → World → Prop) (w : World) (h : law09_CanonicalWhole.E l1 bits2 R w) : Cl Try.prog [kB] n_law09_CanonicalWhole ⟨[(.agg l1), (.int .u32 bits2)]⟩ w R :=
  calls_of_eq Try.mix Try.f4 [(.agg l1), (.int .u32 bits2)] [kB] R 72 [.tmp 4] (by kernel_rfl) (by kernel_rfl) (by kernel_rfl) (by kernel_rfl) (by kernel_rfl)
    (.s .o (.s .o (.s (.s .o (.c (.s .o .o) .o)) (.s .o (.s .o (.s .o (.s (.s .o (.b (.l [(8, kI), (9, kI)] (.s (.s .o (.c .o .o)) (.s (.b (.s .o (.c .o .o))) .o))))) (.s .o .o))))))))
    (by kernel_rfl) h
/-- winepresslaw07.PackageMergeMatches -/
def law07_PackageMergeMatches.E (t1 : (Array Value)) (limit2 : Int) (l3 : (Array Value)) (R : Bool → World → Prop) (w : World) : Prop :=
 Nw 39 t1 w fun (b5 : Nat) (w_4 : World) =>
 Nw 23 l3 w_4 fun (b7 : Nat) (w_6 : World) =>
 Ld (.arr 258) (⟨b5, 0, none⟩ : Addr) w_6 fun (x8 : (Array Value)) =>
 Cl Try.prog [(.arr 258), kI] n_packagemerge_Lengths ⟨[(.agg x8), (.int .i64 limit2)]⟩ w_6 fun (r10 : (Array Value)) (r11 : Int) (w_9 : World) =>
 Nw 23 ⟨List.replicate 258 (.int .u8 0)⟩ w_9 fun (b13 : Nat) (w_12 : World) =>
 StA 258 (⟨b13, 0, none⟩ : Addr) r10 w_12 fun (w_14 : World) =>
 Ld (.arr 258) (⟨b5, 0, none⟩ : Addr) w_14 fun (x15 : (Array Value)) =>
 Cl Try.prog [(.arr 258), kI] n_ref07_Lengths ⟨[(.agg x15), (.int .i64 limit2)]⟩ w_14 fun (r17 : (Array Value)) (r18 : Int) (w_16 : World) =>
 Nw 23 ⟨List.replicate 258 (.int .u8 0)⟩ w_16 fun (b20 : Nat) (w_19 : World) =>
 StA 258 (⟨b20, 0, none⟩ : Addr) r17 w_19 fun (w_21 : World) =>
 Held w_21 fun (S22 : World → Prop) (w_23 : World) =>
 LdS (.arr 258) (⟨b13, 0, none⟩ : Addr) S22 fun (x24 : (Array Value)) =>
 LdS (.arr 258) (⟨b20, 0, none⟩ : Addr) S22 fun (x25 : (Array Value)) =>
 EqA .u8 258 x24 x25 fun (eq26 : Bool) =>
 IfB eq26
 (IfB ((r11 : Int) == (r18 : Int))
 (LdS (.arr 258) (⟨b5, 0, none⟩ : Addr) S22 fun (x27 : (Array Value)) =>
 LdS (.arr 258) (⟨b5, 0, none⟩ : Addr) S22 fun (x28 : (Array Value)) =>
 Cl Try.prog [kS] n_packagemerge_Order ⟨[(.agg x27)]⟩ w_23 fun (r30 : Sl) (w_29 : World) =>
 S22 w_29 ∧
 Cl Try.prog [kS] n_ref07_Order ⟨[(.agg x28)]⟩ w_29 fun (r32 : Sl) (w_31 : World) =>
 S22 w_31 ∧
 Cl Try.prog [kB] n_ref07_Ints ⟨[(.slice r30.base r30.len r30.cap), (.slice r32.base r32.len r32.cap)]⟩ w_31 fun (r34 : Bool) (w_33 : World) =>
 S22 w_33 ∧
 IfB r34
 (LdS (.arr 258) (⟨b5, 0, none⟩ : Addr) S22 fun (x35 : (Array Value)) =>
 LdS (.arr 258) (⟨b7, 0, none⟩ : Addr) S22 fun (x36 : (Array Value)) =>
 LdS (.arr 258) (⟨b5, 0, none⟩ : Addr) S22 fun (x37 : (Array Value)) =>
 LdS (.arr 258) (⟨b7, 0, none⟩ : Addr) S22 fun (x38 : (Array Value)) =>
 Cl Try.prog [kI] n_packagemerge_Total ⟨[(.agg x35), (.agg x36)]⟩ w_33 fun (r40 : Int) (w_39 : World) =>
 S22 w_39 ∧
 Cl Try.prog [kI] n_ref07_Total ⟨[(.agg x37), (.agg x38)]⟩ w_39 fun (r42 : Int) (w_41 : World) =>
 S22 w_41 ∧
 IfB ((r40 : Int) == (r42 : Int))
 (LdS (.arr 258) (⟨b5, 0, none⟩ : Addr) S22 fun (x43 : (Array Value)) =>
 LdS (.arr 258) (⟨b5, 0, none⟩ : Addr) S22 fun (x44 : (Array Value)) =>
 Cl Try.prog [kB] n_packagemerge_Valid ⟨[(.agg x43)]⟩ w_41 fun (r46 : Bool) (w_45 : World) =>
 S22 w_45 ∧
 Cl Try.prog [kB] n_ref07_Valid ⟨[(.agg x44)]⟩ w_45 fun (r48 : Bool) (w_47 : World) =>
 S22 w_47 ∧
 IfB (r46 == r48)
 (Cl Try.prog [kB] n_law07_wakes ⟨[]⟩ w_47 fun (r50 : Bool) (w_49 : World) =>
 S22 w_49 ∧
 R (r50) w_49)
 (R (false) w_47))
 (R (false) w_41))
 (R (false) w_33))
 (R (false) w_23))
 (R (false) w_23)
theorem law07_PackageMergeMatches.ok (t1 : (Array Value)) (limit2 : Int) (l3 : (Array Value)) (R : Bool → World → Prop) (w : World) (h : law07_PackageMergeMatches.E t1 limit2 l3 R w) : Cl Try.prog [kB] n_law07_PackageMergeMatches ⟨[(.agg t1), (.int .i64 limit2), (.agg l3)]⟩ w R :=
  calls_of_eq Try.mix Try.f5 [(.agg t1), (.int .i64 limit2), (.agg l3)] [kB] R 57 [.tmp 6] (by kernel_rfl) (by kernel_rfl) (by kernel_rfl) (by kernel_rfl) (by kernel_rfl)
    (.s .o (.s .o (.s .o (.s .o .o))))
    (by kernel_rfl) h
/-- winepresslaw07.PackageMergeLeast -/
def law07_PackageMergeLeast.E (counts1 : Sl) (limit2 : Int) (R : Bool → World → Prop) (w : World) : Prop :=
 Cl Try.prog [(.arr 258), kI, kB] n_law07_few ⟨[(.slice counts1.base counts1.len counts1.cap)]⟩ w fun (r4 : (Array Value)) (r5 : Int) (r6 : Bool) (w_3 : World) =>
 Nw 39 ⟨List.replicate 258 (.int .i64 0)⟩ w_3 fun (b8 : Nat) (w_7 : World) =>
 StA 258 (⟨b8, 0, none⟩ : Addr) r4 w_7 fun (w_9 : World) =>
 Join (fun (w_21 : World) =>
 Ld (.arr 258) (⟨b8, 0, none⟩ : Addr) w_21 fun (x22 : (Array Value)) =>
 Cl Try.prog [(.arr 258), kI] n_packagemerge_Lengths ⟨[(.agg x22), (.int .i64 limit2)]⟩ w_21 fun (r24 : (Array Value)) (r25 : Int) (w_23 : World) =>
 Nw 23 ⟨List.replicate 258 (.int .u8 0)⟩ w_23 fun (b27 : Nat) (w_26 : World) =>
 StA 258 (⟨b27, 0, none⟩ : Addr) r24 w_26 fun (w_28 : World) =>
 Join (fun (w_33 : World) =>
 ∃ (I_34 : Int → Int → World → Prop) (m_35 : Int → Int → World → Nat), I_34 (0) (0) w_33 ∧
 ∀ (total36 : Int) (s37 : Int), ∀ (w_38 : World), I_34 total36 s37 w_38 →
 IfB (decide ((s37 : Int) < (258 : Int)))
 (Drw w_38 fun (w_39 : World) =>
 IdxP (⟨b27, 0, none⟩ : Addr) 258 s37 1 fun (q40 : Addr) =>
 Ld (kInt .u8) q40 w_39 fun (x41 : Int) =>
 IfB (decide (((i64 x41) : Int) > (limit2 : Int)))
 (R (false) w_39)
 (IdxP (⟨b27, 0, none⟩ : Addr) 258 s37 1 fun (q42 : Addr) =>
 Ld (kInt .u8) q42 w_39 fun (x43 : Int) =>
 IdxP (⟨b8, 0, none⟩ : Addr) 258 s37 1 fun (q44 : Addr) =>
 Ld kI q44 w_39 fun (x45 : Int) =>
 IfB (!((decide ((x43 : Int) > (0 : Int))) == (decide ((x45 : Int) > (0 : Int)))))
 (R (false) w_39)
 (Drw w_39 fun (w_46 : World) =>
 IdxP (⟨b8, 0, none⟩ : Addr) 258 s37 1 fun (q47 : Addr) =>
 Ld kI q47 w_46 fun (x48 : Int) =>
 IdxP (⟨b27, 0, none⟩ : Addr) 258 s37 1 fun (q49 : Addr) =>
 Ld (kInt .u8) q49 w_46 fun (x50 : Int) =>
 I_34 ((i64 ((total36 : Int) + ((i64 ((x48 : Int) * ((i64 x50) : Int))) : Int)))) ((i64 ((s37 : Int) + (1 : Int)))) w_46 ∧ m_35 ((i64 ((total36 : Int) + ((i64 ((x48 : Int) * ((i64 x50) : Int))) : Int)))) ((i64 ((s37 : Int) + (1 : Int)))) w_46 < m_35 total36 s37 w_38)))
 (∃ (I_51 : Int → Int → World → Prop) (m_52 : Int → Int → World → Nat), I_51 (1) (0) w_38 ∧
 ∀ (all_53 : Int) (i54 : Int), ∀ (w_55 : World), I_51 all_53 i54 w_55 →
 IfB (decide ((i54 : Int) < (5 : Int)))
 (I_51 ((i64 ((all_53 : Int) * (limit2 : Int)))) ((i64 ((i54 : Int) + (1 : Int)))) w_55 ∧ m_52 ((i64 ((all_53 : Int) * (limit2 : Int)))) ((i64 ((i54 : Int) + (1 : Int)))) w_55 < m_52 all_53 i54 w_55)
 (∃ (I_56 : Int → World → Prop) (m_57 : Int → World → Nat), I_56 (0) w_55 ∧
 ∀ (x58 : Int), ∀ (w_59 : World), I_56 x58 w_59 →
 IfB (decide ((x58 : Int) < (all_53 : Int)))
 (∃ (I_60 : Int → Int → Int → Int → World → Prop) (m_61 : Int → Int → Int → Int → World → Nat), I_60 (x58) (0) (0) (0) w_59 ∧
 ∀ (y62 : Int) (sum63 : Int) (other64 : Int) (i65 : Int), ∀ (w_66 : World), I_60 y62 sum63 other64 i65 w_66 →
 IfB (decide ((i65 : Int) < (5 : Int)))
 ((limit2 : Int) ≠ 0 ∧
 (limit2 : Int) ≠ 0 ∧
 IdxP (⟨b8, 0, none⟩ : Addr) 258 (i64 ((51 : Int) * (i65 : Int))) 1 fun (q67 : Addr) =>
 Ld kI q67 w_66 fun (x68 : Int) =>
 IfB (decide ((x68 : Int) > (0 : Int)))
 (0 ≤ ((u64 (i64 ((limit2 : Int) - ((i64 ((1 : Int) + ((Int.tmod (y62 : Int) (limit2 : Int)) : Int))) : Int)))) : Int) ∧
 IdxP (⟨b8, 0, none⟩ : Addr) 258 (i64 ((51 : Int) * (i65 : Int))) 1 fun (q69 : Addr) =>
 Ld kI q69 w_66 fun (x70 : Int) =>
 I_60 ((i64 (Int.tdiv (y62 : Int) (limit2 : Int)))) ((i64 ((sum63 : Int) + ((ishl .i64 (1 : Int) ((u64 (i64 ((limit2 : Int) - ((i64 ((1 : Int) + ((Int.tmod (y62 : Int) (limit2 : Int)) : Int))) : Int)))) : Int)) : Int)))) ((i64 ((other64 : Int) + ((i64 (((i64 ((1 : Int) + ((Int.tmod (y62 : Int) (limit2 : Int)) : Int))) : Int) * (x70 : Int))) : Int)))) ((i64 ((i65 : Int) + (1 : Int)))) w_66 ∧ m_61 ((i64 (Int.tdiv (y62 : Int) (limit2 : Int)))) ((i64 ((sum63 : Int) + ((ishl .i64 (1 : Int) ((u64 (i64 ((limit2 : Int) - ((i64 ((1 : Int) + ((Int.tmod (y62 : Int) (limit2 : Int)) : Int))) : Int)))) : Int)) : Int)))) ((i64 ((other64 : Int) + ((i64 (((i64 ((1 : Int) + ((Int.tmod (y62 : Int) (limit2 : Int)) : Int))) : Int) * (x70 : Int))) : Int)))) ((i64 ((i65 : Int) + (1 : Int)))) w_66 < m_61 y62 sum63 other64 i65 w_66)
 (I_60 ((i64 (Int.tdiv (y62 : Int) (limit2 : Int)))) (sum63) (other64) ((i64 ((i65 : Int) + (1 : Int)))) w_66 ∧ m_61 ((i64 (Int.tdiv (y62 : Int) (limit2 : Int)))) (sum63) (other64) ((i64 ((i65 : Int) + (1 : Int)))) w_66 < m_61 y62 sum63 other64 i65 w_66))
 (0 ≤ ((u64 limit2) : Int) ∧
 IfB (decide ((sum63 : Int) ≤ ((ishl .i64 (1 : Int) ((u64 limit2) : Int)) : Int)))
 (IfB (decide ((other64 : Int) < (total36 : Int)))
 (R (false) w_66)
 (I_56 ((i64 ((x58 : Int) + (1 : Int)))) w_66 ∧ m_57 ((i64 ((x58 : Int) + (1 : Int)))) w_66 < m_57 x58 w_59))
 (I_56 ((i64 ((x58 : Int) + (1 : Int)))) w_66 ∧ m_57 ((i64 ((x58 : Int) + (1 : Int)))) w_66 < m_57 x58 w_59)))
 (Cl Try.prog [kB] n_law07_wakes ⟨[]⟩ w_59 fun (r72 : Bool) (w_71 : World) =>
 R (r72) w_71)))) fun (K_29 : World → Prop) =>
 IfB ((r25 : Int) != (0 : Int))
 (R (false) w_28)
 (Ld (.arr 258) (⟨b27, 0, none⟩ : Addr) w_28 fun (x30 : (Array Value)) =>
 Cl Try.prog [kI] n_ref07_Sum ⟨[(.agg x30)]⟩ w_28 fun (r32 : Int) (w_31 : World) =>
 IfB ((r32 : Int) != (32768 : Int))
 (R (false) w_31)
 (K_29  w_31))) fun (K_10 : World → Prop) =>
 IfB (!r6)
 (Cl Try.prog [kB] n_law07_wakes ⟨[]⟩ w_9 fun (r12 : Bool) (w_11 : World) =>
 R (r12) w_11)
 (IfB (decide ((limit2 : Int) < (1 : Int)))
 (Cl Try.prog [kB] n_law07_wakes ⟨[]⟩ w_9 fun (r14 : Bool) (w_13 : World) =>
 R (r14) w_13)
 (IfB (decide ((limit2 : Int) > (5 : Int)))
 (Cl Try.prog [kB] n_law07_wakes ⟨[]⟩ w_9 fun (r16 : Bool) (w_15 : World) =>
 R (r16) w_15)
 (0 ≤ ((u64 limit2) : Int) ∧
 IfB (decide ((r5 : Int) > ((ishl .i64 (1 : Int) ((u64 limit2) : Int)) : Int)))
 (Cl Try.prog [kB] n_law07_wakes ⟨[]⟩ w_9 fun (r18 : Bool) (w_17 : World) =>
 R (r18) w_17)
 (IfB (decide ((r5 : Int) < (2 : Int)))
 (Cl Try.prog [kB] n_law07_wakes ⟨[]⟩ w_9 fun (r20 : Bool) (w_19 : World) =>
 R (r20) w_19)
 (K_10  w_9)))))
theorem law07_PackageMergeLeast.ok (counts1 : Sl) (limit2 : Int) (R : Bool → World → Prop) (w : World) (h : law07_PackageMergeLeast.E counts1 limit2 R w) : Cl Try.prog [kB] n_law07_PackageMergeLeast ⟨[(.slice counts1.base counts1.len counts1.cap), (.int .i64 limit2)]⟩ w R :=
  calls_of_eq Try.mix Try.f6 [(.slice counts1.base counts1.len counts1.cap), (.int .i64 limit2)] [kB] R 147 [.tmp 4] (by kernel_rfl) (by kernel_rfl) (by kernel_rfl) (by kernel_rfl) (by kernel_rfl)
    (.s .o (.s .o (.j [] (.s .o (.c (.s .o .o) .o)) (.s .o (.j [] (.s .o (.c (.s .o .o) .o)) (.s .o (.s (.s .o (.b (.l [(10, kI), (11, kI)] (.s (.s .o (.c .o .o)) (.s (.b (.s (.s .o (.c (.s .o .o) .o)) .o)) .o))))) (.s .o (.s (.s .o (.b (.l [(12, kI), (13, kI)] (.s (.s .o (.c .o .o)) (.s (.b .o) .o))))) (.s (.s .o (.b (.l [(14, kI)] (.s (.s .o (.c .o .o)) (.s (.b (.s .o (.s (.s .o (.b (.l [(15, kI), (16, kI), (17, kI), (18, kI)] (.s (.s .o (.c .o .o)) (.s (.b (.s .o (.s .o (.s .o (.c (.s .o .o) .o))))) .o))))) (.s .o (.c (.s .o .o) .o))))) .o))))) (.s .o .o)))))))))))
    (by kernel_rfl) h
/-- winepresslaw07.PackageMergeWhole -/
def law07_PackageMergeWhole.E (t1 : (Array Value)) (limit2 : Int) (R : Bool → World → Prop) (w : World) : Prop :=
 Nw 39 t1 w fun (b4 : Nat) (w_3 : World) =>
 Ld (.arr 258) (⟨b4, 0, none⟩ : Addr) w_3 fun (x5 : (Array Value)) =>
 Cl Try.prog [(.arr 258), kI] n_packagemerge_Lengths ⟨[(.agg x5), (.int .i64 limit2)]⟩ w_3 fun (r7 : (Array Value)) (r8 : Int) (w_6 : World) =>
 Nw 23 ⟨List.replicate 258 (.int .u8 0)⟩ w_6 fun (b10 : Nat) (w_9 : World) =>
 StA 258 (⟨b10, 0, none⟩ : Addr) r7 w_9 fun (w_11 : World) =>
 Ld (.arr 258) (⟨b4, 0, none⟩ : Addr) w_11 fun (x12 : (Array Value)) =>
 Cl Try.prog [kS] n_packagemerge_Order ⟨[(.agg x12)]⟩ w_11 fun (r14 : Sl) (w_13 : World) =>
 IfB ((r8 : Int) != (0 : Int))
 (IfB ((r8 : Int) == (2 : Int))
 (Ld (.arr 258) (⟨b10, 0, none⟩ : Addr) w_13 fun (x15 : (Array Value)) =>
 Bld Try.prog 23 [] fun (cs16 : Array Value) =>
 EqA .u8 258 x15 cs16 fun (eq17 : Bool) =>
 IfB eq17
 (Cl Try.prog [kB] n_law07_wakes ⟨[]⟩ w_13 fun (r19 : Bool) (w_18 : World) =>
 R (r19) w_18)
 (R (false) w_13))
 (R (false) w_13))
 (∃ (I_20 : Int → World → Prop) (m_21 : Int → World → Nat), I_20 (0) w_13 ∧
 ∀ (i22 : Int), ∀ (w_23 : World), I_20 i22 w_23 →
 IfB (decide ((i22 : Int) < ((r14.len : Int) : Int)))
 (Join (fun (w_54 : World) =>
 I_20 ((i64 ((i22 : Int) + (1 : Int)))) w_54 ∧ m_21 ((i64 ((i22 : Int) + (1 : Int)))) w_54 < m_21 i22 w_23) fun (K_24 : World → Prop) =>
 Idx r14 i22 1 fun (q25 : Addr) =>
 Ld kI q25 w_23 fun (x26 : Int) =>
 Join (fun (w_34 : World) =>
 IfB (decide ((i22 : Int) > (0 : Int)))
 (Idx r14 (i64 ((i22 : Int) - (1 : Int))) 1 fun (q35 : Addr) =>
 Ld kI q35 w_34 fun (x36 : Int) =>
 Drw w_34 fun (w_37 : World) =>
 IdxP (⟨b4, 0, none⟩ : Addr) 258 x36 1 fun (q38 : Addr) =>
 Ld kI q38 w_37 fun (x39 : Int) =>
 IdxP (⟨b4, 0, none⟩ : Addr) 258 x26 1 fun (q40 : Addr) =>
 Ld kI q40 w_37 fun (x41 : Int) =>
 IfB (decide ((x39 : Int) > (x41 : Int)))
 (R (false) w_37)
 (IdxP (⟨b4, 0, none⟩ : Addr) 258 x36 1 fun (q42 : Addr) =>
 Ld kI q42 w_37 fun (x43 : Int) =>
 IdxP (⟨b4, 0, none⟩ : Addr) 258 x26 1 fun (q44 : Addr) =>
 Ld kI q44 w_37 fun (x45 : Int) =>
 IfB ((x43 : Int) == (x45 : Int))
 (IfB (decide ((x36 : Int) ≥ (x26 : Int)))
 (R (false) w_37)
 (IdxP (⟨b10, 0, none⟩ : Addr) 258 x36 1 fun (q46 : Addr) =>
 Ld (kInt .u8) q46 w_37 fun (x47 : Int) =>
 IdxP (⟨b10, 0, none⟩ : Addr) 258 x26 1 fun (q48 : Addr) =>
 Ld (kInt .u8) q48 w_37 fun (x49 : Int) =>
 IfB (decide ((x47 : Int) < (x49 : Int)))
 (R (false) w_37)
 (K_24  w_37)))
 (IdxP (⟨b10, 0, none⟩ : Addr) 258 x36 1 fun (q50 : Addr) =>
 Ld (kInt .u8) q50 w_37 fun (x51 : Int) =>
 IdxP (⟨b10, 0, none⟩ : Addr) 258 x26 1 fun (q52 : Addr) =>
 Ld (kInt .u8) q52 w_37 fun (x53 : Int) =>
 IfB (decide ((x51 : Int) < (x53 : Int)))
 (R (false) w_37)
 (K_24  w_37))))
 (K_24  w_34)) fun (K_27 : World → Prop) =>
 IfB (decide ((x26 : Int) < (0 : Int)))
 (R (false) w_23)
 (IfB (decide ((x26 : Int) ≥ (258 : Int)))
 (R (false) w_23)
 (IdxP (⟨b4, 0, none⟩ : Addr) 258 x26 1 fun (q28 : Addr) =>
 Ld kI q28 w_23 fun (x29 : Int) =>
 IfB (decide ((x29 : Int) < (1 : Int)))
 (R (false) w_23)
 (IdxP (⟨b10, 0, none⟩ : Addr) 258 x26 1 fun (q30 : Addr) =>
 Ld (kInt .u8) q30 w_23 fun (x31 : Int) =>
 IfB (decide (((i64 x31) : Int) > (limit2 : Int)))
 (R (false) w_23)
 (IdxP (⟨b10, 0, none⟩ : Addr) 258 x26 1 fun (q32 : Addr) =>
 Ld (kInt .u8) q32 w_23 fun (x33 : Int) =>
 IfB (decide ((x33 : Int) < (1 : Int)))
 (R (false) w_23)
 (K_27  w_23))))))
 (∃ (I_55 : Int → Int → World → Prop) (m_56 : Int → Int → World → Nat), I_55 (0) (0) w_23 ∧
 ∀ (n57 : Int) (s58 : Int), ∀ (w_59 : World), I_55 n57 s58 w_59 →
 IfB (decide ((s58 : Int) < (258 : Int)))
 (IdxP (⟨b10, 0, none⟩ : Addr) 258 s58 1 fun (q60 : Addr) =>
 Ld (kInt .u8) q60 w_59 fun (x61 : Int) =>
 IfB (decide ((x61 : Int) > (0 : Int)))
 (I_55 ((i64 ((n57 : Int) + (1 : Int)))) ((i64 ((s58 : Int) + (1 : Int)))) w_59 ∧ m_56 ((i64 ((n57 : Int) + (1 : Int)))) ((i64 ((s58 : Int) + (1 : Int)))) w_59 < m_56 n57 s58 w_59)
 (I_55 (n57) ((i64 ((s58 : Int) + (1 : Int)))) w_59 ∧ m_56 (n57) ((i64 ((s58 : Int) + (1 : Int)))) w_59 < m_56 n57 s58 w_59))
 (Ld (.arr 258) (⟨b10, 0, none⟩ : Addr) w_59 fun (x62 : (Array Value)) =>
 Cl Try.prog [kI] n_ref07_Sum ⟨[(.agg x62)]⟩ w_59 fun (r64 : Int) (w_63 : World) =>
 IfB ((n57 : Int) == ((r14.len : Int) : Int))
 (IfB (decide ((n57 : Int) < (2 : Int)))
 (IfB ((n57 : Int) != (1 : Int))
 (Cl Try.prog [kB] n_law07_wakes ⟨[]⟩ w_63 fun (r66 : Bool) (w_65 : World) =>
 R (r66) w_65)
 (IfB ((r64 : Int) == (16384 : Int))
 (Cl Try.prog [kB] n_law07_wakes ⟨[]⟩ w_63 fun (r68 : Bool) (w_67 : World) =>
 R (r68) w_67)
 (R (false) w_63)))
 (IfB ((r64 : Int) == (32768 : Int))
 (IfB ((n57 : Int) != (1 : Int))
 (Cl Try.prog [kB] n_law07_wakes ⟨[]⟩ w_63 fun (r70 : Bool) (w_69 : World) =>
 R (r70) w_69)
 (IfB ((r64 : Int) == (16384 : Int))
 (Cl Try.prog [kB] n_law07_wakes ⟨[]⟩ w_63 fun (r72 : Bool) (w_71 : World) =>
 R (r72) w_71)
 (R (false) w_63)))
 (R (false) w_63)))
 (R (false) w_63))))
theorem law07_PackageMergeWhole.ok (t1 : (Array Value)) (limit2 : Int) (R : Bool → World → Prop) (w : World) (h : law07_PackageMergeWhole.E t1 limit2 R w) : Cl Try.prog [kB] n_law07_PackageMergeWhole ⟨[(.agg t1), (.int .i64 limit2)]⟩ w R :=
  calls_of_eq Try.mix Try.f7 [(.agg t1), (.int .i64 limit2)] [kB] R 142 [.tmp 4] (by kernel_rfl) (by kernel_rfl) (by kernel_rfl) (by kernel_rfl) (by kernel_rfl)
    (.s .o (.s .o (.s .o (.s (.s .o (.c (.s .o .o) .o)) (.s (.s .o (.b (.l [(8, kI)] (.s (.s .o (.c .o .o)) (.j [] (.b (.s .o (.j [] (.s .o (.c (.s .o .o) .o)) (.s .o (.c (.s .o (.s .o (.c (.s .o .o) .o))) .o))))) .o))))) (.s .o (.s (.s .o (.b (.l [(11, kI), (12, kI)] (.s (.s .o (.c .o .o)) (.s (.b (.s .o (.c .o .o))) .o))))) (.s .o (.s .o .o)))))))))
    (by kernel_rfl) h
/-- winepresslaw07.PackageMergeLimit -/
def law07_PackageMergeLimit.E (t1 : (Array Value)) (a2 : Int) (b3 : Int) (R : Bool → World → Prop) (w : World) : Prop :=
 Nw 39 t1 w fun (b5 : Nat) (w_4 : World) =>
 Nw 39 ⟨List.replicate 258 (.int .i64 0)⟩ w_4 fun (b7 : Nat) (w_6 : World) =>
 ∃ (I_8 : Int → World → Prop) (m_9 : Int → World → Nat), I_8 (0) w_6 ∧
 ∀ (s10 : Int), ∀ (w_11 : World), I_8 s10 w_11 →
 IfB (decide ((s10 : Int) < (258 : Int)))
 (IdxP (⟨b5, 0, none⟩ : Addr) 258 s10 1 fun (q12 : Addr) =>
 Ld kI q12 w_11 fun (x13 : Int) =>
 IfB (decide ((x13 : Int) < (0 : Int)))
 (Cl Try.prog [kB] n_law07_wakes ⟨[]⟩ w_11 fun (r15 : Bool) (w_14 : World) =>
 R (r15) w_14)
 (IdxP (⟨b5, 0, none⟩ : Addr) 258 s10 1 fun (q16 : Addr) =>
 Ld kI q16 w_11 fun (x17 : Int) =>
 IfB (decide ((x17 : Int) > (1073741823 : Int)))
 (Cl Try.prog [kB] n_law07_wakes ⟨[]⟩ w_11 fun (r19 : Bool) (w_18 : World) =>
 R (r19) w_18)
 (IdxP (⟨b5, 0, none⟩ : Addr) 258 s10 1 fun (q20 : Addr) =>
 Ld kI q20 w_11 fun (x21 : Int) =>
 IdxP (⟨b7, 0, none⟩ : Addr) 258 s10 1 fun (q22 : Addr) =>
 St q22 (.int .i64 (i64 ((2 : Int) * (x21 : Int)))) w_11 fun (w_23 : World) =>
 I_8 ((i64 ((s10 : Int) + (1 : Int)))) w_23 ∧ m_9 ((i64 ((s10 : Int) + (1 : Int)))) w_23 < m_9 s10 w_11)))
 (Ld (.arr 258) (⟨b5, 0, none⟩ : Addr) w_11 fun (x24 : (Array Value)) =>
 Cl Try.prog [(.arr 258), kI] n_packagemerge_Lengths ⟨[(.agg x24), (.int .i64 a2)]⟩ w_11 fun (r26 : (Array Value)) (r27 : Int) (w_25 : World) =>
 Nw 23 ⟨List.replicate 258 (.int .u8 0)⟩ w_25 fun (b29 : Nat) (w_28 : World) =>
 StA 258 (⟨b29, 0, none⟩ : Addr) r26 w_28 fun (w_30 : World) =>
 Ld (.arr 258) (⟨b5, 0, none⟩ : Addr) w_30 fun (x31 : (Array Value)) =>
 Cl Try.prog [(.arr 258), kI] n_packagemerge_Lengths ⟨[(.agg x31), (.int .i64 b3)]⟩ w_30 fun (r33 : (Array Value)) (r34 : Int) (w_32 : World) =>
 Nw 23 ⟨List.replicate 258 (.int .u8 0)⟩ w_32 fun (b36 : Nat) (w_35 : World) =>
 StA 258 (⟨b36, 0, none⟩ : Addr) r33 w_35 fun (w_37 : World) =>
 Ld (.arr 258) (⟨b7, 0, none⟩ : Addr) w_37 fun (x38 : (Array Value)) =>
 Cl Try.prog [(.arr 258), kI] n_packagemerge_Lengths ⟨[(.agg x38), (.int .i64 a2)]⟩ w_37 fun (r40 : (Array Value)) (r41 : Int) (w_39 : World) =>
 Nw 23 ⟨List.replicate 258 (.int .u8 0)⟩ w_39 fun (b43 : Nat) (w_42 : World) =>
 StA 258 (⟨b43, 0, none⟩ : Addr) r40 w_42 fun (w_44 : World) =>
 IfB ((r27 : Int) != (r41 : Int))
 (R (false) w_44)
 (Ld (.arr 258) (⟨b29, 0, none⟩ : Addr) w_44 fun (x45 : (Array Value)) =>
 Ld (.arr 258) (⟨b43, 0, none⟩ : Addr) w_44 fun (x46 : (Array Value)) =>
 EqA .u8 258 x45 x46 fun (eq47 : Bool) =>
 IfB (!eq47)
 (R (false) w_44)
 (IfB ((r27 : Int) != (0 : Int))
 (Cl Try.prog [kB] n_law07_wakes ⟨[]⟩ w_44 fun (r49 : Bool) (w_48 : World) =>
 R (r49) w_48)
 (IfB ((r34 : Int) != (0 : Int))
 (Cl Try.prog [kB] n_law07_wakes ⟨[]⟩ w_44 fun (r51 : Bool) (w_50 : World) =>
 R (r51) w_50)
 (Held w_44 fun (S52 : World → Prop) (w_53 : World) =>
 IfB (decide ((a2 : Int) > (b3 : Int)))
 (IfB (decide ((a2 : Int) < (b3 : Int)))
 (Cl Try.prog [kB] n_law07_wakes ⟨[]⟩ w_53 fun (r55 : Bool) (w_54 : World) =>
 S52 w_54 ∧
 R (r55) w_54)
 (LdS (.arr 258) (⟨b5, 0, none⟩ : Addr) S52 fun (x56 : (Array Value)) =>
 LdS (.arr 258) (⟨b29, 0, none⟩ : Addr) S52 fun (x57 : (Array Value)) =>
 LdS (.arr 258) (⟨b5, 0, none⟩ : Addr) S52 fun (x58 : (Array Value)) =>
 LdS (.arr 258) (⟨b36, 0, none⟩ : Addr) S52 fun (x59 : (Array Value)) =>
 Cl Try.prog [kI] n_packagemerge_Total ⟨[(.agg x56), (.agg x57)]⟩ w_53 fun (r61 : Int) (w_60 : World) =>
 S52 w_60 ∧
 Cl Try.prog [kI] n_packagemerge_Total ⟨[(.agg x58), (.agg x59)]⟩ w_60 fun (r63 : Int) (w_62 : World) =>
 S52 w_62 ∧
 IfB (decide ((r61 : Int) ≤ (r63 : Int)))
 (Cl Try.prog [kB] n_law07_wakes ⟨[]⟩ w_62 fun (r65 : Bool) (w_64 : World) =>
 S52 w_64 ∧
 R (r65) w_64)
 (R (false) w_62)))
 (LdS (.arr 258) (⟨b5, 0, none⟩ : Addr) S52 fun (x66 : (Array Value)) =>
 LdS (.arr 258) (⟨b29, 0, none⟩ : Addr) S52 fun (x67 : (Array Value)) =>
 LdS (.arr 258) (⟨b5, 0, none⟩ : Addr) S52 fun (x68 : (Array Value)) =>
 LdS (.arr 258) (⟨b36, 0, none⟩ : Addr) S52 fun (x69 : (Array Value)) =>
 Cl Try.prog [kI] n_packagemerge_Total ⟨[(.agg x66), (.agg x67)]⟩ w_53 fun (r71 : Int) (w_70 : World) =>
 S52 w_70 ∧
 Cl Try.prog [kI] n_packagemerge_Total ⟨[(.agg x68), (.agg x69)]⟩ w_70 fun (r73 : Int) (w_72 : World) =>
 S52 w_72 ∧
 IfB (decide ((r71 : Int) ≥ (r73 : Int)))
 (IfB (decide ((a2 : Int) < (b3 : Int)))
 (Cl Try.prog [kB] n_law07_wakes ⟨[]⟩ w_72 fun (r75 : Bool) (w_74 : World) =>
 S52 w_74 ∧
 R (r75) w_74)
 (LdS (.arr 258) (⟨b5, 0, none⟩ : Addr) S52 fun (x76 : (Array Value)) =>
 LdS (.arr 258) (⟨b29, 0, none⟩ : Addr) S52 fun (x77 : (Array Value)) =>
 LdS (.arr 258) (⟨b5, 0, none⟩ : Addr) S52 fun (x78 : (Array Value)) =>
 LdS (.arr 258) (⟨b36, 0, none⟩ : Addr) S52 fun (x79 : (Array Value)) =>
 Cl Try.prog [kI] n_packagemerge_Total ⟨[(.agg x76), (.agg x77)]⟩ w_72 fun (r81 : Int) (w_80 : World) =>
 S52 w_80 ∧
 Cl Try.prog [kI] n_packagemerge_Total ⟨[(.agg x78), (.agg x79)]⟩ w_80 fun (r83 : Int) (w_82 : World) =>
 S52 w_82 ∧
 IfB (decide ((r81 : Int) ≤ (r83 : Int)))
 (Cl Try.prog [kB] n_law07_wakes ⟨[]⟩ w_82 fun (r85 : Bool) (w_84 : World) =>
 S52 w_84 ∧
 R (r85) w_84)
 (R (false) w_82)))
 (R (false) w_72)))))))
theorem law07_PackageMergeLimit.ok (t1 : (Array Value)) (a2 : Int) (b3 : Int) (R : Bool → World → Prop) (w : World) (h : law07_PackageMergeLimit.E t1 a2 b3 R w) : Cl Try.prog [kB] n_law07_PackageMergeLimit ⟨[(.agg t1), (.int .i64 a2), (.int .i64 b3)]⟩ w R :=
  calls_of_eq Try.mix Try.f8 [(.agg t1), (.int .i64 a2), (.int .i64 b3)] [kB] R 98 [.tmp 6] (by kernel_rfl) (by kernel_rfl) (by kernel_rfl) (by kernel_rfl) (by kernel_rfl)
    (.s .o (.s .o (.s (.s .o (.b (.l [(8, kI)] (.s (.s .o (.c .o .o)) (.s (.b (.s (.s .o (.c (.s .o .o) .o)) .o)) .o))))) (.s .o (.s .o (.s .o (.s (.s .o (.c (.s .o .o) .o)) (.s (.s .o (.c (.s .o .o) .o)) (.s .o .o)))))))))
    (by kernel_rfl) h
/-- winepresslaw07.PackageMergeTurned -/
def law07_PackageMergeTurned.E (t1 : (Array Value)) (limit2 : Int) (i3 : Int) (k4 : Int) (count5 : Int) (R : Bool → World → Prop) (w : World) : Prop :=
 Nw 39 t1 w fun (b7 : Nat) (w_6 : World) =>
 Join (fun (w_21 : World) =>
 Ld (.arr 258) (⟨b7, 0, none⟩ : Addr) w_21 fun (x22 : (Array Value)) =>
 Cl Try.prog [(.arr 258), kI] n_packagemerge_Lengths ⟨[(.agg x22), (.int .i64 limit2)]⟩ w_21 fun (r24 : (Array Value)) (r25 : Int) (w_23 : World) =>
 Nw 23 ⟨List.replicate 258 (.int .u8 0)⟩ w_23 fun (b27 : Nat) (w_26 : World) =>
 StA 258 (⟨b27, 0, none⟩ : Addr) r24 w_26 fun (w_28 : World) =>
 IfB ((r25 : Int) != (0 : Int))
 (Cl Try.prog [kB] n_law07_wakes ⟨[]⟩ w_28 fun (r30 : Bool) (w_29 : World) =>
 R (r30) w_29)
 (Ld (.arr 258) (⟨b7, 0, none⟩ : Addr) w_28 fun (x31 : (Array Value)) =>
 Nw 39 ⟨List.replicate 258 (.int .i64 0)⟩ w_28 fun (b33 : Nat) (w_32 : World) =>
 StA 258 (⟨b33, 0, none⟩ : Addr) x31 w_32 fun (w_34 : World) =>
 Held w_34 fun (S35 : World → Prop) (w_36 : World) =>
 IdxP (⟨b7, 0, none⟩ : Addr) 258 k4 1 fun (q37 : Addr) =>
 LdS kI q37 S35 fun (x38 : Int) =>
 IdxP (⟨b7, 0, none⟩ : Addr) 258 i3 1 fun (q39 : Addr) =>
 LdS kI q39 S35 fun (x40 : Int) =>
 IdxP (⟨b33, 0, none⟩ : Addr) 258 i3 1 fun (q41 : Addr) =>
 St q41 (.int .i64 x38) w_36 fun (w_42 : World) =>
 S35 w_42 ∧
 IdxP (⟨b33, 0, none⟩ : Addr) 258 k4 1 fun (q43 : Addr) =>
 St q43 (.int .i64 x40) w_42 fun (w_44 : World) =>
 S35 w_44 ∧
 Ld (.arr 258) (⟨b33, 0, none⟩ : Addr) w_44 fun (x45 : (Array Value)) =>
 Cl Try.prog [(.arr 258), kI] n_packagemerge_Lengths ⟨[(.agg x45), (.int .i64 limit2)]⟩ w_44 fun (r47 : (Array Value)) (r48 : Int) (w_46 : World) =>
 Nw 23 ⟨List.replicate 258 (.int .u8 0)⟩ w_46 fun (b50 : Nat) (w_49 : World) =>
 StA 258 (⟨b50, 0, none⟩ : Addr) r47 w_49 fun (w_51 : World) =>
 Ld (.arr 258) (⟨b7, 0, none⟩ : Addr) w_51 fun (x52 : (Array Value)) =>
 Nw 39 ⟨List.replicate 258 (.int .i64 0)⟩ w_51 fun (b54 : Nat) (w_53 : World) =>
 StA 258 (⟨b54, 0, none⟩ : Addr) x52 w_53 fun (w_55 : World) =>
 IdxP (⟨b54, 0, none⟩ : Addr) 258 i3 1 fun (q56 : Addr) =>
 Ld kI q56 w_55 fun (x57 : Int) =>
 IfB ((x57 : Int) == (0 : Int))
 (IdxP (⟨b54, 0, none⟩ : Addr) 258 i3 1 fun (q58 : Addr) =>
 St q58 (.int .i64 count5) w_55 fun (w_59 : World) =>
 Ld (.arr 258) (⟨b54, 0, none⟩ : Addr) w_59 fun (x60 : (Array Value)) =>
 Cl Try.prog [(.arr 258), kI] n_packagemerge_Lengths ⟨[(.agg x60), (.int .i64 limit2)]⟩ w_59 fun (r62 : (Array Value)) (r63 : Int) (w_61 : World) =>
 Nw 23 ⟨List.replicate 258 (.int .u8 0)⟩ w_61 fun (b65 : Nat) (w_64 : World) =>
 StA 258 (⟨b65, 0, none⟩ : Addr) r62 w_64 fun (w_66 : World) =>
 Held w_66 fun (S67 : World → Prop) (w_68 : World) =>
 IfB ((r48 : Int) == (0 : Int))
 (LdS (.arr 258) (⟨b33, 0, none⟩ : Addr) S67 fun (x69 : (Array Value)) =>
 LdS (.arr 258) (⟨b50, 0, none⟩ : Addr) S67 fun (x70 : (Array Value)) =>
 LdS (.arr 258) (⟨b7, 0, none⟩ : Addr) S67 fun (x71 : (Array Value)) =>
 LdS (.arr 258) (⟨b27, 0, none⟩ : Addr) S67 fun (x72 : (Array Value)) =>
 Cl Try.prog [kI] n_packagemerge_Total ⟨[(.agg x69), (.agg x70)]⟩ w_68 fun (r74 : Int) (w_73 : World) =>
 S67 w_73 ∧
 Cl Try.prog [kI] n_packagemerge_Total ⟨[(.agg x71), (.agg x72)]⟩ w_73 fun (r76 : Int) (w_75 : World) =>
 S67 w_75 ∧
 IfB ((r74 : Int) == (r76 : Int))
 (IfB ((r63 : Int) != (0 : Int))
 (Cl Try.prog [kB] n_law07_wakes ⟨[]⟩ w_75 fun (r78 : Bool) (w_77 : World) =>
 S67 w_77 ∧
 R (r78) w_77)
 (LdS (.arr 258) (⟨b54, 0, none⟩ : Addr) S67 fun (x79 : (Array Value)) =>
 LdS (.arr 258) (⟨b65, 0, none⟩ : Addr) S67 fun (x80 : (Array Value)) =>
 LdS (.arr 258) (⟨b7, 0, none⟩ : Addr) S67 fun (x81 : (Array Value)) =>
 LdS (.arr 258) (⟨b27, 0, none⟩ : Addr) S67 fun (x82 : (Array Value)) =>
 Cl Try.prog [kI] n_packagemerge_Total ⟨[(.agg x79), (.agg x80)]⟩ w_75 fun (r84 : Int) (w_83 : World) =>
 S67 w_83 ∧
 Cl Try.prog [kI] n_packagemerge_Total ⟨[(.agg x81), (.agg x82)]⟩ w_83 fun (r86 : Int) (w_85 : World) =>
 S67 w_85 ∧
 IfB (decide ((r84 : Int) ≥ (r86 : Int)))
 (Cl Try.prog [kB] n_law07_wakes ⟨[]⟩ w_85 fun (r88 : Bool) (w_87 : World) =>
 S67 w_87 ∧
 R (r88) w_87)
 (R (false) w_85)))
 (R (false) w_75))
 (R (false) w_68))
 (Ld (.arr 258) (⟨b54, 0, none⟩ : Addr) w_55 fun (x89 : (Array Value)) =>
 Cl Try.prog [(.arr 258), kI] n_packagemerge_Lengths ⟨[(.agg x89), (.int .i64 limit2)]⟩ w_55 fun (r91 : (Array Value)) (r92 : Int) (w_90 : World) =>
 Nw 23 ⟨List.replicate 258 (.int .u8 0)⟩ w_90 fun (b94 : Nat) (w_93 : World) =>
 StA 258 (⟨b94, 0, none⟩ : Addr) r91 w_93 fun (w_95 : World) =>
 Held w_95 fun (S96 : World → Prop) (w_97 : World) =>
 IfB ((r48 : Int) == (0 : Int))
 (LdS (.arr 258) (⟨b33, 0, none⟩ : Addr) S96 fun (x98 : (Array Value)) =>
 LdS (.arr 258) (⟨b50, 0, none⟩ : Addr) S96 fun (x99 : (Array Value)) =>
 LdS (.arr 258) (⟨b7, 0, none⟩ : Addr) S96 fun (x100 : (Array Value)) =>
 LdS (.arr 258) (⟨b27, 0, none⟩ : Addr) S96 fun (x101 : (Array Value)) =>
 Cl Try.prog [kI] n_packagemerge_Total ⟨[(.agg x98), (.agg x99)]⟩ w_97 fun (r103 : Int) (w_102 : World) =>
 S96 w_102 ∧
 Cl Try.prog [kI] n_packagemerge_Total ⟨[(.agg x100), (.agg x101)]⟩ w_102 fun (r105 : Int) (w_104 : World) =>
 S96 w_104 ∧
 IfB ((r103 : Int) == (r105 : Int))
 (IfB ((r92 : Int) != (0 : Int))
 (Cl Try.prog [kB] n_law07_wakes ⟨[]⟩ w_104 fun (r107 : Bool) (w_106 : World) =>
 S96 w_106 ∧
 R (r107) w_106)
 (LdS (.arr 258) (⟨b54, 0, none⟩ : Addr) S96 fun (x108 : (Array Value)) =>
 LdS (.arr 258) (⟨b94, 0, none⟩ : Addr) S96 fun (x109 : (Array Value)) =>
 LdS (.arr 258) (⟨b7, 0, none⟩ : Addr) S96 fun (x110 : (Array Value)) =>
 LdS (.arr 258) (⟨b27, 0, none⟩ : Addr) S96 fun (x111 : (Array Value)) =>
 Cl Try.prog [kI] n_packagemerge_Total ⟨[(.agg x108), (.agg x109)]⟩ w_104 fun (r113 : Int) (w_112 : World) =>
 S96 w_112 ∧
 Cl Try.prog [kI] n_packagemerge_Total ⟨[(.agg x110), (.agg x111)]⟩ w_112 fun (r115 : Int) (w_114 : World) =>
 S96 w_114 ∧
 IfB (decide ((r113 : Int) ≥ (r115 : Int)))
 (Cl Try.prog [kB] n_law07_wakes ⟨[]⟩ w_114 fun (r117 : Bool) (w_116 : World) =>
 S96 w_116 ∧
 R (r117) w_116)
 (R (false) w_114)))
 (R (false) w_104))
 (R (false) w_97)))) fun (K_8 : World → Prop) =>
 IfB (decide ((i3 : Int) < (0 : Int)))
 (Cl Try.prog [kB] n_law07_wakes ⟨[]⟩ w_6 fun (r10 : Bool) (w_9 : World) =>
 R (r10) w_9)
 (IfB (decide ((i3 : Int) ≥ (258 : Int)))
 (Cl Try.prog [kB] n_law07_wakes ⟨[]⟩ w_6 fun (r12 : Bool) (w_11 : World) =>
 R (r12) w_11)
 (IfB (decide ((k4 : Int) < (0 : Int)))
 (Cl Try.prog [kB] n_law07_wakes ⟨[]⟩ w_6 fun (r14 : Bool) (w_13 : World) =>
 R (r14) w_13)
 (IfB (decide ((k4 : Int) ≥ (258 : Int)))
 (Cl Try.prog [kB] n_law07_wakes ⟨[]⟩ w_6 fun (r16 : Bool) (w_15 : World) =>
 R (r16) w_15)
 (IfB (decide ((count5 : Int) < (1 : Int)))
 (Cl Try.prog [kB] n_law07_wakes ⟨[]⟩ w_6 fun (r18 : Bool) (w_17 : World) =>
 R (r18) w_17)
 (IfB (decide ((count5 : Int) > (2147483647 : Int)))
 (Cl Try.prog [kB] n_law07_wakes ⟨[]⟩ w_6 fun (r20 : Bool) (w_19 : World) =>
 R (r20) w_19)
 (K_8  w_6))))))
theorem law07_PackageMergeTurned.ok (t1 : (Array Value)) (limit2 : Int) (i3 : Int) (k4 : Int) (count5 : Int) (R : Bool → World → Prop) (w : World) (h : law07_PackageMergeTurned.E t1 limit2 i3 k4 count5 R w) : Cl Try.prog [kB] n_law07_PackageMergeTurned ⟨[(.agg t1), (.int .i64 limit2), (.int .i64 i3), (.int .i64 k4), (.int .i64 count5)]⟩ w R :=
  calls_of_eq Try.mix Try.f9 [(.agg t1), (.int .i64 limit2), (.int .i64 i3), (.int .i64 k4), (.int .i64 count5)] [kB] R 109 [.tmp 10] (by kernel_rfl) (by kernel_rfl) (by kernel_rfl) (by kernel_rfl) (by kernel_rfl)
    (.s .o (.j [] (.s .o (.c (.s .o .o) .o)) (.s .o (.s (.s .o (.c (.s .o .o) .o)) (.s .o (.s .o (.s .o (.s .o (.s (.s .o (.c .o .o)) (.s .o (.s .o .o)))))))))))
    (by kernel_rfl) h
/-- winepressref07.Sum -/
def ref07_Sum.E (l1 : (Array Value)) (R : Int → World → Prop) (w : World) : Prop :=
 Nw 23 l1 w fun (b3 : Nat) (w_2 : World) =>
 ∃ (I_4 : Int → Int → World → Prop) (m_5 : Int → Int → World → Nat), I_4 (0) (0) w_2 ∧
 ∀ (n6 : Int) (s7 : Int), ∀ (w_8 : World), I_4 n6 s7 w_8 →
 IfB (decide ((s7 : Int) < (258 : Int)))
 (IdxP (⟨b3, 0, none⟩ : Addr) 258 s7 1 fun (q9 : Addr) =>
 Ld (kInt .u8) q9 w_8 fun (x10 : Int) =>
 IfB (decide ((x10 : Int) > (15 : Int)))
 (R (32769) w_8)
 (IdxP (⟨b3, 0, none⟩ : Addr) 258 s7 1 fun (q11 : Addr) =>
 Ld (kInt .u8) q11 w_8 fun (x12 : Int) =>
 IfB (decide ((x12 : Int) > (0 : Int)))
 (IdxP (⟨b3, 0, none⟩ : Addr) 258 s7 1 fun (q13 : Addr) =>
 Ld (kInt .u8) q13 w_8 fun (x14 : Int) =>
 0 ≤ ((u64 (i64 ((15 : Int) - ((i64 x14) : Int)))) : Int) ∧
 I_4 ((i64 ((n6 : Int) + ((ishl .i64 (1 : Int) ((u64 (i64 ((15 : Int) - ((i64 x14) : Int)))) : Int)) : Int)))) ((i64 ((s7 : Int) + (1 : Int)))) w_8 ∧ m_5 ((i64 ((n6 : Int) + ((ishl .i64 (1 : Int) ((u64 (i64 ((15 : Int) - ((i64 x14) : Int)))) : Int)) : Int)))) ((i64 ((s7 : Int) + (1 : Int)))) w_8 < m_5 n6 s7 w_8)
 (I_4 (n6) ((i64 ((s7 : Int) + (1 : Int)))) w_8 ∧ m_5 (n6) ((i64 ((s7 : Int) + (1 : Int)))) w_8 < m_5 n6 s7 w_8)))
 (R (n6) w_8)
theorem ref07_Sum.ok (l1 : (Array Value)) (R : Int → World → Prop) (w : World) (h : ref07_Sum.E l1 R w) : Cl Try.prog [kI] n_ref07_Sum ⟨[(.agg l1)]⟩ w R :=
  calls_of_eq Try.mix Try.f10 [(.agg l1)] [kI] R 27 [.tmp 2] (by kernel_rfl) (by kernel_rfl) (by kernel_rfl) (by kernel_rfl) (by kernel_rfl)
    (.s .o (.s .o (.s (.s .o (.b (.l [(3, kI), (4, kI)] (.s (.s .o (.c .o .o)) (.s (.b (.s (.s .o (.c (.s .o .o) .o)) (.s .o (.c .o .o)))) .o))))) (.s .o .o))))
    (by kernel_rfl) h
/-- winepresslaw09.wakes -/
def law09_wakes.E  (R : Bool → World → Prop) (w : World) : Prop :=
 Bld Try.prog 23 [(0, (.int .u8 3)), (1, (.int .u8 3)), (2, (.int .u8 2)), (3, (.int .u8 1))] fun (cs1 : Array Value) =>
 Nw 23 ⟨List.replicate 258 (.int .u8 0)⟩ w fun (b3 : Nat) (w_2 : World) =>
 StA 258 (⟨b3, 0, none⟩ : Addr) cs1 w_2 fun (w_4 : World) =>
 Ld (.arr 258) (⟨b3, 0, none⟩ : Addr) w_4 fun (x5 : (Array Value)) =>
 Cl Try.prog [(.arr 258), kI] n_canonical_Codes ⟨[(.agg x5)]⟩ w_4 fun (r7 : (Array Value)) (r8 : Int) (w_6 : World) =>
 Nw 28 ⟨List.replicate 258 (.int .u32 0)⟩ w_6 fun (b10 : Nat) (w_9 : World) =>
 StA 258 (⟨b10, 0, none⟩ : Addr) r7 w_9 fun (w_11 : World) =>
 Bld Try.prog 23 [(0, (.int .u8 1)), (1, (.int .u8 1)), (2, (.int .u8 1))] fun (cs12 : Array Value) =>
 Cl Try.prog [(.arr 258), kI] n_canonical_Codes ⟨[(.agg cs12)]⟩ w_11 fun (r14 : (Array Value)) (r15 : Int) (w_13 : World) =>
 Nw 28 ⟨List.replicate 258 (.int .u32 0)⟩ w_13 fun (b17 : Nat) (w_16 : World) =>
 StA 258 (⟨b17, 0, none⟩ : Addr) r14 w_16 fun (w_18 : World) =>
 Bld Try.prog 23 [(0, (.int .u8 16))] fun (cs19 : Array Value) =>
 Cl Try.prog [(.arr 258), kI] n_canonical_Codes ⟨[(.agg cs19)]⟩ w_18 fun (r21 : (Array Value)) (r22 : Int) (w_20 : World) =>
 Nw 28 ⟨List.replicate 258 (.int .u32 0)⟩ w_20 fun (b24 : Nat) (w_23 : World) =>
 StA 258 (⟨b24, 0, none⟩ : Addr) r21 w_23 fun (w_25 : World) =>
 Ld (.arr 258) (⟨b3, 0, none⟩ : Addr) w_25 fun (x26 : (Array Value)) =>
 Cl Try.prog [kI, kB] n_canonical_Find ⟨[(.agg x26), (.int .u32 7), (.int .i64 3)]⟩ w_25 fun (r28 : Int) (r29 : Bool) (w_27 : World) =>
 Ld (.arr 258) (⟨b3, 0, none⟩ : Addr) w_27 fun (x30 : (Array Value)) =>
 Cl Try.prog [kI, kB] n_canonical_Find ⟨[(.agg x30), (.int .u32 7), (.int .i64 4)]⟩ w_27 fun (r32 : Int) (r33 : Bool) (w_31 : World) =>
 Ld (.arr 258) (⟨b3, 0, none⟩ : Addr) w_31 fun (x34 : (Array Value)) =>
 Cl Try.prog [(kInt .u32), kI, kB] n_canonical_First ⟨[(.agg x34), (.int .i64 3)]⟩ w_31 fun (r36 : Int) (r37 : Int) (r38 : Bool) (w_35 : World) =>
 Ld (.arr 258) (⟨b3, 0, none⟩ : Addr) w_35 fun (x39 : (Array Value)) =>
 Cl Try.prog [(kInt .u32), kI, kB] n_canonical_First ⟨[(.agg x39), (.int .i64 4)]⟩ w_35 fun (r41 : Int) (r42 : Int) (r43 : Bool) (w_40 : World) =>
 IfB ((r8 : Int) == (0 : Int))
 (Ld (.arr 258) (⟨b10, 0, none⟩ : Addr) w_40 fun (x44 : (Array Value)) =>
 Bld Try.prog 28 [(0, (.int .u32 6)), (1, (.int .u32 7)), (2, (.int .u32 2)), (3, (.int .u32 0))] fun (cs45 : Array Value) =>
 EqA .u32 258 x44 cs45 fun (eq46 : Bool) =>
 IfB eq46
 (IfB ((r15 : Int) == (2 : Int))
 (IfB ((r22 : Int) == (2 : Int))
 (IfB ((r28 : Int) == (1 : Int))
 (IfB r29
 (IfB (!r33)
 (IfB ((r36 : Int) == (6 : Int))
 (IfB ((r37 : Int) == (2 : Int))
 (IfB r38
 (IfB (!r43)
 (Ld (.arr 258) (⟨b3, 0, none⟩ : Addr) w_40 fun (x47 : (Array Value)) =>
 Cl Try.prog [kS] n_canonical_Order ⟨[(.agg x47)]⟩ w_40 fun (r49 : Sl) (w_48 : World) =>
 Nw 3 ⟨[(.int .i64 3), (.int .i64 2), (.int .i64 0), (.int .i64 1)]⟩ w_48 fun (b51 : Nat) (w_50 : World) =>
 Cl Try.prog [kB] n_ref07_Ints ⟨[(.slice r49.base r49.len r49.cap), (.slice (⟨some ⟨b51, 0, none⟩, 4, 4⟩ : Sl).base (⟨some ⟨b51, 0, none⟩, 4, 4⟩ : Sl).len (⟨some ⟨b51, 0, none⟩, 4, 4⟩ : Sl).cap)]⟩ w_50 fun (r53 : Bool) (w_52 : World) =>
 IfB r53
 (Ld (.arr 258) (⟨b3, 0, none⟩ : Addr) w_52 fun (x54 : (Array Value)) =>
 Cl Try.prog [kB] n_canonical_Valid ⟨[(.agg x54)]⟩ w_52 fun (r56 : Bool) (w_55 : World) =>
 IfB r56
 (Bld Try.prog 23 [(0, (.int .u8 1)), (1, (.int .u8 1)), (2, (.int .u8 1))] fun (cs57 : Array Value) =>
 Cl Try.prog [kB] n_canonical_Valid ⟨[(.agg cs57)]⟩ w_55 fun (r59 : Bool) (w_58 : World) =>
 R ((!r59)) w_58)
 (R (false) w_55))
 (R (false) w_52))
 (R (false) w_40))
 (R (false) w_40))
 (R (false) w_40))
 (R (false) w_40))
 (R (false) w_40))
 (R (false) w_40))
 (R (false) w_40))
 (R (false) w_40))
 (R (false) w_40))
 (R (false) w_40))
 (R (false) w_40)
theorem law09_wakes.ok  (R : Bool → World → Prop) (w : World) (h : law09_wakes.E  R w) : Cl Try.prog [kB] n_law09_wakes ⟨[]⟩ w R :=
  calls_of_eq Try.mix Try.f11 [] [kB] R 112 [.tmp 0] (by kernel_rfl) (by kernel_rfl) (by kernel_rfl) (by kernel_rfl) (by kernel_rfl)
    (.s .o (.s .o (.s .o (.s .o (.s .o (.s .o (.s .o (.s .o (.s .o (.s .o .o))))))))))
    (by kernel_rfl) h
/-- canonical.Codes -/
def canonical_Codes.E (l1 : (Array Value)) (R : (Array Value) → Int → World → Prop) (w : World) : Prop :=
 Nw 23 l1 w fun (b3 : Nat) (w_2 : World) =>
 Nw 28 ⟨List.replicate 258 (.int .u32 0)⟩ w_2 fun (b5 : Nat) (w_4 : World) =>
 Ld (.arr 258) (⟨b3, 0, none⟩ : Addr) w_4 fun (x6 : (Array Value)) =>
 Cl Try.prog [kB] n_canonical_Valid ⟨[(.agg x6)]⟩ w_4 fun (r8 : Bool) (w_7 : World) =>
 IfB (!r8)
 (Ld (.arr 258) (⟨b5, 0, none⟩ : Addr) w_7 fun (x9 : (Array Value)) =>
 StA 258 (⟨b5, 0, none⟩ : Addr) x9 w_7 fun (w_10 : World) =>
 Ld (.arr 258) (⟨b5, 0, none⟩ : Addr) w_10 fun (res11 : (Array Value)) =>
 R (res11) (2) w_10)
 (Ld (.arr 258) (⟨b3, 0, none⟩ : Addr) w_7 fun (x12 : (Array Value)) =>
 Cl Try.prog [kS] n_canonical_Order ⟨[(.agg x12)]⟩ w_7 fun (r14 : Sl) (w_13 : World) =>
 ∃ (I_15 : Int → Int → Int → World → Prop) (m_16 : Int → Int → Int → World → Nat), I_15 (0) (0) (0) w_13 ∧
 ∀ (next17 : Int) (last18 : Int) (t15_19 : Int), ∀ (w_20 : World), I_15 next17 last18 t15_19 w_20 →
 IfB (decide ((t15_19 : Int) < ((r14.len : Int) : Int)))
 (Idx r14 t15_19 1 fun (q21 : Addr) =>
 Ld kI q21 w_20 fun (x22 : Int) =>
 IdxP (⟨b3, 0, none⟩ : Addr) 258 x22 1 fun (q23 : Addr) =>
 Ld (kInt .u8) q23 w_20 fun (x24 : Int) =>
 0 ≤ ((u8 ((x24 : Int) - (last18 : Int))) : Int) ∧
 Held w_20 fun (S25 : World → Prop) (w_26 : World) =>
 IdxP (⟨b3, 0, none⟩ : Addr) 258 x22 1 fun (q27 : Addr) =>
 LdS (kInt .u8) q27 S25 fun (x28 : Int) =>
 IdxP (⟨b5, 0, none⟩ : Addr) 258 x22 1 fun (q29 : Addr) =>
 St q29 (.int .u32 (ishl .u32 (next17 : Int) ((u8 ((x24 : Int) - (last18 : Int))) : Int))) w_26 fun (w_30 : World) =>
 S25 w_30 ∧
 I_15 ((u32 (((ishl .u32 (next17 : Int) ((u8 ((x24 : Int) - (last18 : Int))) : Int)) : Int) + (1 : Int)))) (x28) ((i64 ((t15_19 : Int) + (1 : Int)))) w_30 ∧ m_16 ((u32 (((ishl .u32 (next17 : Int) ((u8 ((x24 : Int) - (last18 : Int))) : Int)) : Int) + (1 : Int)))) (x28) ((i64 ((t15_19 : Int) + (1 : Int)))) w_30 < m_16 next17 last18 t15_19 w_20)
 (Ld (.arr 258) (⟨b5, 0, none⟩ : Addr) w_20 fun (x31 : (Array Value)) =>
 StA 258 (⟨b5, 0, none⟩ : Addr) x31 w_20 fun (w_32 : World) =>
 Ld (.arr 258) (⟨b5, 0, none⟩ : Addr) w_32 fun (res33 : (Array Value)) =>
 R (res33) (0) w_32))
theorem canonical_Codes.ok (l1 : (Array Value)) (R : (Array Value) → Int → World → Prop) (w : World) (h : canonical_Codes.E l1 R w) : Cl Try.prog [(.arr 258), kI] n_canonical_Codes ⟨[(.agg l1)]⟩ w R :=
  calls_of_eq Try.mix Try.f12 [(.agg l1)] [(.arr 258), kI] R 36 [.cell 2 28, .tmp 3] (by kernel_rfl) (by kernel_rfl) (by kernel_rfl) (by kernel_rfl) (by kernel_rfl)
    (.s .o (.s (.s .o (.c (.s .o .o) .o)) (.s .o (.s (.s .o (.b (.l [(4, (kInt .u32)), (5, (kInt .u8)), (15, kI)] (.s .o (.s (.c .o .o) (.s (.b (.s .o (.s .o (.s .o .o)))) .o)))))) (.s .o .o)))))
    (by kernel_rfl) h
/-- canonical.Order -/
def canonical_Order.E (l1 : (Array Value)) (R : Sl → World → Prop) (w : World) : Prop :=
 Nw 23 l1 w fun (b3 : Nat) (w_2 : World) =>
 Ld (.arr 258) (⟨b3, 0, none⟩ : Addr) w_2 fun (x4 : (Array Value)) =>
 Cl Try.prog [kB] n_canonical_Valid ⟨[(.agg x4)]⟩ w_2 fun (r6 : Bool) (w_5 : World) =>
 IfB (!r6)
 (R ((⟨none, 0, 0⟩ : Sl)) w_5)
 (Ld (.arr 258) (⟨b3, 0, none⟩ : Addr) w_5 fun (x7 : (Array Value)) =>
 ∃ (I_8 : Sl → Int → World → Prop) (m_9 : Sl → Int → World → Nat), I_8 ((⟨none, 0, 0⟩ : Sl)) (0) w_5 ∧
 ∀ (out10 : Sl) (t9_11 : Int), ∀ (w_12 : World), I_8 out10 t9_11 w_12 →
 IfB (decide ((t9_11 : Int) < (258 : Int)))
 (IdxV (.int .u8) x7 258 t9_11 fun (e13 : Int) =>
 IfB (decide ((e13 : Int) > (0 : Int)))
 (Nw 3 ⟨[(.int .i64 t9_11)]⟩ w_12 fun (b15 : Nat) (w_14 : World) =>
 Run Try.prog (Builtin.append_ #[32, 32] 32 ⟨[(.slice out10.base out10.len out10.cap), (.slice (⟨some ⟨b15, 0, none⟩, 1, 1⟩ : Sl).base (⟨some ⟨b15, 0, none⟩, 1, 1⟩ : Sl).len (⟨some ⟨b15, 0, none⟩, 1, 1⟩ : Sl).cap)]⟩) kS w_14 fun (s17 : Sl) (w_16 : World) =>
 I_8 (s17) ((i64 ((t9_11 : Int) + (1 : Int)))) w_16 ∧ m_9 (s17) ((i64 ((t9_11 : Int) + (1 : Int)))) w_16 < m_9 out10 t9_11 w_12)
 (I_8 (out10) ((i64 ((t9_11 : Int) + (1 : Int)))) w_12 ∧ m_9 (out10) ((i64 ((t9_11 : Int) + (1 : Int)))) w_12 < m_9 out10 t9_11 w_12))
 (Cl Try.prog [] n_slices_SortStableFunc_int_int ⟨[(.slice out10.base out10.len out10.cap), (.func (.func 30) ⟨[]⟩ ⟨[(.pointer (some (⟨b3, 0, none⟩ : Addr)))]⟩)]⟩ w_12 fun  (w_18 : World) =>
 R (out10) w_18))
theorem canonical_Order.ok (l1 : (Array Value)) (R : Sl → World → Prop) (w : World) (h : canonical_Order.E l1 R w) : Cl Try.prog [kS] n_canonical_Order ⟨[(.agg l1)]⟩ w R :=
  calls_of_eq Try.mix Try.f13 [(.agg l1)] [kS] R 24 [.tmp 2] (by kernel_rfl) (by kernel_rfl) (by kernel_rfl) (by kernel_rfl) (by kernel_rfl)
    (.s .o (.s (.s .o (.c (.s .o .o) .o)) (.s (.s .o (.b (.l [(2, kS), (9, kI)] (.s .o (.s (.c .o .o) (.s (.b (.s .o (.s .o (.c .o .o)))) .o)))))) (.s .o (.s .o .o)))))
    (by kernel_rfl) h
/-- winepresslaw09.begins -/
def law09_begins.E (a1 : Int) (m_2 : Int) (b3 : Int) (n4 : Int) (R : Bool → World → Prop) (w : World) : Prop :=
 IfB (decide ((m_2 : Int) ≤ (n4 : Int)))
 (0 ≤ ((u64 (u8 ((n4 : Int) - (m_2 : Int)))) : Int) ∧
 R ((((ishr .u32 (b3 : Int) ((u64 (u8 ((n4 : Int) - (m_2 : Int)))) : Int)) : Int) == (a1 : Int))) w)
 (R (false) w)
theorem law09_begins.ok (a1 : Int) (m_2 : Int) (b3 : Int) (n4 : Int) (R : Bool → World → Prop) (w : World) (h : law09_begins.E a1 m_2 b3 n4 R w) : Cl Try.prog [kB] n_law09_begins ⟨[(.int .u32 a1), (.int .u8 m_2), (.int .u32 b3), (.int .u8 n4)]⟩ w R :=
  calls_of_eq Try.mix Try.f14 [(.int .u32 a1), (.int .u8 m_2), (.int .u32 b3), (.int .u8 n4)] [kB] R 22 [.tmp 8] (by kernel_rfl) (by kernel_rfl) (by kernel_rfl) (by kernel_rfl) (by kernel_rfl)
    (.s .o (.s .o .o))
    (by kernel_rfl) h
/-- packagemerge.Lengths -/
def packagemerge_Lengths.E (t1 : (Array Value)) (limit2 : Int) (R : (Array Value) → Int → World → Prop) (w : World) : Prop :=
 Nw 39 t1 w fun (b4 : Nat) (w_3 : World) =>
 Nw 23 ⟨List.replicate 258 (.int .u8 0)⟩ w_3 fun (b6 : Nat) (w_5 : World) =>
 Ld (.arr 258) (⟨b4, 0, none⟩ : Addr) w_5 fun (x7 : (Array Value)) =>
 Cl Try.prog [kS] n_packagemerge_Order ⟨[(.agg x7)]⟩ w_5 fun (r9 : Sl) (w_8 : World) =>
 Join (fun (w_26 : World) =>
 IfB (((r9.len : Int) : Int) == (1 : Int))
 (Idx r9 0 1 fun (q27 : Addr) =>
 Ld kI q27 w_26 fun (x28 : Int) =>
 IdxP (⟨b6, 0, none⟩ : Addr) 258 x28 1 fun (q29 : Addr) =>
 St q29 (.int .u8 1) w_26 fun (w_30 : World) =>
 Ld (.arr 258) (⟨b6, 0, none⟩ : Addr) w_30 fun (x31 : (Array Value)) =>
 StA 258 (⟨b6, 0, none⟩ : Addr) x31 w_30 fun (w_32 : World) =>
 Ld (.arr 258) (⟨b6, 0, none⟩ : Addr) w_32 fun (res33 : (Array Value)) =>
 R (res33) (0) w_32)
 (Ld (.arr 258) (⟨b4, 0, none⟩ : Addr) w_26 fun (x34 : (Array Value)) =>
 Cl Try.prog [kS] n_packagemerge_leaves ⟨[(.agg x34), (.slice r9.base r9.len r9.cap)]⟩ w_26 fun (r36 : Sl) (w_35 : World) =>
 Nw 60 ⟨[(.slice r36.base r36.len r36.cap)]⟩ w_35 fun (b38 : Nat) (w_37 : World) =>
 ∃ (I_39 : Sl → Int → World → Prop) (m_40 : Sl → Int → World → Nat), I_39 ((⟨some ⟨b38, 0, none⟩, 1, 1⟩ : Sl)) (1) w_37 ∧
 ∀ (rows41 : Sl) (k42 : Int), ∀ (w_43 : World), I_39 rows41 k42 w_43 →
 IfB (decide ((k42 : Int) < (limit2 : Int)))
 (Held w_43 fun (S44 : World → Prop) (w_45 : World) =>
 Idx rows41 0 1 fun (q46 : Addr) =>
 LdS kS q46 S44 fun (x47 : Sl) =>
 Idx rows41 (i64 ((k42 : Int) - (1 : Int))) 1 fun (q48 : Addr) =>
 LdS kS q48 S44 fun (x49 : Sl) =>
 Cl Try.prog [kS] n_packagemerge_next ⟨[(.slice x47.base x47.len x47.cap), (.slice x49.base x49.len x49.cap)]⟩ w_45 fun (r51 : Sl) (w_50 : World) =>
 S44 w_50 ∧
 Nw 60 ⟨[(.slice r51.base r51.len r51.cap)]⟩ w_50 fun (b53 : Nat) (w_52 : World) =>
 S44 w_52 ∧
 Run Try.prog (Builtin.append_ #[62, 62] 62 ⟨[(.slice rows41.base rows41.len rows41.cap), (.slice (⟨some ⟨b53, 0, none⟩, 1, 1⟩ : Sl).base (⟨some ⟨b53, 0, none⟩, 1, 1⟩ : Sl).len (⟨some ⟨b53, 0, none⟩, 1, 1⟩ : Sl).cap)]⟩) kS w_52 fun (s55 : Sl) (w_54 : World) =>
 S44 w_54 ∧
 I_39 (s55) ((i64 ((k42 : Int) + (1 : Int)))) w_54 ∧ m_40 (s55) ((i64 ((k42 : Int) + (1 : Int)))) w_54 < m_40 rows41 k42 w_43)
 (∃ (I_56 : Int → Int → World → Prop) (m_57 : Int → Int → World → Nat), I_56 ((i64 (((i64 ((2 : Int) * ((r9.len : Int) : Int))) : Int) - (2 : Int)))) ((i64 ((limit2 : Int) - (1 : Int)))) w_43 ∧
 ∀ (many58 : Int) (k59 : Int), ∀ (w_60 : World), I_56 many58 k59 w_60 →
 Join (fun (w_68 : World) =>
 Idx rows41 k59 1 fun (q69 : Addr) =>
 Ld kS q69 w_68 fun (x70 : Sl) =>
 Slc x70 0 many58 (x70).cap 2 fun (s71 : Sl) =>
 ∃ (I_72 : Int → Int → World → Prop) (m_73 : Int → Int → World → Nat), I_72 (0) (0) w_68 ∧
 ∀ (whole74 : Int) (t86_75 : Int), ∀ (w_76 : World), I_72 whole74 t86_75 w_76 →
 IfB (decide ((t86_75 : Int) < ((s71.len : Int) : Int)))
 (Idx s71 t86_75 2 fun (q77 : Addr) =>
 Ld (.st [.int .i64, .bool]) q77 w_76 fun (x78 : (TT [.int .i64, .bool])) =>
 Nw 65 ⟨[(.int .i64 0), (.bool false)]⟩ w_76 fun (b80 : Nat) (w_79 : World) =>
 StC (⟨b80, 0, none⟩ : Addr) [(.int .i64 x78.1), (.bool x78.2.1)] 0 w_79 fun (w_81 : World) =>
 Ld kB ((⟨b80, 0, none⟩ : Addr).add 1) w_81 fun (leaf_82 : Bool) =>
 IfB leaf_82
 (Idx r9 whole74 1 fun (q83 : Addr) =>
 Ld kI q83 w_81 fun (x84 : Int) =>
 IdxP (⟨b6, 0, none⟩ : Addr) 258 x84 1 fun (q85 : Addr) =>
 Ld (kInt .u8) q85 w_81 fun (x86 : Int) =>
 IdxP (⟨b6, 0, none⟩ : Addr) 258 x84 1 fun (q87 : Addr) =>
 St q87 (.int .u8 (u8 ((x86 : Int) + (1 : Int)))) w_81 fun (w_88 : World) =>
 I_72 ((i64 ((whole74 : Int) + (1 : Int)))) ((i64 ((t86_75 : Int) + (1 : Int)))) w_88 ∧ m_73 ((i64 ((whole74 : Int) + (1 : Int)))) ((i64 ((t86_75 : Int) + (1 : Int)))) w_88 < m_73 whole74 t86_75 w_76)
 (I_72 (whole74) ((i64 ((t86_75 : Int) + (1 : Int)))) w_81 ∧ m_73 (whole74) ((i64 ((t86_75 : Int) + (1 : Int)))) w_81 < m_73 whole74 t86_75 w_76))
 (I_56 ((i64 ((2 : Int) * ((i64 ((many58 : Int) - (whole74 : Int))) : Int)))) ((i64 ((k59 : Int) - (1 : Int)))) w_76 ∧ m_57 ((i64 ((2 : Int) * ((i64 ((many58 : Int) - (whole74 : Int))) : Int)))) ((i64 ((k59 : Int) - (1 : Int)))) w_76 < m_57 many58 k59 w_60)) fun (K_61 : World → Prop) =>
 IfB (decide ((k59 : Int) ≥ (0 : Int)))
 (IfB (decide ((many58 : Int) > (0 : Int)))
 (K_61  w_60)
 (Ld (.arr 258) (⟨b6, 0, none⟩ : Addr) w_60 fun (x62 : (Array Value)) =>
 StA 258 (⟨b6, 0, none⟩ : Addr) x62 w_60 fun (w_63 : World) =>
 Ld (.arr 258) (⟨b6, 0, none⟩ : Addr) w_63 fun (res64 : (Array Value)) =>
 R (res64) (0) w_63))
 (Ld (.arr 258) (⟨b6, 0, none⟩ : Addr) w_60 fun (x65 : (Array Value)) =>
 StA 258 (⟨b6, 0, none⟩ : Addr) x65 w_60 fun (w_66 : World) =>
 Ld (.arr 258) (⟨b6, 0, none⟩ : Addr) w_66 fun (res67 : (Array Value)) =>
 R (res67) (0) w_66)))) fun (K_10 : World → Prop) =>
 Ld (.arr 258) (⟨b4, 0, none⟩ : Addr) w_8 fun (x11 : (Array Value)) =>
 Cl Try.prog [kB] n_packagemerge_Valid ⟨[(.agg x11)]⟩ w_8 fun (r13 : Bool) (w_12 : World) =>
 IfB (!r13)
 (Ld (.arr 258) (⟨b6, 0, none⟩ : Addr) w_12 fun (x14 : (Array Value)) =>
 StA 258 (⟨b6, 0, none⟩ : Addr) x14 w_12 fun (w_15 : World) =>
 Ld (.arr 258) (⟨b6, 0, none⟩ : Addr) w_15 fun (res16 : (Array Value)) =>
 R (res16) (2) w_15)
 (IfB (decide ((limit2 : Int) < (1 : Int)))
 (Ld (.arr 258) (⟨b6, 0, none⟩ : Addr) w_12 fun (x17 : (Array Value)) =>
 StA 258 (⟨b6, 0, none⟩ : Addr) x17 w_12 fun (w_18 : World) =>
 Ld (.arr 258) (⟨b6, 0, none⟩ : Addr) w_18 fun (res19 : (Array Value)) =>
 R (res19) (2) w_18)
 (IfB (decide ((limit2 : Int) > (15 : Int)))
 (Ld (.arr 258) (⟨b6, 0, none⟩ : Addr) w_12 fun (x20 : (Array Value)) =>
 StA 258 (⟨b6, 0, none⟩ : Addr) x20 w_12 fun (w_21 : World) =>
 Ld (.arr 258) (⟨b6, 0, none⟩ : Addr) w_21 fun (res22 : (Array Value)) =>
 R (res22) (2) w_21)
 (0 ≤ ((u64 limit2) : Int) ∧
 IfB (decide (((r9.len : Int) : Int) > ((ishl .i64 (1 : Int) ((u64 limit2) : Int)) : Int)))
 (Ld (.arr 258) (⟨b6, 0, none⟩ : Addr) w_12 fun (x23 : (Array Value)) =>
 StA 258 (⟨b6, 0, none⟩ : Addr) x23 w_12 fun (w_24 : World) =>
 Ld (.arr 258) (⟨b6, 0, none⟩ : Addr) w_24 fun (res25 : (Array Value)) =>
 R (res25) (2) w_24)
 (K_10  w_12))))
theorem packagemerge_Lengths.ok (t1 : (Array Value)) (limit2 : Int) (R : (Array Value) → Int → World → Prop) (w : World) (h : packagemerge_Lengths.E t1 limit2 R w) : Cl Try.prog [(.arr 258), kI] n_packagemerge_Lengths ⟨[(.agg t1), (.int .i64 limit2)]⟩ w R :=
  calls_of_eq Try.mix Try.f15 [(.agg t1), (.int .i64 limit2)] [(.arr 258), kI] R 108 [.cell 4 23, .tmp 5] (by kernel_rfl) (by kernel_rfl) (by kernel_rfl) (by kernel_rfl) (by kernel_rfl)
    (.s .o (.s .o (.j [] (.s .o (.c (.s .o .o) .o)) (.s (.s .o (.c (.s .o (.s .o .o)) .o)) (.s .o (.s (.s .o (.b (.l [(7, kS), (8, kI)] (.s (.s .o (.c .o .o)) (.s (.b .o) .o))))) (.s .o (.s (.s .o (.b (.l [(9, kI), (10, kI)] (.j [] (.s .o (.c .o .o)) (.s (.b (.s .o (.s (.s .o (.b (.l [(11, kI), (86, kI)] (.s .o (.s (.c .o .o) (.s (.b (.s .o (.s .o (.c (.s .o .o) .o)))) .o)))))) .o))) .o))))) (.s .o .o)))))))))
    (by kernel_rfl) h
/-- winepressref07.Lengths -/
def ref07_Lengths.E (t1 : (Array Value)) (limit2 : Int) (R : (Array Value) → Int → World → Prop) (w : World) : Prop :=
 Nw 39 t1 w fun (b4 : Nat) (w_3 : World) =>
 Nw 23 ⟨List.replicate 258 (.int .u8 0)⟩ w_3 fun (b6 : Nat) (w_5 : World) =>
 Nw 23 ⟨List.replicate 258 (.int .u8 0)⟩ w_5 fun (b8 : Nat) (w_7 : World) =>
 Ld (.arr 258) (⟨b4, 0, none⟩ : Addr) w_7 fun (x9 : (Array Value)) =>
 Cl Try.prog [kS] n_ref07_Order ⟨[(.agg x9)]⟩ w_7 fun (r11 : Sl) (w_10 : World) =>
 Join (fun (w_28 : World) =>
 IfB (((r11.len : Int) : Int) == (1 : Int))
 (Idx r11 0 1 fun (q29 : Addr) =>
 Ld kI q29 w_28 fun (x30 : Int) =>
 IdxP (⟨b8, 0, none⟩ : Addr) 258 x30 1 fun (q31 : Addr) =>
 St q31 (.int .u8 1) w_28 fun (w_32 : World) =>
 Ld (.arr 258) (⟨b8, 0, none⟩ : Addr) w_32 fun (x33 : (Array Value)) =>
 StA 258 (⟨b6, 0, none⟩ : Addr) x33 w_32 fun (w_34 : World) =>
 Ld (.arr 258) (⟨b6, 0, none⟩ : Addr) w_34 fun (res35 : (Array Value)) =>
 R (res35) (0) w_34)
 (Ld (.arr 258) (⟨b4, 0, none⟩ : Addr) w_28 fun (x36 : (Array Value)) =>
 Cl Try.prog [kS] n_ref07_rows ⟨[(.agg x36), (.int .i64 limit2)]⟩ w_28 fun (r38 : Sl) (w_37 : World) =>
 ∃ (I_39 : Int → World → Prop) (m_40 : Int → World → Nat), I_39 (0) w_37 ∧
 ∀ (i41 : Int), ∀ (w_42 : World), I_39 i41 w_42 →
 IfB (decide ((i41 : Int) < ((i64 (((i64 ((2 : Int) * ((r11.len : Int) : Int))) : Int) - (2 : Int))) : Int)))
 (Ld (.arr 258) (⟨b8, 0, none⟩ : Addr) w_42 fun (x43 : (Array Value)) =>
 Cl Try.prog [(.arr 258)] n_ref07_count ⟨[(.agg x43), (.slice r38.base r38.len r38.cap), (.int .i64 (i64 ((limit2 : Int) - (1 : Int)))), (.int .i64 i41)]⟩ w_42 fun (r45 : (Array Value)) (w_44 : World) =>
 StA 258 (⟨b8, 0, none⟩ : Addr) r45 w_44 fun (w_46 : World) =>
 I_39 ((i64 ((i41 : Int) + (1 : Int)))) w_46 ∧ m_40 ((i64 ((i41 : Int) + (1 : Int)))) w_46 < m_40 i41 w_42)
 (Ld (.arr 258) (⟨b8, 0, none⟩ : Addr) w_42 fun (x47 : (Array Value)) =>
 StA 258 (⟨b6, 0, none⟩ : Addr) x47 w_42 fun (w_48 : World) =>
 Ld (.arr 258) (⟨b6, 0, none⟩ : Addr) w_48 fun (res49 : (Array Value)) =>
 R (res49) (0) w_48))) fun (K_12 : World → Prop) =>
 Ld (.arr 258) (⟨b4, 0, none⟩ : Addr) w_10 fun (x13 : (Array Value)) =>
 Cl Try.prog [kB] n_ref07_Valid ⟨[(.agg x13)]⟩ w_10 fun (r15 : Bool) (w_14 : World) =>
 IfB (!r15)
 (Ld (.arr 258) (⟨b8, 0, none⟩ : Addr) w_14 fun (x16 : (Array Value)) =>
 StA 258 (⟨b6, 0, none⟩ : Addr) x16 w_14 fun (w_17 : World) =>
 Ld (.arr 258) (⟨b6, 0, none⟩ : Addr) w_17 fun (res18 : (Array Value)) =>
 R (res18) (2) w_17)
 (IfB (decide ((limit2 : Int) < (1 : Int)))
 (Ld (.arr 258) (⟨b8, 0, none⟩ : Addr) w_14 fun (x19 : (Array Value)) =>
 StA 258 (⟨b6, 0, none⟩ : Addr) x19 w_14 fun (w_20 : World) =>
 Ld (.arr 258) (⟨b6, 0, none⟩ : Addr) w_20 fun (res21 : (Array Value)) =>
 R (res21) (2) w_20)
 (IfB (decide ((limit2 : Int) > (15 : Int)))
 (Ld (.arr 258) (⟨b8, 0, none⟩ : Addr) w_14 fun (x22 : (Array Value)) =>
 StA 258 (⟨b6, 0, none⟩ : Addr) x22 w_14 fun (w_23 : World) =>
 Ld (.arr 258) (⟨b6, 0, none⟩ : Addr) w_23 fun (res24 : (Array Value)) =>
 R (res24) (2) w_23)
 (0 ≤ ((u64 limit2) : Int) ∧
 IfB (decide (((r11.len : Int) : Int) > ((ishl .i64 (1 : Int) ((u64 limit2) : Int)) : Int)))
 (Ld (.arr 258) (⟨b8, 0, none⟩ : Addr) w_14 fun (x25 : (Array Value)) =>
 StA 258 (⟨b6, 0, none⟩ : Addr) x25 w_14 fun (w_26 : World) =>
 Ld (.arr 258) (⟨b6, 0, none⟩ : Addr) w_26 fun (res27 : (Array Value)) =>
 R (res27) (2) w_26)
 (K_12  w_14))))
theorem ref07_Lengths.ok (t1 : (Array Value)) (limit2 : Int) (R : (Array Value) → Int → World → Prop) (w : World) (h : ref07_Lengths.E t1 limit2 R w) : Cl Try.prog [(.arr 258), kI] n_ref07_Lengths ⟨[(.agg t1), (.int .i64 limit2)]⟩ w R :=
  calls_of_eq Try.mix Try.f16 [(.agg t1), (.int .i64 limit2)] [(.arr 258), kI] R 58 [.cell 4 23, .tmp 5] (by kernel_rfl) (by kernel_rfl) (by kernel_rfl) (by kernel_rfl) (by kernel_rfl)
    (.s .o (.s .o (.s .o (.j [] (.s .o (.c (.s .o .o) .o)) (.s (.s .o (.c (.s .o (.s .o .o)) .o)) (.s .o (.s (.s .o (.b (.l [(9, kI)] (.s (.s .o (.c .o .o)) (.s (.b .o) .o))))) (.s .o .o))))))))
    (by kernel_rfl) h
/-- winepressref07.Ints -/
def ref07_Ints.E (a1 : Sl) (b2 : Sl) (R : Bool → World → Prop) (w : World) : Prop :=
 IfB (((a1.len : Int) : Int) != ((b2.len : Int) : Int))
 (R (false) w)
 (∃ (I_3 : Int → World → Prop) (m_4 : Int → World → Nat), I_3 (0) w ∧
 ∀ (i5 : Int), ∀ (w_6 : World), I_3 i5 w_6 →
 IfB (decide ((i5 : Int) < ((a1.len : Int) : Int)))
 (Drw w_6 fun (w_7 : World) =>
 Idx a1 i5 1 fun (q8 : Addr) =>
 Ld kI q8 w_7 fun (x9 : Int) =>
 Idx b2 i5 1 fun (q10 : Addr) =>
 Ld kI q10 w_7 fun (x11 : Int) =>
 IfB ((x9 : Int) != (x11 : Int))
 (R (false) w_7)
 (I_3 ((i64 ((i5 : Int) + (1 : Int)))) w_7 ∧ m_4 ((i64 ((i5 : Int) + (1 : Int)))) w_7 < m_4 i5 w_6))
 (R (true) w_6))
theorem ref07_Ints.ok (a1 : Sl) (b2 : Sl) (R : Bool → World → Prop) (w : World) (h : ref07_Ints.E a1 b2 R w) : Cl Try.prog [kB] n_ref07_Ints ⟨[(.slice a1.base a1.len a1.cap), (.slice b2.base b2.len b2.cap)]⟩ w R :=
  calls_of_eq Try.mix Try.f17 [(.slice a1.base a1.len a1.cap), (.slice b2.base b2.len b2.cap)] [kB] R 26 [.tmp 4] (by kernel_rfl) (by kernel_rfl) (by kernel_rfl) (by kernel_rfl) (by kernel_rfl)
    (.s .o (.s (.s .o (.c (.s .o .o) .o)) (.s (.s .o (.b (.l [(5, kI)] (.s (.s .o (.c .o .o)) (.s (.b (.s .o (.c (.s .o .o) .o))) .o))))) (.s .o .o))))
    (by kernel_rfl) h
/-- packagemerge.Order -/
def packagemerge_Order.E (t1 : (Array Value)) (R : Sl → World → Prop) (w : World) : Prop :=
 Nw 39 t1 w fun (b3 : Nat) (w_2 : World) =>
 Ld (.arr 258) (⟨b3, 0, none⟩ : Addr) w_2 fun (x4 : (Array Value)) =>
 Cl Try.prog [kB] n_packagemerge_Valid ⟨[(.agg x4)]⟩ w_2 fun (r6 : Bool) (w_5 : World) =>
 IfB (!r6)
 (R ((⟨none, 0, 0⟩ : Sl)) w_5)
 (Ld (.arr 258) (⟨b3, 0, none⟩ : Addr) w_5 fun (x7 : (Array Value)) =>
 ∃ (I_8 : Sl → Int → World → Prop) (m_9 : Sl → Int → World → Nat), I_8 ((⟨none, 0, 0⟩ : Sl)) (0) w_5 ∧
 ∀ (l10 : Sl) (t9_11 : Int), ∀ (w_12 : World), I_8 l10 t9_11 w_12 →
 IfB (decide ((t9_11 : Int) < (258 : Int)))
 (IdxV (.int .i64) x7 258 t9_11 fun (e13 : Int) =>
 IfB (decide ((e13 : Int) > (0 : Int)))
 (Nw 3 ⟨[(.int .i64 t9_11)]⟩ w_12 fun (b15 : Nat) (w_14 : World) =>
 Run Try.prog (Builtin.append_ #[32, 32] 32 ⟨[(.slice l10.base l10.len l10.cap), (.slice (⟨some ⟨b15, 0, none⟩, 1, 1⟩ : Sl).base (⟨some ⟨b15, 0, none⟩, 1, 1⟩ : Sl).len (⟨some ⟨b15, 0, none⟩, 1, 1⟩ : Sl).cap)]⟩) kS w_14 fun (s17 : Sl) (w_16 : World) =>
 I_8 (s17) ((i64 ((t9_11 : Int) + (1 : Int)))) w_16 ∧ m_9 (s17) ((i64 ((t9_11 : Int) + (1 : Int)))) w_16 < m_9 l10 t9_11 w_12)
 (I_8 (l10) ((i64 ((t9_11 : Int) + (1 : Int)))) w_12 ∧ m_9 (l10) ((i64 ((t9_11 : Int) + (1 : Int)))) w_12 < m_9 l10 t9_11 w_12))
 (Cl Try.prog [] n_slices_SortStableFunc_int_int ⟨[(.slice l10.base l10.len l10.cap), (.func (.func 36) ⟨[]⟩ ⟨[(.pointer (some (⟨b3, 0, none⟩ : Addr)))]⟩)]⟩ w_12 fun  (w_18 : World) =>
 R (l10) w_18))
theorem packagemerge_Order.ok (t1 : (Array Value)) (R : Sl → World → Prop) (w : World) (h : packagemerge_Order.E t1 R w) : Cl Try.prog [kS] n_packagemerge_Order ⟨[(.agg t1)]⟩ w R :=
  calls_of_eq Try.mix Try.f18 [(.agg t1)] [kS] R 24 [.tmp 2] (by kernel_rfl) (by kernel_rfl) (by kernel_rfl) (by kernel_rfl) (by kernel_rfl)
    (.s .o (.s (.s .o (.c (.s .o .o) .o)) (.s (.s .o (.b (.l [(2, kS), (9, kI)] (.s .o (.s (.c .o .o) (.s (.b (.s .o (.s .o (.c .o .o)))) .o)))))) (.s .o (.s .o .o)))))
    (by kernel_rfl) h
/-- winepressref07.Order -/
def ref07_Order.E (t1 : (Array Value)) (R : Sl → World → Prop) (w : World) : Prop :=
 Nw 39 t1 w fun (b3 : Nat) (w_2 : World) =>
 ∃ (I_4 : Sl → Int → World → Prop) (m_5 : Sl → Int → World → Nat), I_4 ((⟨none, 0, 0⟩ : Sl)) (0) w_2 ∧
 ∀ (out6 : Sl) (s7 : Int), ∀ (w_8 : World), I_4 out6 s7 w_8 →
 Join (fun (w_13 : World) =>
 IdxP (⟨b3, 0, none⟩ : Addr) 258 s7 1 fun (q14 : Addr) =>
 Ld kI q14 w_13 fun (x15 : Int) =>
 IfB ((x15 : Int) == (0 : Int))
 (I_4 (out6) ((i64 ((s7 : Int) + (1 : Int)))) w_13 ∧ m_5 (out6) ((i64 ((s7 : Int) + (1 : Int)))) w_13 < m_5 out6 s7 w_8)
 (∃ (I_16 : Int → World → Prop) (m_17 : Int → World → Nat), I_16 ((out6.len : Int)) w_13 ∧
 ∀ (k18 : Int), ∀ (w_19 : World), I_16 k18 w_19 →
 Drw w_19 fun (w_20 : World) =>
 IfB (decide ((k18 : Int) > (0 : Int)))
 (Idx out6 (i64 ((k18 : Int) - (1 : Int))) 1 fun (q21 : Addr) =>
 Ld kI q21 w_20 fun (x22 : Int) =>
 IdxP (⟨b3, 0, none⟩ : Addr) 258 x22 1 fun (q23 : Addr) =>
 Ld kI q23 w_20 fun (x24 : Int) =>
 IdxP (⟨b3, 0, none⟩ : Addr) 258 s7 1 fun (q25 : Addr) =>
 Ld kI q25 w_20 fun (x26 : Int) =>
 IfB (decide ((x24 : Int) > (x26 : Int)))
 (I_16 ((i64 ((k18 : Int) - (1 : Int)))) w_20 ∧ m_17 ((i64 ((k18 : Int) - (1 : Int)))) w_20 < m_17 k18 w_19)
 (Slc out6 0 k18 (out6).cap 1 fun (s27 : Sl) =>
 Run Try.prog (Builtin.append_ #[32, 32] 32 ⟨[(.slice none 0 0), (.slice s27.base s27.len s27.cap)]⟩) kS w_20 fun (s29 : Sl) (w_28 : World) =>
 Nw 3 ⟨[(.int .i64 s7)]⟩ w_28 fun (b31 : Nat) (w_30 : World) =>
 Run Try.prog (Builtin.append_ #[32, 32] 32 ⟨[(.slice s29.base s29.len s29.cap), (.slice (⟨some ⟨b31, 0, none⟩, 1, 1⟩ : Sl).base (⟨some ⟨b31, 0, none⟩, 1, 1⟩ : Sl).len (⟨some ⟨b31, 0, none⟩, 1, 1⟩ : Sl).cap)]⟩) kS w_30 fun (s33 : Sl) (w_32 : World) =>
 Slc out6 k18 (out6).len (out6).cap 1 fun (s34 : Sl) =>
 Run Try.prog (Builtin.append_ #[32, 32] 32 ⟨[(.slice s33.base s33.len s33.cap), (.slice s34.base s34.len s34.cap)]⟩) kS w_32 fun (s36 : Sl) (w_35 : World) =>
 I_4 (s36) ((i64 ((s7 : Int) + (1 : Int)))) w_35 ∧ m_5 (s36) ((i64 ((s7 : Int) + (1 : Int)))) w_35 < m_5 out6 s7 w_8))
 (Slc out6 0 k18 (out6).cap 1 fun (s37 : Sl) =>
 Run Try.prog (Builtin.append_ #[32, 32] 32 ⟨[(.slice none 0 0), (.slice s37.base s37.len s37.cap)]⟩) kS w_20 fun (s39 : Sl) (w_38 : World) =>
 Nw 3 ⟨[(.int .i64 s7)]⟩ w_38 fun (b41 : Nat) (w_40 : World) =>
 Run Try.prog (Builtin.append_ #[32, 32] 32 ⟨[(.slice s39.base s39.len s39.cap), (.slice (⟨some ⟨b41, 0, none⟩, 1, 1⟩ : Sl).base (⟨some ⟨b41, 0, none⟩, 1, 1⟩ : Sl).len (⟨some ⟨b41, 0, none⟩, 1, 1⟩ : Sl).cap)]⟩) kS w_40 fun (s43 : Sl) (w_42 : World) =>
 Slc out6 k18 (out6).len (out6).cap 1 fun (s44 : Sl) =>
 Run Try.prog (Builtin.append_ #[32, 32] 32 ⟨[(.slice s43.base s43.len s43.cap), (.slice s44.base s44.len s44.cap)]⟩) kS w_42 fun (s46 : Sl) (w_45 : World) =>
 I_4 (s46) ((i64 ((s7 : Int) + (1 : Int)))) w_45 ∧ m_5 (s46) ((i64 ((s7 : Int) + (1 : Int)))) w_45 < m_5 out6 s7 w_8))) fun (K_9 : World → Prop) =>
 IfB (decide ((s7 : Int) < (258 : Int)))
 (Ld (.arr 258) (⟨b3, 0, none⟩ : Addr) w_8 fun (x10 : (Array Value)) =>
 Cl Try.prog [kB] n_ref07_Valid ⟨[(.agg x10)]⟩ w_8 fun (r12 : Bool) (w_11 : World) =>
 IfB r12
 (K_9  w_11)
 (R (out6) w_11))
 (R (out6) w_8)
theorem ref07_Order.ok (t1 : (Array Value)) (R : Sl → World → Prop) (w : World) (h : ref07_Order.E t1 R w) : Cl Try.prog [kS] n_ref07_Order ⟨[(.agg t1)]⟩ w R :=
  calls_of_eq Try.mix Try.f19 [(.agg t1)] [kS] R 53 [.tmp 2] (by kernel_rfl) (by kernel_rfl) (by kernel_rfl) (by kernel_rfl) (by kernel_rfl)
    (.s .o (.s .o (.s (.s .o (.b (.l [(3, kS), (4, kI)] (.j [] (.s .o (.c .o .o)) (.s (.b (.s (.s .o (.c .o .o)) (.s .o (.s (.b (.l [(5, kI)] (.s (.s .o (.c .o .o)) (.b .o)))) (.s .o (.s .o (.s .o .o))))))) .o))))) (.s .o .o))))
    (by kernel_rfl) h
/-- packagemerge.Total -/
def packagemerge_Total.E (t1 : (Array Value)) (l2 : (Array Value)) (R : Int → World → Prop) (w : World) : Prop :=
 Nw 39 t1 w fun (b4 : Nat) (w_3 : World) =>
 Nw 23 l2 w_3 fun (b6 : Nat) (w_5 : World) =>
 Ld (.arr 258) (⟨b4, 0, none⟩ : Addr) w_5 fun (x7 : (Array Value)) =>
 Cl Try.prog [kB] n_packagemerge_Valid ⟨[(.agg x7)]⟩ w_5 fun (r9 : Bool) (w_8 : World) =>
 IfB (!r9)
 (R (0) w_8)
 (Ld (.arr 258) (⟨b6, 0, none⟩ : Addr) w_8 fun (x10 : (Array Value)) =>
 ∃ (I_11 : Int → Int → World → Prop) (m_12 : Int → Int → World → Nat), I_11 (0) (0) w_8 ∧
 ∀ (n13 : Int) (t11_14 : Int), ∀ (w_15 : World), I_11 n13 t11_14 w_15 →
 IfB (decide ((t11_14 : Int) < (258 : Int)))
 (IdxV (.int .u8) x10 258 t11_14 fun (e16 : Int) =>
 IdxP (⟨b4, 0, none⟩ : Addr) 258 t11_14 1 fun (q17 : Addr) =>
 Ld kI q17 w_15 fun (x18 : Int) =>
 I_11 ((i64 ((n13 : Int) + ((i64 ((x18 : Int) * ((i64 e16) : Int))) : Int)))) ((i64 ((t11_14 : Int) + (1 : Int)))) w_15 ∧ m_12 ((i64 ((n13 : Int) + ((i64 ((x18 : Int) * ((i64 e16) : Int))) : Int)))) ((i64 ((t11_14 : Int) + (1 : Int)))) w_15 < m_12 n13 t11_14 w_15)
 (R (n13) w_15))
theorem packagemerge_Total.ok (t1 : (Array Value)) (l2 : (Array Value)) (R : Int → World → Prop) (w : World) (h : packagemerge_Total.E t1 l2 R w) : Cl Try.prog [kI] n_packagemerge_Total ⟨[(.agg t1), (.agg l2)]⟩ w R :=
  calls_of_eq Try.mix Try.f20 [(.agg t1), (.agg l2)] [kI] R 25 [.tmp 4] (by kernel_rfl) (by kernel_rfl) (by kernel_rfl) (by kernel_rfl) (by kernel_rfl)
    (.s .o (.s (.s .o (.c (.s .o .o) .o)) (.s (.s .o (.b (.l [(4, kI), (11, kI)] (.s .o (.s (.c .o .o) (.s (.b (.s .o .o)) .o)))))) (.s .o .o))))
    (by kernel_rfl) h
/-- winepressref07.Total -/
def ref07_Total.E (t1 : (Array Value)) (l2 : (Array Value)) (R : Int → World → Prop) (w : World) : Prop :=
 Nw 39 t1 w fun (b4 : Nat) (w_3 : World) =>
 Nw 23 l2 w_3 fun (b6 : Nat) (w_5 : World) =>
 ∃ (I_7 : Int → Int → World → Prop) (m_8 : Int → Int → World → Nat), I_7 (0) (0) w_5 ∧
 ∀ (n9 : Int) (s10 : Int), ∀ (w_11 : World), I_7 n9 s10 w_11 →
 IfB (decide ((s10 : Int) < (258 : Int)))
 (Ld (.arr 258) (⟨b4, 0, none⟩ : Addr) w_11 fun (x12 : (Array Value)) =>
 Cl Try.prog [kB] n_ref07_Valid ⟨[(.agg x12)]⟩ w_11 fun (r14 : Bool) (w_13 : World) =>
 IfB r14
 (Drw w_13 fun (w_15 : World) =>
 IdxP (⟨b4, 0, none⟩ : Addr) 258 s10 1 fun (q16 : Addr) =>
 Ld kI q16 w_15 fun (x17 : Int) =>
 IdxP (⟨b6, 0, none⟩ : Addr) 258 s10 1 fun (q18 : Addr) =>
 Ld (kInt .u8) q18 w_15 fun (x19 : Int) =>
 I_7 ((i64 ((n9 : Int) + ((i64 ((x17 : Int) * ((i64 x19) : Int))) : Int)))) ((i64 ((s10 : Int) + (1 : Int)))) w_15 ∧ m_8 ((i64 ((n9 : Int) + ((i64 ((x17 : Int) * ((i64 x19) : Int))) : Int)))) ((i64 ((s10 : Int) + (1 : Int)))) w_15 < m_8 n9 s10 w_11)
 (R (n9) w_13))
 (R (n9) w_11)
theorem ref07_Total.ok (t1 : (Array Value)) (l2 : (Array Value)) (R : Int → World → Prop) (w : World) (h : ref07_Total.E t1 l2 R w) : Cl Try.prog [kI] n_ref07_Total ⟨[(.agg t1), (.agg l2)]⟩ w R :=
  calls_of_eq Try.mix Try.f21 [(.agg t1), (.agg l2)] [kI] R 26 [.tmp 4] (by kernel_rfl) (by kernel_rfl) (by kernel_rfl) (by kernel_rfl) (by kernel_rfl)
    (.s .o (.s .o (.s (.s .o (.b (.l [(5, kI), (6, kI)] (.s (.s .o (.c .o .o)) (.s (.b .o) .o))))) (.s .o .o))))
    (by kernel_rfl) h
/-- packagemerge.Valid -/
def packagemerge_Valid.E (t1 : (Array Value)) (R : Bool → World → Prop) (w : World) : Prop :=
 Nw 39 t1 w fun (b3 : Nat) (w_2 : World) =>
 Slc (⟨some (⟨b3, 0, none⟩ : Addr), 258, 258⟩ : Sl) 0 258 258 1 fun (s4 : Sl) =>
 Cl Try.prog [kB] n_slices_ContainsFunc_int_int ⟨[(.slice s4.base s4.len s4.cap), (.func (.func 39) ⟨[]⟩ ⟨[]⟩)]⟩ w_2 fun (r6 : Bool) (w_5 : World) =>
 R ((!r6)) w_5
theorem packagemerge_Valid.ok (t1 : (Array Value)) (R : Bool → World → Prop) (w : World) (h : packagemerge_Valid.E t1 R w) : Cl Try.prog [kB] n_packagemerge_Valid ⟨[(.agg t1)]⟩ w R :=
  calls_of_eq Try.mix Try.f22 [(.agg t1)] [kB] R 6 [.tmp 2] (by kernel_rfl) (by kernel_rfl) (by kernel_rfl) (by kernel_rfl) (by kernel_rfl)
    (.s .o (.s .o .o))
    (by kernel_rfl) h
/-- winepressref07.Valid -/
def ref07_Valid.E (t1 : (Array Value)) (R : Bool → World → Prop) (w : World) : Prop :=
 Nw 39 t1 w fun (b3 : Nat) (w_2 : World) =>
 ∃ (I_4 : Int → World → Prop) (m_5 : Int → World → Nat), I_4 (0) w_2 ∧
 ∀ (i6 : Int), ∀ (w_7 : World), I_4 i6 w_7 →
 IfB (decide ((i6 : Int) < (258 : Int)))
 (IdxP (⟨b3, 0, none⟩ : Addr) 258 i6 1 fun (q8 : Addr) =>
 Ld kI q8 w_7 fun (x9 : Int) =>
 IfB (decide ((x9 : Int) < (0 : Int)))
 (R (false) w_7)
 (IdxP (⟨b3, 0, none⟩ : Addr) 258 i6 1 fun (q10 : Addr) =>
 Ld kI q10 w_7 fun (x11 : Int) =>
 IfB (decide ((x11 : Int) > (2147483647 : Int)))
 (R (false) w_7)
 (I_4 ((i64 ((i6 : Int) + (1 : Int)))) w_7 ∧ m_5 ((i64 ((i6 : Int) + (1 : Int)))) w_7 < m_5 i6 w_7)))
 (R (true) w_7)
theorem ref07_Valid.ok (t1 : (Array Value)) (R : Bool → World → Prop) (w : World) (h : ref07_Valid.E t1 R w) : Cl Try.prog [kB] n_ref07_Valid ⟨[(.agg t1)]⟩ w R :=
  calls_of_eq Try.mix Try.f23 [(.agg t1)] [kB] R 18 [.tmp 2] (by kernel_rfl) (by kernel_rfl) (by kernel_rfl) (by kernel_rfl) (by kernel_rfl)
    (.s .o (.s (.s .o (.b (.l [(3, kI)] (.s (.s .o (.c .o .o)) (.s (.b (.s .o (.c (.s .o .o) .o))) .o))))) (.s .o .o)))
    (by kernel_rfl) h
/-- winepresslaw07.wakes -/
def law07_wakes.E  (R : Bool → World → Prop) (w : World) : Prop :=
 Bld Try.prog 39 [(0, (.int .i64 1)), (1, (.int .i64 1)), (2, (.int .i64 2)), (3, (.int .i64 4))] fun (cs1 : Array Value) =>
 Nw 39 ⟨List.replicate 258 (.int .i64 0)⟩ w fun (b3 : Nat) (w_2 : World) =>
 StA 258 (⟨b3, 0, none⟩ : Addr) cs1 w_2 fun (w_4 : World) =>
 Ld (.arr 258) (⟨b3, 0, none⟩ : Addr) w_4 fun (x5 : (Array Value)) =>
 Cl Try.prog [(.arr 258), kI] n_packagemerge_Lengths ⟨[(.agg x5), (.int .i64 15)]⟩ w_4 fun (r7 : (Array Value)) (r8 : Int) (w_6 : World) =>
 Nw 23 ⟨List.replicate 258 (.int .u8 0)⟩ w_6 fun (b10 : Nat) (w_9 : World) =>
 StA 258 (⟨b10, 0, none⟩ : Addr) r7 w_9 fun (w_11 : World) =>
 Ld (.arr 258) (⟨b3, 0, none⟩ : Addr) w_11 fun (x12 : (Array Value)) =>
 Cl Try.prog [(.arr 258), kI] n_packagemerge_Lengths ⟨[(.agg x12), (.int .i64 2)]⟩ w_11 fun (r14 : (Array Value)) (r15 : Int) (w_13 : World) =>
 Nw 23 ⟨List.replicate 258 (.int .u8 0)⟩ w_13 fun (b17 : Nat) (w_16 : World) =>
 StA 258 (⟨b17, 0, none⟩ : Addr) r14 w_16 fun (w_18 : World) =>
 Ld (.arr 258) (⟨b3, 0, none⟩ : Addr) w_18 fun (x19 : (Array Value)) =>
 Cl Try.prog [(.arr 258), kI] n_packagemerge_Lengths ⟨[(.agg x19), (.int .i64 1)]⟩ w_18 fun (r21 : (Array Value)) (r22 : Int) (w_20 : World) =>
 Nw 23 ⟨List.replicate 258 (.int .u8 0)⟩ w_20 fun (b24 : Nat) (w_23 : World) =>
 StA 258 (⟨b24, 0, none⟩ : Addr) r21 w_23 fun (w_25 : World) =>
 Ld (.arr 258) (⟨b3, 0, none⟩ : Addr) w_25 fun (x26 : (Array Value)) =>
 Cl Try.prog [(.arr 258), kI] n_packagemerge_Lengths ⟨[(.agg x26), (.int .i64 16)]⟩ w_25 fun (r28 : (Array Value)) (r29 : Int) (w_27 : World) =>
 Nw 23 ⟨List.replicate 258 (.int .u8 0)⟩ w_27 fun (b31 : Nat) (w_30 : World) =>
 StA 258 (⟨b31, 0, none⟩ : Addr) r28 w_30 fun (w_32 : World) =>
 Bld Try.prog 39 [(0, (.int .i64 0)), (1, (.int .i64 9))] fun (cs33 : Array Value) =>
 Cl Try.prog [(.arr 258), kI] n_packagemerge_Lengths ⟨[(.agg cs33), (.int .i64 1)]⟩ w_32 fun (r35 : (Array Value)) (r36 : Int) (w_34 : World) =>
 Nw 23 ⟨List.replicate 258 (.int .u8 0)⟩ w_34 fun (b38 : Nat) (w_37 : World) =>
 StA 258 (⟨b38, 0, none⟩ : Addr) r35 w_37 fun (w_39 : World) =>
 Bld Try.prog 39 [] fun (cs40 : Array Value) =>
 Cl Try.prog [(.arr 258), kI] n_packagemerge_Lengths ⟨[(.agg cs40), (.int .i64 3)]⟩ w_39 fun (r42 : (Array Value)) (r43 : Int) (w_41 : World) =>
 Nw 23 ⟨List.replicate 258 (.int .u8 0)⟩ w_41 fun (b45 : Nat) (w_44 : World) =>
 StA 258 (⟨b45, 0, none⟩ : Addr) r42 w_44 fun (w_46 : World) =>
 Bld Try.prog 39 [(0, (.int .i64 (-1)))] fun (cs47 : Array Value) =>
 Cl Try.prog [(.arr 258), kI] n_packagemerge_Lengths ⟨[(.agg cs47), (.int .i64 3)]⟩ w_46 fun (r49 : (Array Value)) (r50 : Int) (w_48 : World) =>
 Nw 23 ⟨List.replicate 258 (.int .u8 0)⟩ w_48 fun (b52 : Nat) (w_51 : World) =>
 StA 258 (⟨b52, 0, none⟩ : Addr) r49 w_51 fun (w_53 : World) =>
 IfB ((r8 : Int) == (0 : Int))
 (Ld (.arr 258) (⟨b10, 0, none⟩ : Addr) w_53 fun (x54 : (Array Value)) =>
 Bld Try.prog 23 [(0, (.int .u8 3)), (1, (.int .u8 3)), (2, (.int .u8 2)), (3, (.int .u8 1))] fun (cs55 : Array Value) =>
 EqA .u8 258 x54 cs55 fun (eq56 : Bool) =>
 IfB eq56
 (IfB ((r15 : Int) == (0 : Int))
 (Ld (.arr 258) (⟨b17, 0, none⟩ : Addr) w_53 fun (x57 : (Array Value)) =>
 Bld Try.prog 23 [(0, (.int .u8 2)), (1, (.int .u8 2)), (2, (.int .u8 2)), (3, (.int .u8 2))] fun (cs58 : Array Value) =>
 EqA .u8 258 x57 cs58 fun (eq59 : Bool) =>
 IfB eq59
 (IfB ((r22 : Int) == (2 : Int))
 (IfB ((r29 : Int) == (2 : Int))
 (IfB ((r36 : Int) == (0 : Int))
 (Ld (.arr 258) (⟨b38, 0, none⟩ : Addr) w_53 fun (x60 : (Array Value)) =>
 Bld Try.prog 23 [(0, (.int .u8 0)), (1, (.int .u8 1))] fun (cs61 : Array Value) =>
 EqA .u8 258 x60 cs61 fun (eq62 : Bool) =>
 IfB eq62
 (IfB ((r43 : Int) == (0 : Int))
 (Ld (.arr 258) (⟨b45, 0, none⟩ : Addr) w_53 fun (x63 : (Array Value)) =>
 Bld Try.prog 23 [] fun (cs64 : Array Value) =>
 EqA .u8 258 x63 cs64 fun (eq65 : Bool) =>
 IfB eq65
 (IfB ((r50 : Int) == (2 : Int))
 (Ld (.arr 258) (⟨b3, 0, none⟩ : Addr) w_53 fun (x66 : (Array Value)) =>
 Ld (.arr 258) (⟨b10, 0, none⟩ : Addr) w_53 fun (x67 : (Array Value)) =>
 Cl Try.prog [kI] n_packagemerge_Total ⟨[(.agg x66), (.agg x67)]⟩ w_53 fun (r69 : Int) (w_68 : World) =>
 IfB ((r69 : Int) == (14 : Int))
 (Ld (.arr 258) (⟨b3, 0, none⟩ : Addr) w_68 fun (x70 : (Array Value)) =>
 Ld (.arr 258) (⟨b17, 0, none⟩ : Addr) w_68 fun (x71 : (Array Value)) =>
 Cl Try.prog [kI] n_packagemerge_Total ⟨[(.agg x70), (.agg x71)]⟩ w_68 fun (r73 : Int) (w_72 : World) =>
 IfB ((r73 : Int) == (16 : Int))
 (Ld (.arr 258) (⟨b3, 0, none⟩ : Addr) w_72 fun (x74 : (Array Value)) =>
 Cl Try.prog [kS] n_packagemerge_Order ⟨[(.agg x74)]⟩ w_72 fun (r76 : Sl) (w_75 : World) =>
 Nw 3 ⟨[(.int .i64 0), (.int .i64 1), (.int .i64 2), (.int .i64 3)]⟩ w_75 fun (b78 : Nat) (w_77 : World) =>
 Cl Try.prog [kB] n_ref07_Ints ⟨[(.slice r76.base r76.len r76.cap), (.slice (⟨some ⟨b78, 0, none⟩, 4, 4⟩ : Sl).base (⟨some ⟨b78, 0, none⟩, 4, 4⟩ : Sl).len (⟨some ⟨b78, 0, none⟩, 4, 4⟩ : Sl).cap)]⟩ w_77 fun (r80 : Bool) (w_79 : World) =>
 IfB r80
 (Ld (.arr 258) (⟨b3, 0, none⟩ : Addr) w_79 fun (x81 : (Array Value)) =>
 Cl Try.prog [kB] n_packagemerge_Valid ⟨[(.agg x81)]⟩ w_79 fun (r83 : Bool) (w_82 : World) =>
 IfB r83
 (Bld Try.prog 39 [(0, (.int .i64 (-1)))] fun (cs84 : Array Value) =>
 Cl Try.prog [kB] n_packagemerge_Valid ⟨[(.agg cs84)]⟩ w_82 fun (r86 : Bool) (w_85 : World) =>
 R ((!r86)) w_85)
 (R (false) w_82))
 (R (false) w_79))
 (R (false) w_72))
 (R (false) w_68))
 (R (false) w_53))
 (R (false) w_53))
 (R (false) w_53))
 (R (false) w_53))
 (R (false) w_53))
 (R (false) w_53))
 (R (false) w_53))
 (R (false) w_53))
 (R (false) w_53))
 (R (false) w_53))
 (R (false) w_53)
theorem law07_wakes.ok  (R : Bool → World → Prop) (w : World) (h : law07_wakes.E  R w) : Cl Try.prog [kB] n_law07_wakes ⟨[]⟩ w R :=
  calls_of_eq Try.mix Try.f24 [] [kB] R 125 [.tmp 0] (by kernel_rfl) (by kernel_rfl) (by kernel_rfl) (by kernel_rfl) (by kernel_rfl)
    (.s .o (.s .o (.s .o (.s .o (.s .o (.s .o (.s .o (.s .o (.s .o (.s .o .o))))))))))
    (by kernel_rfl) h
/-- winepresslaw07.few -/
def law07_few.E (counts1 : Sl) (R : (Array Value) → Int → Bool → World → Prop) (w : World) : Prop :=
 Nw 39 ⟨List.replicate 258 (.int .i64 0)⟩ w fun (b3 : Nat) (w_2 : World) =>
 Nw 39 ⟨List.replicate 258 (.int .i64 0)⟩ w_2 fun (b5 : Nat) (w_4 : World) =>
 ∃ (I_6 : Int → Int → World → Prop) (m_7 : Int → Int → World → Nat), I_6 (0) (0) w_4 ∧
 ∀ (n8 : Int) (i9 : Int), ∀ (w_10 : World), I_6 n8 i9 w_10 →
 Join (fun (w_18 : World) =>
 Idx counts1 i9 1 fun (q19 : Addr) =>
 Ld kI q19 w_18 fun (x20 : Int) =>
 IfB (decide ((x20 : Int) < (0 : Int)))
 (Ld (.arr 258) (⟨b5, 0, none⟩ : Addr) w_18 fun (x21 : (Array Value)) =>
 StA 258 (⟨b3, 0, none⟩ : Addr) x21 w_18 fun (w_22 : World) =>
 Ld (.arr 258) (⟨b3, 0, none⟩ : Addr) w_22 fun (res23 : (Array Value)) =>
 R (res23) (0) (false) w_22)
 (Idx counts1 i9 1 fun (q24 : Addr) =>
 Ld kI q24 w_18 fun (x25 : Int) =>
 IfB (decide ((x25 : Int) > (2147483647 : Int)))
 (Ld (.arr 258) (⟨b5, 0, none⟩ : Addr) w_18 fun (x26 : (Array Value)) =>
 StA 258 (⟨b3, 0, none⟩ : Addr) x26 w_18 fun (w_27 : World) =>
 Ld (.arr 258) (⟨b3, 0, none⟩ : Addr) w_27 fun (res28 : (Array Value)) =>
 R (res28) (0) (false) w_27)
 (Idx counts1 i9 1 fun (q29 : Addr) =>
 Ld kI q29 w_18 fun (x30 : Int) =>
 IdxP (⟨b5, 0, none⟩ : Addr) 258 (i64 (((i64 ((i9 : Int) * (50 : Int))) : Int) + (i9 : Int))) 1 fun (q31 : Addr) =>
 St q31 (.int .i64 x30) w_18 fun (w_32 : World) =>
 Idx counts1 i9 1 fun (q33 : Addr) =>
 Ld kI q33 w_32 fun (x34 : Int) =>
 IfB (decide ((x34 : Int) > (0 : Int)))
 (I_6 ((i64 ((n8 : Int) + (1 : Int)))) ((i64 ((i9 : Int) + (1 : Int)))) w_32 ∧ m_7 ((i64 ((n8 : Int) + (1 : Int)))) ((i64 ((i9 : Int) + (1 : Int)))) w_32 < m_7 n8 i9 w_10)
 (I_6 (n8) ((i64 ((i9 : Int) + (1 : Int)))) w_32 ∧ m_7 (n8) ((i64 ((i9 : Int) + (1 : Int)))) w_32 < m_7 n8 i9 w_10)))) fun (K_11 : World → Prop) =>
 IfB (decide ((i9 : Int) < ((counts1.len : Int) : Int)))
 (IfB (decide ((i9 : Int) < (5 : Int)))
 (K_11  w_10)
 (Ld (.arr 258) (⟨b5, 0, none⟩ : Addr) w_10 fun (x12 : (Array Value)) =>
 StA 258 (⟨b3, 0, none⟩ : Addr) x12 w_10 fun (w_13 : World) =>
 Ld (.arr 258) (⟨b3, 0, none⟩ : Addr) w_13 fun (res14 : (Array Value)) =>
 R (res14) (n8) (true) w_13))
 (Ld (.arr 258) (⟨b5, 0, none⟩ : Addr) w_10 fun (x15 : (Array Value)) =>
 StA 258 (⟨b3, 0, none⟩ : Addr) x15 w_10 fun (w_16 : World) =>
 Ld (.arr 258) (⟨b3, 0, none⟩ : Addr) w_16 fun (res17 : (Array Value)) =>
 R (res17) (n8) (true) w_16)
theorem law07_few.ok (counts1 : Sl) (R : (Array Value) → Int → Bool → World → Prop) (w : World) (h : law07_few.E counts1 R w) : Cl Try.prog [(.arr 258), kI, kB] n_law07_few ⟨[(.slice counts1.base counts1.len counts1.cap)]⟩ w R :=
  calls_of_eq Try.mix Try.f25 [(.slice counts1.base counts1.len counts1.cap)] [(.arr 258), kI, kB] R 49 [.cell 2 39, .tmp 3, .tmp 4] (by kernel_rfl) (by kernel_rfl) (by kernel_rfl) (by kernel_rfl) (by kernel_rfl)
    (.s .o (.s .o (.s .o (.s (.s .o (.b (.l [(6, kI), (7, kI)] (.j [] (.s .o (.c .o .o)) (.s (.b (.s (.s .o (.c (.s .o .o) .o)) (.s .o (.s .o (.c .o .o))))) .o))))) (.s .o .o)))))
    (by kernel_rfl) h
/-- canonical.Find -/
def canonical_Find.E (l1 : (Array Value)) (code2 : Int) (length3 : Int) (R : Int → Bool → World → Prop) (w : World) : Prop :=
 Nw 23 l1 w fun (b5 : Nat) (w_4 : World) =>
 Ld (.arr 258) (⟨b5, 0, none⟩ : Addr) w_4 fun (x6 : (Array Value)) =>
 Cl Try.prog [(.arr 258), kI] n_canonical_Codes ⟨[(.agg x6)]⟩ w_4 fun (r8 : (Array Value)) (r9 : Int) (w_7 : World) =>
 Nw 28 ⟨List.replicate 258 (.int .u32 0)⟩ w_7 fun (b11 : Nat) (w_10 : World) =>
 StA 258 (⟨b11, 0, none⟩ : Addr) r8 w_10 fun (w_12 : World) =>
 Run Try.prog (Instr.makeMap 71 none) kM w_12 fun (m_14 : Option Nat) (w_13 : World) =>
 Ld (.arr 258) (⟨b5, 0, none⟩ : Addr) w_13 fun (x15 : (Array Value)) =>
 Cl Try.prog [kS] n_canonical_Order ⟨[(.agg x15)]⟩ w_13 fun (r17 : Sl) (w_16 : World) =>
 ∃ (I_18 : Int → World → Prop) (m_19 : Int → World → Nat), I_18 (0) w_16 ∧
 ∀ (t24_20 : Int), ∀ (w_21 : World), I_18 t24_20 w_21 →
 IfB (decide ((t24_20 : Int) < ((r17.len : Int) : Int)))
 (Idx r17 t24_20 1 fun (q22 : Addr) =>
 Ld kI q22 w_21 fun (x23 : Int) =>
 Drw w_21 fun (w_24 : World) =>
 IdxP (⟨b11, 0, none⟩ : Addr) 258 x23 1 fun (q25 : Addr) =>
 Ld (kInt .u32) q25 w_24 fun (x26 : Int) =>
 IdxP (⟨b5, 0, none⟩ : Addr) 258 x23 1 fun (q27 : Addr) =>
 Ld (kInt .u8) q27 w_24 fun (x28 : Int) =>
 Run Try.prog (do Instr.mapUpdate 71 (.map m_14) (.agg ⟨[(.int .u32 x26), (.int .i64 (i64 x28))]⟩) (.int .i64 x23); pure undef) kV w_24 fun (_ : Value) (w_29 : World) =>
 I_18 ((i64 ((t24_20 : Int) + (1 : Int)))) w_29 ∧ m_19 ((i64 ((t24_20 : Int) + (1 : Int)))) w_29 < m_19 t24_20 w_21)
 (RunR Try.prog (Instr.lookup 71 (.map m_14) (.agg ⟨[(.int .u32 code2), (.int .i64 length3)]⟩) true) [kI, kB] w_21 fun (e31 : Int) (e32 : Bool) (w_30 : World) =>
 R (e31) (e32) w_30)
theorem canonical_Find.ok (l1 : (Array Value)) (code2 : Int) (length3 : Int) (R : Int → Bool → World → Prop) (w : World) (h : canonical_Find.E l1 code2 length3 R w) : Cl Try.prog [kI, kB] n_canonical_Find ⟨[(.agg l1), (.int .u32 code2), (.int .i64 length3)]⟩ w R :=
  calls_of_eq Try.mix Try.f26 [(.agg l1), (.int .u32 code2), (.int .i64 length3)] [kI, kB] R 49 [.tmp 6, .tmp 7] (by kernel_rfl) (by kernel_rfl) (by kernel_rfl) (by kernel_rfl) (by kernel_rfl)
    (.s .o (.s .o (.s .o (.s (.s .o (.b (.l [(24, kI)] (.s .o (.s (.c .o .o) (.s (.b (.s .o .o)) .o)))))) (.s .o (.s .o .o))))))
    (by kernel_rfl) h
/-- canonical.First -/
def canonical_First.E (l1 : (Array Value)) (length2 : Int) (R : Int → Int → Bool → World → Prop) (w : World) : Prop :=
 Nw 23 l1 w fun (b4 : Nat) (w_3 : World) =>
 Ld (.arr 258) (⟨b4, 0, none⟩ : Addr) w_3 fun (x5 : (Array Value)) =>
 Cl Try.prog [(.arr 258), kI] n_canonical_Codes ⟨[(.agg x5)]⟩ w_3 fun (r7 : (Array Value)) (r8 : Int) (w_6 : World) =>
 Nw 28 ⟨List.replicate 258 (.int .u32 0)⟩ w_6 fun (b10 : Nat) (w_9 : World) =>
 StA 258 (⟨b10, 0, none⟩ : Addr) r7 w_9 fun (w_11 : World) =>
 Ld (.arr 258) (⟨b4, 0, none⟩ : Addr) w_11 fun (x12 : (Array Value)) =>
 Cl Try.prog [kS] n_canonical_Order ⟨[(.agg x12)]⟩ w_11 fun (r14 : Sl) (w_13 : World) =>
 ∃ (I_15 : Int → Int → Int → World → Prop) (m_16 : Int → Int → Int → World → Nat), I_15 (0) (0) (0) w_13 ∧
 ∀ (code17 : Int) (many18 : Int) (t19_19 : Int), ∀ (w_20 : World), I_15 code17 many18 t19_19 w_20 →
 IfB (decide ((t19_19 : Int) < ((r14.len : Int) : Int)))
 (Idx r14 t19_19 1 fun (q21 : Addr) =>
 Ld kI q21 w_20 fun (x22 : Int) =>
 IdxP (⟨b4, 0, none⟩ : Addr) 258 x22 1 fun (q23 : Addr) =>
 Ld (kInt .u8) q23 w_20 fun (x24 : Int) =>
 IfB (((i64 x24) : Int) != (length2 : Int))
 (I_15 (code17) (many18) ((i64 ((t19_19 : Int) + (1 : Int)))) w_20 ∧ m_16 (code17) (many18) ((i64 ((t19_19 : Int) + (1 : Int)))) w_20 < m_16 code17 many18 t19_19 w_20)
 (IfB (((i64 ((many18 : Int) + (1 : Int))) : Int) == (1 : Int))
 (IdxP (⟨b10, 0, none⟩ : Addr) 258 x22 1 fun (q25 : Addr) =>
 Ld (kInt .u32) q25 w_20 fun (x26 : Int) =>
 I_15 (x26) ((i64 ((many18 : Int) + (1 : Int)))) ((i64 ((t19_19 : Int) + (1 : Int)))) w_20 ∧ m_16 (x26) ((i64 ((many18 : Int) + (1 : Int)))) ((i64 ((t19_19 : Int) + (1 : Int)))) w_20 < m_16 code17 many18 t19_19 w_20)
 (I_15 (code17) ((i64 ((many18 : Int) + (1 : Int)))) ((i64 ((t19_19 : Int) + (1 : Int)))) w_20 ∧ m_16 (code17) ((i64 ((many18 : Int) + (1 : Int)))) ((i64 ((t19_19 : Int) + (1 : Int)))) w_20 < m_16 code17 many18 t19_19 w_20)))
 (R (code17) (many18) ((decide ((many18 : Int) > (0 : Int)))) w_20)
theorem canonical_First.ok (l1 : (Array Value)) (length2 : Int) (R : Int → Int → Bool → World → Prop) (w : World) (h : canonical_First.E l1 length2 R w) : Cl Try.prog [(kInt .u32), kI, kB] n_canonical_First ⟨[(.agg l1), (.int .i64 length2)]⟩ w R :=
  calls_of_eq Try.mix Try.f27 [(.agg l1), (.int .i64 length2)] [(kInt .u32), kI, kB] R 41 [.tmp 4, .tmp 5, .tmp 6] (by kernel_rfl) (by kernel_rfl) (by kernel_rfl) (by kernel_rfl) (by kernel_rfl)
    (.s .o (.s .o (.s (.s .o (.b (.l [(4, (kInt .u32)), (5, kI), (19, kI)] (.s .o (.s (.c .o .o) (.s (.b (.s .o (.s (.s .o (.c .o .o)) (.s .o (.s .o (.c .o .o)))))) .o)))))) (.s .o .o))))
    (by kernel_rfl) h
/-- canonical.Valid -/
def canonical_Valid.E (l1 : (Array Value)) (R : Bool → World → Prop) (w : World) : Prop :=
 Nw 23 l1 w fun (b3 : Nat) (w_2 : World) =>
 Ld (.arr 258) (⟨b3, 0, none⟩ : Addr) w_2 fun (x4 : (Array Value)) =>
 Cl Try.prog [kB] n_kraft_Fits ⟨[(.agg x4)]⟩ w_2 fun (r6 : Bool) (w_5 : World) =>
 R (r6) w_5
theorem canonical_Valid.ok (l1 : (Array Value)) (R : Bool → World → Prop) (w : World) (h : canonical_Valid.E l1 R w) : Cl Try.prog [kB] n_canonical_Valid ⟨[(.agg l1)]⟩ w R :=
  calls_of_eq Try.mix Try.f28 [(.agg l1)] [kB] R 5 [.tmp 2] (by kernel_rfl) (by kernel_rfl) (by kernel_rfl) (by kernel_rfl) (by kernel_rfl)
    (.s .o (.s .o .o))
    (by kernel_rfl) h
/-- slices.SortStableFunc[[]int,int] -/
def slices_SortStableFunc_int_int.E (x1 : Sl) (cmp2 : Value) (R : World → Prop) (w : World) : Prop :=
 Cl Try.prog [] n_slices_stableCmpFunc_int ⟨[(.slice x1.base x1.len x1.cap), (.int .i64 (x1.len : Int)), cmp2]⟩ w fun  (w_3 : World) =>
 R  w_3
theorem slices_SortStableFunc_int_int.ok (x1 : Sl) (cmp2 : Value) (R : World → Prop) (w : World) (h : slices_SortStableFunc_int_int.E x1 cmp2 R w) : Cl Try.prog [] n_slices_SortStableFunc_int_int ⟨[(.slice x1.base x1.len x1.cap), cmp2]⟩ w R :=
  calls_of_eq Try.mix Try.f29 [(.slice x1.base x1.len x1.cap), cmp2] [] R 9 [] (by kernel_rfl) (by kernel_rfl) (by kernel_rfl) (by kernel_rfl) (by kernel_rfl)
    .o
    (by kernel_rfl) h
/-- canonical.Order$1 -/
def canonical_Order_1.E (a1 : Int) (b2 : Int) (c3 : Addr) (R : Int → World → Prop) (w : World) : Prop :=
 Drw w fun (w_4 : World) =>
 IdxP c3 258 a1 1 fun (q5 : Addr) =>
 Ld (kInt .u8) q5 w_4 fun (x6 : Int) =>
 IdxP c3 258 b2 1 fun (q7 : Addr) =>
 Ld (kInt .u8) q7 w_4 fun (x8 : Int) =>
 Cl Try.prog [kI] n_cmp_Compare_uint8 ⟨[(.int .u8 x6), (.int .u8 x8)]⟩ w_4 fun (r10 : Int) (w_9 : World) =>
 R (r10) w_9
theorem canonical_Order_1.ok (a1 : Int) (b2 : Int) (c3 : Addr) (R : Int → World → Prop) (w : World) (h : canonical_Order_1.E a1 b2 c3 R w) : Cl Try.prog [kI] n_canonical_Order_1 ⟨[(.int .i64 a1), (.int .i64 b2), (.pointer (some c3))]⟩ w R :=
  calls_of_eq Try.mix Try.f30 [(.int .i64 a1), (.int .i64 b2), (.pointer (some c3))] [kI] R 13 [.tmp 5] (by kernel_rfl) (by kernel_rfl) (by kernel_rfl) (by kernel_rfl) (by kernel_rfl)
    (.s .o (.s .o .o))
    (by kernel_rfl) h
/-- cmp.Compare[uint8] -/
def cmp_Compare_uint8.E (x1 : Int) (y2 : Int) (R : Int → World → Prop) (w : World) : Prop :=
 Cl Try.prog [kB] n_cmp_isNaN_uint8 ⟨[(.int .u8 x1)]⟩ w fun (r4 : Bool) (w_3 : World) =>
 Cl Try.prog [kB] n_cmp_isNaN_uint8 ⟨[(.int .u8 y2)]⟩ w_3 fun (r6 : Bool) (w_5 : World) =>
 IfB r4
 (IfB r6
 (R (0) w_5)
 (R ((-1)) w_5))
 (IfB r6
 (R (1) w_5)
 (IfB (decide ((x1 : Int) < (y2 : Int)))
 (R ((-1)) w_5)
 (IfB (decide ((x1 : Int) > (y2 : Int)))
 (R (1) w_5)
 (R (0) w_5))))
theorem cmp_Compare_uint8.ok (x1 : Int) (y2 : Int) (R : Int → World → Prop) (w : World) (h : cmp_Compare_uint8.E x1 y2 R w) : Cl Try.prog [kI] n_cmp_Compare_uint8 ⟨[(.int .u8 x1), (.int .u8 y2)]⟩ w R :=
  calls_of_eq Try.mix Try.f31 [(.int .u8 x1), (.int .u8 y2)] [kI] R 20 [.tmp 4] (by kernel_rfl) (by kernel_rfl) (by kernel_rfl) (by kernel_rfl) (by kernel_rfl)
    (.s .o (.s .o (.s .o (.s (.s .o (.c (.s (.s .o (.c (.s .o .o) .o)) (.s .o .o)) .o)) (.s (.s .o (.c (.s .o .o) .o)) (.s (.s .o (.c (.s .o .o) .o)) (.s (.s .o (.c (.s .o .o) .o)) (.s .o .o))))))))
    (by kernel_rfl) h
/-- packagemerge.leaves -/
def packagemerge_leaves.E (t1 : (Array Value)) (l2 : Sl) (R : Sl → World → Prop) (w : World) : Prop :=
 Nw 39 t1 w fun (b4 : Nat) (w_3 : World) =>
 ∃ (I_5 : Sl → Int → World → Prop) (m_6 : Sl → Int → World → Nat), I_5 ((⟨none, 0, 0⟩ : Sl)) (0) w_3 ∧
 ∀ (row7 : Sl) (t9_8 : Int), ∀ (w_9 : World), I_5 row7 t9_8 w_9 →
 IfB (decide ((t9_8 : Int) < ((l2.len : Int) : Int)))
 (Idx l2 t9_8 1 fun (q10 : Addr) =>
 Ld kI q10 w_9 fun (x11 : Int) =>
 IdxP (⟨b4, 0, none⟩ : Addr) 258 x11 1 fun (q12 : Addr) =>
 Ld kI q12 w_9 fun (x13 : Int) =>
 Nw 65 ⟨[(.int .i64 x13), (.bool true)]⟩ w_9 fun (b15 : Nat) (w_14 : World) =>
 Run Try.prog (Builtin.append_ #[60, 60] 60 ⟨[(.slice row7.base row7.len row7.cap), (.slice (⟨some ⟨b15, 0, none⟩, 1, 1⟩ : Sl).base (⟨some ⟨b15, 0, none⟩, 1, 1⟩ : Sl).len (⟨some ⟨b15, 0, none⟩, 1, 1⟩ : Sl).cap)]⟩) kS w_14 fun (s17 : Sl) (w_16 : World) =>
 I_5 (s17) ((i64 ((t9_8 : Int) + (1 : Int)))) w_16 ∧ m_6 (s17) ((i64 ((t9_8 : Int) + (1 : Int)))) w_16 < m_6 row7 t9_8 w_9)
 (R (row7) w_9)
theorem packagemerge_leaves.ok (t1 : (Array Value)) (l2 : Sl) (R : Sl → World → Prop) (w : World) (h : packagemerge_leaves.E t1 l2 R w) : Cl Try.prog [kS] n_packagemerge_leaves ⟨[(.agg t1), (.slice l2.base l2.len l2.cap)]⟩ w R :=
  calls_of_eq Try.mix Try.f32 [(.agg t1), (.slice l2.base l2.len l2.cap)] [kS] R 22 [.tmp 4] (by kernel_rfl) (by kernel_rfl) (by kernel_rfl) (by kernel_rfl) (by kernel_rfl)
    (.s .o (.s (.s .o (.b (.l [(4, kS), (9, kI)] (.s .o (.s (.c .o .o) (.s (.b (.s .o .o)) .o)))))) (.s .o .o)))
    (by kernel_rfl) h
/-- packagemerge.next -/
def packagemerge_next.E (first_1 : Sl) (row2 : Sl) (R : Sl → World → Prop) (w : World) : Prop :=
 ∃ (I_3 : Sl → Int → Int → World → Prop) (m_4 : Sl → Int → Int → World → Nat), I_3 ((⟨none, 0, 0⟩ : Sl)) (0) (0) w ∧
 ∀ (out5 : Sl) (k6 : Int) (i7 : Int), ∀ (w_8 : World), I_3 out5 k6 i7 w_8 →
 IfB (decide (((i64 ((i7 : Int) + (1 : Int))) : Int) < ((row2.len : Int) : Int)))
 (Held w_8 fun (S9 : World → Prop) (w_10 : World) =>
 Idx row2 i7 2 fun (q11 : Addr) =>
 LdS kI (q11.add 0) S9 fun (weight12 : Int) =>
 Idx row2 (i64 ((i7 : Int) + (1 : Int))) 2 fun (q13 : Addr) =>
 LdS kI (q13.add 0) S9 fun (weight14 : Int) =>
 Nw 65 ⟨[(.int .i64 0), (.bool false)]⟩ w_10 fun (b16 : Nat) (w_15 : World) =>
 S9 w_15 ∧
 StC (⟨b16, 0, none⟩ : Addr) [(.int .i64 (i64 ((weight12 : Int) + (weight14 : Int)))), (.bool false)] 0 w_15 fun (w_17 : World) =>
 S9 w_17 ∧
 ∃ (I_18 : Sl → Int → World → Prop) (m_19 : Sl → Int → World → Nat), I_18 (out5) (k6) w_17 ∧
 ∀ (out20 : Sl) (k21 : Int), ∀ (w_22 : World), I_18 out20 k21 w_22 →
 Drw w_22 fun (w_23 : World) =>
 IfB (decide ((k21 : Int) < ((first_1.len : Int) : Int)))
 (Idx first_1 k21 2 fun (q24 : Addr) =>
 Ld kI (q24.add 0) w_23 fun (weight25 : Int) =>
 Ld kI ((⟨b16, 0, none⟩ : Addr).add 0) w_23 fun (weight26 : Int) =>
 IfB (decide ((weight25 : Int) ≤ (weight26 : Int)))
 (Idx first_1 k21 2 fun (q27 : Addr) =>
 Ld (.st [.int .i64, .bool]) q27 w_23 fun (x28 : (TT [.int .i64, .bool])) =>
 Nw 65 ⟨[(.int .i64 x28.1), (.bool x28.2.1)]⟩ w_23 fun (b30 : Nat) (w_29 : World) =>
 Run Try.prog (Builtin.append_ #[60, 60] 60 ⟨[(.slice out20.base out20.len out20.cap), (.slice (⟨some ⟨b30, 0, none⟩, 1, 1⟩ : Sl).base (⟨some ⟨b30, 0, none⟩, 1, 1⟩ : Sl).len (⟨some ⟨b30, 0, none⟩, 1, 1⟩ : Sl).cap)]⟩) kS w_29 fun (s32 : Sl) (w_31 : World) =>
 I_18 (s32) ((i64 ((k21 : Int) + (1 : Int)))) w_31 ∧ m_19 (s32) ((i64 ((k21 : Int) + (1 : Int)))) w_31 < m_19 out20 k21 w_22)
 (Ld (.st [.int .i64, .bool]) (⟨b16, 0, none⟩ : Addr) w_23 fun (x33 : (TT [.int .i64, .bool])) =>
 Nw 65 ⟨[(.int .i64 x33.1), (.bool x33.2.1)]⟩ w_23 fun (b35 : Nat) (w_34 : World) =>
 Run Try.prog (Builtin.append_ #[60, 60] 60 ⟨[(.slice out20.base out20.len out20.cap), (.slice (⟨some ⟨b35, 0, none⟩, 1, 1⟩ : Sl).base (⟨some ⟨b35, 0, none⟩, 1, 1⟩ : Sl).len (⟨some ⟨b35, 0, none⟩, 1, 1⟩ : Sl).cap)]⟩) kS w_34 fun (s37 : Sl) (w_36 : World) =>
 I_3 (s37) (k21) ((i64 ((i7 : Int) + (2 : Int)))) w_36 ∧ m_4 (s37) (k21) ((i64 ((i7 : Int) + (2 : Int)))) w_36 < m_4 out5 k6 i7 w_8))
 (Ld (.st [.int .i64, .bool]) (⟨b16, 0, none⟩ : Addr) w_23 fun (x38 : (TT [.int .i64, .bool])) =>
 Nw 65 ⟨[(.int .i64 x38.1), (.bool x38.2.1)]⟩ w_23 fun (b40 : Nat) (w_39 : World) =>
 Run Try.prog (Builtin.append_ #[60, 60] 60 ⟨[(.slice out20.base out20.len out20.cap), (.slice (⟨some ⟨b40, 0, none⟩, 1, 1⟩ : Sl).base (⟨some ⟨b40, 0, none⟩, 1, 1⟩ : Sl).len (⟨some ⟨b40, 0, none⟩, 1, 1⟩ : Sl).cap)]⟩) kS w_39 fun (s42 : Sl) (w_41 : World) =>
 I_3 (s42) (k21) ((i64 ((i7 : Int) + (2 : Int)))) w_41 ∧ m_4 (s42) (k21) ((i64 ((i7 : Int) + (2 : Int)))) w_41 < m_4 out5 k6 i7 w_8))
 (Slc first_1 k6 (first_1).len (first_1).cap 2 fun (s43 : Sl) =>
 Run Try.prog (Builtin.append_ #[60, 60] 60 ⟨[(.slice out5.base out5.len out5.cap), (.slice s43.base s43.len s43.cap)]⟩) kS w_8 fun (s45 : Sl) (w_44 : World) =>
 R (s45) w_44)
theorem packagemerge_next.ok (first_1 : Sl) (row2 : Sl) (R : Sl → World → Prop) (w : World) (h : packagemerge_next.E first_1 row2 R w) : Cl Try.prog [kS] n_packagemerge_next ⟨[(.slice first_1.base first_1.len first_1.cap), (.slice row2.base row2.len row2.cap)]⟩ w R :=
  calls_of_eq Try.mix Try.f33 [(.slice first_1.base first_1.len first_1.cap), (.slice row2.base row2.len row2.cap)] [kS] R 60 [.tmp 4] (by kernel_rfl) (by kernel_rfl) (by kernel_rfl) (by kernel_rfl) (by kernel_rfl)
    (.s .o (.s .o (.s (.s .o (.b (.l [(4, kS), (5, kI), (6, kI)] (.s (.s .o (.c .o .o)) (.s (.b (.s .o (.s (.b (.l [(4, kS), (5, kI)] (.s (.s .o (.c .o .o)) (.s (.b .o) .o)))) .o))) .o))))) (.s .o .o))))
    (by kernel_rfl) h
/-- winepressref07.rows -/
def ref07_rows.E (t1 : (Array Value)) (limit2 : Int) (R : Sl → World → Prop) (w : World) : Prop :=
 Nw 39 t1 w fun (b4 : Nat) (w_3 : World) =>
 Ld (.arr 258) (⟨b4, 0, none⟩ : Addr) w_3 fun (x5 : (Array Value)) =>
 Cl Try.prog [kS] n_ref07_Order ⟨[(.agg x5)]⟩ w_3 fun (r7 : Sl) (w_6 : World) =>
 ∃ (I_8 : Sl → Int → World → Prop) (m_9 : Sl → Int → World → Nat), I_8 ((⟨none, 0, 0⟩ : Sl)) (0) w_6 ∧
 ∀ (leaves10 : Sl) (i11 : Int), ∀ (w_12 : World), I_8 leaves10 i11 w_12 →
 IfB (decide ((i11 : Int) < ((r7.len : Int) : Int)))
 (Held w_12 fun (S13 : World → Prop) (w_14 : World) =>
 Idx r7 i11 1 fun (q15 : Addr) =>
 LdS kI q15 S13 fun (x16 : Int) =>
 IdxP (⟨b4, 0, none⟩ : Addr) 258 x16 1 fun (q17 : Addr) =>
 LdS kI q17 S13 fun (x18 : Int) =>
 Idx r7 i11 1 fun (q19 : Addr) =>
 LdS kI q19 S13 fun (x20 : Int) =>
 Nw 78 ⟨[(.int .i64 x18), (.int .i64 x20), (.int .i64 0), (.int .i64 0)]⟩ w_14 fun (b22 : Nat) (w_21 : World) =>
 S13 w_21 ∧
 Run Try.prog (Builtin.append_ #[76, 76] 76 ⟨[(.slice leaves10.base leaves10.len leaves10.cap), (.slice (⟨some ⟨b22, 0, none⟩, 1, 1⟩ : Sl).base (⟨some ⟨b22, 0, none⟩, 1, 1⟩ : Sl).len (⟨some ⟨b22, 0, none⟩, 1, 1⟩ : Sl).cap)]⟩) kS w_21 fun (s24 : Sl) (w_23 : World) =>
 S13 w_23 ∧
 I_8 (s24) ((i64 ((i11 : Int) + (1 : Int)))) w_23 ∧ m_9 (s24) ((i64 ((i11 : Int) + (1 : Int)))) w_23 < m_9 leaves10 i11 w_12)
 (Nw 76 ⟨[(.slice leaves10.base leaves10.len leaves10.cap)]⟩ w_12 fun (b26 : Nat) (w_25 : World) =>
 ∃ (I_27 : Sl → Int → World → Prop) (m_28 : Sl → Int → World → Nat), I_27 ((⟨some ⟨b26, 0, none⟩, 1, 1⟩ : Sl)) (1) w_25 ∧
 ∀ (out29 : Sl) (k30 : Int), ∀ (w_31 : World), I_27 out29 k30 w_31 →
 IfB (decide ((k30 : Int) < (limit2 : Int)))
 (Idx out29 (i64 ((k30 : Int) - (1 : Int))) 1 fun (q32 : Addr) =>
 Ld kS q32 w_31 fun (x33 : Sl) =>
 Nw 78 ⟨[]⟩ w_31 fun (b35 : Nat) (w_34 : World) =>
 Run Try.prog (Builtin.append_ #[76, 76] 76 ⟨[(.slice (⟨some ⟨b35, 0, none⟩, 0, 0⟩ : Sl).base (⟨some ⟨b35, 0, none⟩, 0, 0⟩ : Sl).len (⟨some ⟨b35, 0, none⟩, 0, 0⟩ : Sl).cap), (.slice leaves10.base leaves10.len leaves10.cap)]⟩) kS w_34 fun (s37 : Sl) (w_36 : World) =>
 ∃ (I_38 : Sl → Int → World → Prop) (m_39 : Sl → Int → World → Nat), I_38 (s37) (0) w_36 ∧
 ∀ (row40 : Sl) (i41 : Int), ∀ (w_42 : World), I_38 row40 i41 w_42 →
 IfB (decide (((i64 ((i41 : Int) + (1 : Int))) : Int) < ((x33.len : Int) : Int)))
 (Drw w_42 fun (w_43 : World) =>
 Idx x33 i41 4 fun (q44 : Addr) =>
 Ld kI (q44.add 0) w_43 fun (Weight45 : Int) =>
 Idx x33 (i64 ((i41 : Int) + (1 : Int))) 4 fun (q46 : Addr) =>
 Ld kI (q46.add 0) w_43 fun (Weight47 : Int) =>
 Cl Try.prog [kS] n_ref07_put ⟨[(.slice row40.base row40.len row40.cap), (.agg ⟨[(.int .i64 (i64 ((Weight45 : Int) + (Weight47 : Int)))), (.int .i64 (-1)), (.int .i64 i41), (.int .i64 (i64 ((i41 : Int) + (1 : Int))))]⟩)]⟩ w_43 fun (r49 : Sl) (w_48 : World) =>
 I_38 (r49) ((i64 ((i41 : Int) + (2 : Int)))) w_48 ∧ m_39 (r49) ((i64 ((i41 : Int) + (2 : Int)))) w_48 < m_39 row40 i41 w_42)
 (Nw 76 ⟨[(.slice row40.base row40.len row40.cap)]⟩ w_42 fun (b51 : Nat) (w_50 : World) =>
 Run Try.prog (Builtin.append_ #[66, 66] 66 ⟨[(.slice out29.base out29.len out29.cap), (.slice (⟨some ⟨b51, 0, none⟩, 1, 1⟩ : Sl).base (⟨some ⟨b51, 0, none⟩, 1, 1⟩ : Sl).len (⟨some ⟨b51, 0, none⟩, 1, 1⟩ : Sl).cap)]⟩) kS w_50 fun (s53 : Sl) (w_52 : World) =>
 I_27 (s53) ((i64 ((k30 : Int) + (1 : Int)))) w_52 ∧ m_28 (s53) ((i64 ((k30 : Int) + (1 : Int)))) w_52 < m_28 out29 k30 w_31))
 (R (out29) w_31))
theorem ref07_rows.ok (t1 : (Array Value)) (limit2 : Int) (R : Sl → World → Prop) (w : World) (h : ref07_rows.E t1 limit2 R w) : Cl Try.prog [kS] n_ref07_rows ⟨[(.agg t1), (.int .i64 limit2)]⟩ w R :=
  calls_of_eq Try.mix Try.f34 [(.agg t1), (.int .i64 limit2)] [kS] R 80 [.tmp 4] (by kernel_rfl) (by kernel_rfl) (by kernel_rfl) (by kernel_rfl) (by kernel_rfl)
    (.s .o (.s .o (.s .o (.s (.s .o (.b (.l [(6, kS), (7, kI)] (.s (.s .o (.c .o .o)) (.s (.b .o) .o))))) (.s .o (.s (.s .o (.b (.l [(8, kS), (9, kI)] (.s (.s .o (.c .o .o)) (.s (.b (.s .o (.s .o (.s (.s .o (.b (.l [(11, kS), (12, kI)] (.s (.s .o (.c .o .o)) (.s (.b .o) .o))))) .o)))) .o))))) (.s .o .o)))))))
    (by kernel_rfl) h
/-- winepressref07.count -/
def ref07_count.E (l1 : (Array Value)) (all_2 : Sl) (row3 : Int) (i4 : Int) (R : (Array Value) → World → Prop) (w : World) : Prop :=
 Nw 23 l1 w fun (b6 : Nat) (w_5 : World) =>
 Nw 23 ⟨List.replicate 258 (.int .u8 0)⟩ w_5 fun (b8 : Nat) (w_7 : World) =>
 Idx all_2 row3 1 fun (q9 : Addr) =>
 Ld kS q9 w_7 fun (x10 : Sl) =>
 Idx x10 i4 4 fun (q11 : Addr) =>
 Ld (.st [.int .i64, .int .i64, .int .i64, .int .i64]) q11 w_7 fun (x12 : (TT [.int .i64, .int .i64, .int .i64, .int .i64])) =>
 Nw 78 ⟨[(.int .i64 0), (.int .i64 0), (.int .i64 0), (.int .i64 0)]⟩ w_7 fun (b14 : Nat) (w_13 : World) =>
 StC (⟨b14, 0, none⟩ : Addr) [(.int .i64 x12.1), (.int .i64 x12.2.1), (.int .i64 x12.2.2.1), (.int .i64 x12.2.2.2.1)] 0 w_13 fun (w_15 : World) =>
 Ld kI ((⟨b14, 0, none⟩ : Addr).add 1) w_15 fun (Symbol16 : Int) =>
 IfB (decide ((Symbol16 : Int) ≥ (0 : Int)))
 (Ld kI ((⟨b14, 0, none⟩ : Addr).add 1) w_15 fun (Symbol17 : Int) =>
 IdxP (⟨b6, 0, none⟩ : Addr) 258 Symbol17 1 fun (q18 : Addr) =>
 Ld (kInt .u8) q18 w_15 fun (x19 : Int) =>
 IdxP (⟨b6, 0, none⟩ : Addr) 258 Symbol17 1 fun (q20 : Addr) =>
 St q20 (.int .u8 (u8 ((x19 : Int) + (1 : Int)))) w_15 fun (w_21 : World) =>
 Ld (.arr 258) (⟨b6, 0, none⟩ : Addr) w_21 fun (x22 : (Array Value)) =>
 StA 258 (⟨b8, 0, none⟩ : Addr) x22 w_21 fun (w_23 : World) =>
 Ld (.arr 258) (⟨b8, 0, none⟩ : Addr) w_23 fun (res24 : (Array Value)) =>
 R (res24) w_23)
 (Held w_15 fun (S25 : World → Prop) (w_26 : World) =>
 LdS (.arr 258) (⟨b6, 0, none⟩ : Addr) S25 fun (x27 : (Array Value)) =>
 LdS kI ((⟨b14, 0, none⟩ : Addr).add 2) S25 fun (One28 : Int) =>
 LdS kI ((⟨b14, 0, none⟩ : Addr).add 3) S25 fun (Two29 : Int) =>
 Cl Try.prog [(.arr 258)] n_ref07_count ⟨[(.agg x27), (.slice all_2.base all_2.len all_2.cap), (.int .i64 (i64 ((row3 : Int) - (1 : Int)))), (.int .i64 One28)]⟩ w_26 fun (r31 : (Array Value)) (w_30 : World) =>
 S25 w_30 ∧
 Cl Try.prog [(.arr 258)] n_ref07_count ⟨[(.agg r31), (.slice all_2.base all_2.len all_2.cap), (.int .i64 (i64 ((row3 : Int) - (1 : Int)))), (.int .i64 Two29)]⟩ w_30 fun (r33 : (Array Value)) (w_32 : World) =>
 S25 w_32 ∧
 StA 258 (⟨b8, 0, none⟩ : Addr) r33 w_32 fun (w_34 : World) =>
 S25 w_34 ∧
 Ld (.arr 258) (⟨b8, 0, none⟩ : Addr) w_34 fun (res35 : (Array Value)) =>
 R (res35) w_34)
theorem ref07_count.ok (l1 : (Array Value)) (all_2 : Sl) (row3 : Int) (i4 : Int) (R : (Array Value) → World → Prop) (w : World) (h : ref07_count.E l1 all_2 row3 i4 R w) : Cl Try.prog [(.arr 258)] n_ref07_count ⟨[(.agg l1), (.slice all_2.base all_2.len all_2.cap), (.int .i64 row3), (.int .i64 i4)]⟩ w R :=
  calls_of_eq Try.mix Try.f35 [(.agg l1), (.slice all_2.base all_2.len all_2.cap), (.int .i64 row3), (.int .i64 i4)] [(.arr 258)] R 40 [.cell 8 23] (by kernel_rfl) (by kernel_rfl) (by kernel_rfl) (by kernel_rfl) (by kernel_rfl)
    (.s .o (.s .o (.s (.s .o (.c (.s .o (.s .o .o)) .o)) (.s .o .o))))
    (by kernel_rfl) h
/-- packagemerge.Order$1 -/
def packagemerge_Order_1.E (a1 : Int) (b2 : Int) (c3 : Addr) (R : Int → World → Prop) (w : World) : Prop :=
 Drw w fun (w_4 : World) =>
 IdxP c3 258 a1 1 fun (q5 : Addr) =>
 Ld kI q5 w_4 fun (x6 : Int) =>
 IdxP c3 258 b2 1 fun (q7 : Addr) =>
 Ld kI q7 w_4 fun (x8 : Int) =>
 Cl Try.prog [kI] n_cmp_Compare_int ⟨[(.int .i64 x6), (.int .i64 x8)]⟩ w_4 fun (r10 : Int) (w_9 : World) =>
 R (r10) w_9
theorem packagemerge_Order_1.ok (a1 : Int) (b2 : Int) (c3 : Addr) (R : Int → World → Prop) (w : World) (h : packagemerge_Order_1.E a1 b2 c3 R w) : Cl Try.prog [kI] n_packagemerge_Order_1 ⟨[(.int .i64 a1), (.int .i64 b2), (.pointer (some c3))]⟩ w R :=
  calls_of_eq Try.mix Try.f36 [(.int .i64 a1), (.int .i64 b2), (.pointer (some c3))] [kI] R 13 [.tmp 5] (by kernel_rfl) (by kernel_rfl) (by kernel_rfl) (by kernel_rfl) (by kernel_rfl)
    (.s .o (.s .o .o))
    (by kernel_rfl) h
/-- cmp.Compare[int] -/
def cmp_Compare_int.E (x1 : Int) (y2 : Int) (R : Int → World → Prop) (w : World) : Prop :=
 Cl Try.prog [kB] n_cmp_isNaN_int ⟨[(.int .i64 x1)]⟩ w fun (r4 : Bool) (w_3 : World) =>
 Cl Try.prog [kB] n_cmp_isNaN_int ⟨[(.int .i64 y2)]⟩ w_3 fun (r6 : Bool) (w_5 : World) =>
 IfB r4
 (IfB r6
 (R (0) w_5)
 (R ((-1)) w_5))
 (IfB r6
 (R (1) w_5)
 (IfB (decide ((x1 : Int) < (y2 : Int)))
 (R ((-1)) w_5)
 (IfB (decide ((x1 : Int) > (y2 : Int)))
 (R (1) w_5)
 (R (0) w_5))))
theorem cmp_Compare_int.ok (x1 : Int) (y2 : Int) (R : Int → World → Prop) (w : World) (h : cmp_Compare_int.E x1 y2 R w) : Cl Try.prog [kI] n_cmp_Compare_int ⟨[(.int .i64 x1), (.int .i64 y2)]⟩ w R :=
  calls_of_eq Try.mix Try.f37 [(.int .i64 x1), (.int .i64 y2)] [kI] R 20 [.tmp 4] (by kernel_rfl) (by kernel_rfl) (by kernel_rfl) (by kernel_rfl) (by kernel_rfl)
    (.s .o (.s .o (.s .o (.s (.s .o (.c (.s (.s .o (.c (.s .o .o) .o)) (.s .o .o)) .o)) (.s (.s .o (.c (.s .o .o) .o)) (.s (.s .o (.c (.s .o .o) .o)) (.s (.s .o (.c (.s .o .o) .o)) (.s .o .o))))))))
    (by kernel_rfl) h
/-- slices.ContainsFunc[[]int,int] -/
def slices_ContainsFunc_int_int.E (s1 : Sl) (f2 : Value) (R : Bool → World → Prop) (w : World) : Prop :=
 Cl Try.prog [kI] n_slices_IndexFunc_int_int ⟨[(.slice s1.base s1.len s1.cap), f2]⟩ w fun (r4 : Int) (w_3 : World) =>
 R ((decide ((r4 : Int) ≥ (0 : Int)))) w_3
theorem slices_ContainsFunc_int_int.ok (s1 : Sl) (f2 : Value) (R : Bool → World → Prop) (w : World) (h : slices_ContainsFunc_int_int.E s1 f2 R w) : Cl Try.prog [kB] n_slices_ContainsFunc_int_int ⟨[(.slice s1.base s1.len s1.cap), f2]⟩ w R :=
  calls_of_eq Try.mix Try.f38 [(.slice s1.base s1.len s1.cap), f2] [kB] R 9 [.tmp 4] (by kernel_rfl) (by kernel_rfl) (by kernel_rfl) (by kernel_rfl) (by kernel_rfl)
    (.s .o (.s .o .o))
    (by kernel_rfl) h
/-- packagemerge.Valid$1 -/
def packagemerge_Valid_1.E (n1 : Int) (R : Bool → World → Prop) (w : World) : Prop :=
 IfB (decide ((n1 : Int) < (0 : Int)))
 (R (true) w)
 (R ((decide ((n1 : Int) > (2147483647 : Int)))) w)
theorem packagemerge_Valid_1.ok (n1 : Int) (R : Bool → World → Prop) (w : World) (h : packagemerge_Valid_1.E n1 R w) : Cl Try.prog [kB] n_packagemerge_Valid_1 ⟨[(.int .i64 n1)]⟩ w R :=
  calls_of_eq Try.mix Try.f39 [(.int .i64 n1)] [kB] R 9 [.tmp 2] (by kernel_rfl) (by kernel_rfl) (by kernel_rfl) (by kernel_rfl) (by kernel_rfl)
    (.s .o (.s .o .o))
    (by kernel_rfl) h
/-- kraft.Fits -/
def kraft_Fits.E (l1 : (Array Value)) (R : Bool → World → Prop) (w : World) : Prop :=
 Nw 23 l1 w fun (b3 : Nat) (w_2 : World) =>
 Ld (.arr 258) (⟨b3, 0, none⟩ : Addr) w_2 fun (x4 : (Array Value)) =>
 Cl Try.prog [kI] n_kraft_Sum ⟨[(.agg x4)]⟩ w_2 fun (r6 : Int) (w_5 : World) =>
 R ((decide ((r6 : Int) ≤ (32768 : Int)))) w_5
theorem kraft_Fits.ok (l1 : (Array Value)) (R : Bool → World → Prop) (w : World) (h : kraft_Fits.E l1 R w) : Cl Try.prog [kB] n_kraft_Fits ⟨[(.agg l1)]⟩ w R :=
  calls_of_eq Try.mix Try.f40 [(.agg l1)] [kB] R 6 [.tmp 2] (by kernel_rfl) (by kernel_rfl) (by kernel_rfl) (by kernel_rfl) (by kernel_rfl)
    (.s .o (.s .o .o))
    (by kernel_rfl) h
/-- slices.stableCmpFunc[int] -/
def slices_stableCmpFunc_int.E (data1 : Sl) (n2 : Int) (cmp3 : Value) (R : World → Prop) (w : World) : Prop :=
 ∃ (I_4 : Int → Int → World → Prop) (m_5 : Int → Int → World → Nat), I_4 (0) (20) w ∧
 ∀ (a6 : Int) (b7 : Int), ∀ (w_8 : World), I_4 a6 b7 w_8 →
 IfB (decide ((b7 : Int) ≤ (n2 : Int)))
 (Cl Try.prog [] n_slices_insertionSortCmpFunc_int ⟨[(.slice data1.base data1.len data1.cap), (.int .i64 a6), (.int .i64 b7), cmp3]⟩ w_8 fun  (w_9 : World) =>
 I_4 (b7) ((i64 ((b7 : Int) + (20 : Int)))) w_9 ∧ m_5 (b7) ((i64 ((b7 : Int) + (20 : Int)))) w_9 < m_5 a6 b7 w_8)
 (Cl Try.prog [] n_slices_insertionSortCmpFunc_int ⟨[(.slice data1.base data1.len data1.cap), (.int .i64 a6), (.int .i64 n2), cmp3]⟩ w_8 fun  (w_10 : World) =>
 ∃ (I_11 : Int → World → Prop) (m_12 : Int → World → Nat), I_11 (20) w_10 ∧
 ∀ (blockSize13 : Int), ∀ (w_14 : World), I_11 blockSize13 w_14 →
 IfB (decide ((blockSize13 : Int) < (n2 : Int)))
 (∃ (I_15 : Int → Int → World → Prop) (m_16 : Int → Int → World → Nat), I_15 (0) ((i64 ((2 : Int) * (blockSize13 : Int)))) w_14 ∧
 ∀ (a17 : Int) (b18 : Int), ∀ (w_19 : World), I_15 a17 b18 w_19 →
 IfB (decide ((b18 : Int) ≤ (n2 : Int)))
 (Cl Try.prog [] n_slices_symMergeCmpFunc_int ⟨[(.slice data1.base data1.len data1.cap), (.int .i64 a17), (.int .i64 (i64 ((a17 : Int) + (blockSize13 : Int)))), (.int .i64 b18), cmp3]⟩ w_19 fun  (w_20 : World) =>
 I_15 (b18) ((i64 ((b18 : Int) + ((i64 ((2 : Int) * (blockSize13 : Int))) : Int)))) w_20 ∧ m_16 (b18) ((i64 ((b18 : Int) + ((i64 ((2 : Int) * (blockSize13 : Int))) : Int)))) w_20 < m_16 a17 b18 w_19)
 (IfB (decide (((i64 ((a17 : Int) + (blockSize13 : Int))) : Int) < (n2 : Int)))
 (Cl Try.prog [] n_slices_symMergeCmpFunc_int ⟨[(.slice data1.base data1.len data1.cap), (.int .i64 a17), (.int .i64 (i64 ((a17 : Int) + (blockSize13 : Int)))), (.int .i64 n2), cmp3]⟩ w_19 fun  (w_21 : World) =>
 I_11 ((i64 ((blockSize13 : Int) * (2 : Int)))) w_21 ∧ m_12 ((i64 ((blockSize13 : Int) * (2 : Int)))) w_21 < m_12 blockSize13 w_14)
 (I_11 ((i64 ((blockSize13 : Int) * (2 : Int)))) w_19 ∧ m_12 ((i64 ((blockSize13 : Int) * (2 : Int)))) w_19 < m_12 blockSize13 w_14)))
 (R  w_14))
theorem slices_stableCmpFunc_int.ok (data1 : Sl) (n2 : Int) (cmp3 : Value) (R : World → Prop) (w : World) (h : slices_stableCmpFunc_int.E data1 n2 cmp3 R w) : Cl Try.prog [] n_slices_stableCmpFunc_int ⟨[(.slice data1.base data1.len data1.cap), (.int .i64 n2), cmp3]⟩ w R :=
  calls_of_eq Try.mix Try.f41 [(.slice data1.base data1.len data1.cap), (.int .i64 n2), cmp3] [] R 63 [] (by kernel_rfl) (by kernel_rfl) (by kernel_rfl) (by kernel_rfl) (by kernel_rfl)
    (.s .o (.s .o (.s (.b (.l [(7, kI), (8, kI)] (.s (.s .o (.c .o .o)) (.b (.s .o (.s .o .o)))))) (.s .o (.b (.l [(6, kI)] (.s (.s .o (.c .o .o)) (.b (.s .o (.s (.b (.l [(7, kI), (8, kI)] (.s (.s .o (.c .o .o)) (.b (.s .o (.s .o .o)))))) (.s (.s .o (.s .o (.c .o .o))) .o)))))))))))
    (by kernel_rfl) h
/-- cmp.isNaN[uint8] -/
def cmp_isNaN_uint8.E (x1 : Int) (R : Bool → World → Prop) (w : World) : Prop :=
 R (((x1 : Int) != (x1 : Int))) w
theorem cmp_isNaN_uint8.ok (x1 : Int) (R : Bool → World → Prop) (w : World) (h : cmp_isNaN_uint8.E x1 R w) : Cl Try.prog [kB] n_cmp_isNaN_uint8 ⟨[(.int .u8 x1)]⟩ w R :=
  calls_of_eq Try.mix Try.f42 [(.int .u8 x1)] [kB] R 6 [.tmp 2] (by kernel_rfl) (by kernel_rfl) (by kernel_rfl) (by kernel_rfl) (by kernel_rfl)
    (.s .o (.s .o .o))
    (by kernel_rfl) h
/-- winepressref07.put -/
def ref07_put.E (row1 : Sl) (x2 : (TT [.int .i64, .int .i64, .int .i64, .int .i64])) (R : Sl → World → Prop) (w : World) : Prop :=
 Nw 78 ⟨[(.int .i64 x2.1), (.int .i64 x2.2.1), (.int .i64 x2.2.2.1), (.int .i64 x2.2.2.2.1)]⟩ w fun (b4 : Nat) (w_3 : World) =>
 ∃ (I_5 : Int → World → Prop) (m_6 : Int → World → Nat), I_5 ((row1.len : Int)) w_3 ∧
 ∀ (k7 : Int), ∀ (w_8 : World), I_5 k7 w_8 →
 Drw w_8 fun (w_9 : World) =>
 IfB (decide ((k7 : Int) > (0 : Int)))
 (Idx row1 (i64 ((k7 : Int) - (1 : Int))) 4 fun (q10 : Addr) =>
 Ld kI (q10.add 0) w_9 fun (Weight11 : Int) =>
 Ld kI ((⟨b4, 0, none⟩ : Addr).add 0) w_9 fun (Weight12 : Int) =>
 IfB (decide ((Weight11 : Int) > (Weight12 : Int)))
 (I_5 ((i64 ((k7 : Int) - (1 : Int)))) w_9 ∧ m_6 ((i64 ((k7 : Int) - (1 : Int)))) w_9 < m_6 k7 w_8)
 (Slc row1 0 k7 (row1).cap 4 fun (s13 : Sl) =>
 Run Try.prog (Builtin.append_ #[76, 76] 76 ⟨[(.slice none 0 0), (.slice s13.base s13.len s13.cap)]⟩) kS w_9 fun (s15 : Sl) (w_14 : World) =>
 Ld (.st [.int .i64, .int .i64, .int .i64, .int .i64]) (⟨b4, 0, none⟩ : Addr) w_14 fun (x16 : (TT [.int .i64, .int .i64, .int .i64, .int .i64])) =>
 Nw 78 ⟨[(.int .i64 x16.1), (.int .i64 x16.2.1), (.int .i64 x16.2.2.1), (.int .i64 x16.2.2.2.1)]⟩ w_14 fun (b18 : Nat) (w_17 : World) =>
 Run Try.prog (Builtin.append_ #[76, 76] 76 ⟨[(.slice s15.base s15.len s15.cap), (.slice (⟨some ⟨b18, 0, none⟩, 1, 1⟩ : Sl).base (⟨some ⟨b18, 0, none⟩, 1, 1⟩ : Sl).len (⟨some ⟨b18, 0, none⟩, 1, 1⟩ : Sl).cap)]⟩) kS w_17 fun (s20 : Sl) (w_19 : World) =>
 Slc row1 k7 (row1).len (row1).cap 4 fun (s21 : Sl) =>
 Run Try.prog (Builtin.append_ #[76, 76] 76 ⟨[(.slice s20.base s20.len s20.cap), (.slice s21.base s21.len s21.cap)]⟩) kS w_19 fun (s23 : Sl) (w_22 : World) =>
 R (s23) w_22))
 (Slc row1 0 k7 (row1).cap 4 fun (s24 : Sl) =>
 Run Try.prog (Builtin.append_ #[76, 76] 76 ⟨[(.slice none 0 0), (.slice s24.base s24.len s24.cap)]⟩) kS w_9 fun (s26 : Sl) (w_25 : World) =>
 Ld (.st [.int .i64, .int .i64, .int .i64, .int .i64]) (⟨b4, 0, none⟩ : Addr) w_25 fun (x27 : (TT [.int .i64, .int .i64, .int .i64, .int .i64])) =>
 Nw 78 ⟨[(.int .i64 x27.1), (.int .i64 x27.2.1), (.int .i64 x27.2.2.1), (.int .i64 x27.2.2.2.1)]⟩ w_25 fun (b29 : Nat) (w_28 : World) =>
 Run Try.prog (Builtin.append_ #[76, 76] 76 ⟨[(.slice s26.base s26.len s26.cap), (.slice (⟨some ⟨b29, 0, none⟩, 1, 1⟩ : Sl).base (⟨some ⟨b29, 0, none⟩, 1, 1⟩ : Sl).len (⟨some ⟨b29, 0, none⟩, 1, 1⟩ : Sl).cap)]⟩) kS w_28 fun (s31 : Sl) (w_30 : World) =>
 Slc row1 k7 (row1).len (row1).cap 4 fun (s32 : Sl) =>
 Run Try.prog (Builtin.append_ #[76, 76] 76 ⟨[(.slice s31.base s31.len s31.cap), (.slice s32.base s32.len s32.cap)]⟩) kS w_30 fun (s34 : Sl) (w_33 : World) =>
 R (s34) w_33)
theorem ref07_put.ok (row1 : Sl) (x2 : (TT [.int .i64, .int .i64, .int .i64, .int .i64])) (R : Sl → World → Prop) (w : World) (h : ref07_put.E row1 x2 R w) : Cl Try.prog [kS] n_ref07_put ⟨[(.slice row1.base row1.len row1.cap), (.agg ⟨[(.int .i64 x2.1), (.int .i64 x2.2.1), (.int .i64 x2.2.2.1), (.int .i64 x2.2.2.2.1)]⟩)]⟩ w R :=
  calls_of_eq Try.mix Try.f43 [(.slice row1.base row1.len row1.cap), (.agg ⟨[(.int .i64 x2.1), (.int .i64 x2.2.1), (.int .i64 x2.2.2.1), (.int .i64 x2.2.2.2.1)]⟩)] [kS] R 38 [.tmp 4] (by kernel_rfl) (by kernel_rfl) (by kernel_rfl) (by kernel_rfl) (by kernel_rfl)
    (.s .o (.s .o (.s (.b (.l [(5, kI)] (.s (.s .o (.c .o .o)) (.b .o)))) (.s .o (.s .o (.s .o (.s .o .o)))))))
    (by kernel_rfl) h
/-- cmp.isNaN[int] -/
def cmp_isNaN_int.E (x1 : Int) (R : Bool → World → Prop) (w : World) : Prop :=
 R (((x1 : Int) != (x1 : Int))) w
theorem cmp_isNaN_int.ok (x1 : Int) (R : Bool → World → Prop) (w : World) (h : cmp_isNaN_int.E x1 R w) : Cl Try.prog [kB] n_cmp_isNaN_int ⟨[(.int .i64 x1)]⟩ w R :=
  calls_of_eq Try.mix Try.f44 [(.int .i64 x1)] [kB] R 6 [.tmp 2] (by kernel_rfl) (by kernel_rfl) (by kernel_rfl) (by kernel_rfl) (by kernel_rfl)
    (.s .o (.s .o .o))
    (by kernel_rfl) h
/-- slices.IndexFunc[[]int,int] -/
def slices_IndexFunc_int_int.E (s1 : Sl) (f2 : Value) (R : Int → World → Prop) (w : World) : Prop :=
 ∃ (I_3 : Int → World → Prop) (m_4 : Int → World → Nat), I_3 (0) w ∧
 ∀ (t8_5 : Int), ∀ (w_6 : World), I_3 t8_5 w_6 →
 IfB (decide ((t8_5 : Int) < ((s1.len : Int) : Int)))
 (Idx s1 t8_5 1 fun (q7 : Addr) =>
 Ld kI q7 w_6 fun (x8 : Int) =>
 ClV Try.prog f2 [kB] [(.int .i64 x8)] w_6 fun (r10 : Bool) (w_9 : World) =>
 IfB r10
 (R (t8_5) w_9)
 (I_3 ((i64 ((t8_5 : Int) + (1 : Int)))) w_9 ∧ m_4 ((i64 ((t8_5 : Int) + (1 : Int)))) w_9 < m_4 t8_5 w_6))
 (R ((-1)) w_6)
theorem slices_IndexFunc_int_int.ok (s1 : Sl) (f2 : Value) (R : Int → World → Prop) (w : World) (h : slices_IndexFunc_int_int.E s1 f2 R w) : Cl Try.prog [kI] n_slices_IndexFunc_int_int ⟨[(.slice s1.base s1.len s1.cap), f2]⟩ w R :=
  calls_of_eq Try.mix Try.f45 [(.slice s1.base s1.len s1.cap), f2] [kI] R 19 [.tmp 4] (by kernel_rfl) (by kernel_rfl) (by kernel_rfl) (by kernel_rfl) (by kernel_rfl)
    (.s .o (.s (.s .o (.b (.l [(8, kI)] (.s .o (.s (.c .o .o) (.s (.b (.s .o (.s .o (.c (.s .o .o) .o)))) .o)))))) (.s .o .o)))
    (by kernel_rfl) h
/-- kraft.Sum -/
def kraft_Sum.E (l1 : (Array Value)) (R : Int → World → Prop) (w : World) : Prop :=
 Nw 23 l1 w fun (b3 : Nat) (w_2 : World) =>
 Ld (.arr 258) (⟨b3, 0, none⟩ : Addr) w_2 fun (x4 : (Array Value)) =>
 ∃ (I_5 : Int → Int → World → Prop) (m_6 : Int → Int → World → Nat), I_5 (0) (0) w_2 ∧
 ∀ (sum7 : Int) (t6_8 : Int), ∀ (w_9 : World), I_5 sum7 t6_8 w_9 →
 IfB (decide ((t6_8 : Int) < (258 : Int)))
 (IdxV (.int .u8) x4 258 t6_8 fun (e10 : Int) =>
 Cl Try.prog [kI] n_kraft_share ⟨[(.int .u8 e10)]⟩ w_9 fun (r12 : Int) (w_11 : World) =>
 I_5 ((i64 ((sum7 : Int) + (r12 : Int)))) ((i64 ((t6_8 : Int) + (1 : Int)))) w_11 ∧ m_6 ((i64 ((sum7 : Int) + (r12 : Int)))) ((i64 ((t6_8 : Int) + (1 : Int)))) w_11 < m_6 sum7 t6_8 w_9)
 (R (sum7) w_9)
theorem kraft_Sum.ok (l1 : (Array Value)) (R : Int → World → Prop) (w : World) (h : kraft_Sum.E l1 R w) : Cl Try.prog [kI] n_kraft_Sum ⟨[(.agg l1)]⟩ w R :=
  calls_of_eq Try.mix Try.f46 [(.agg l1)] [kI] R 15 [.tmp 2] (by kernel_rfl) (by kernel_rfl) (by kernel_rfl) (by kernel_rfl) (by kernel_rfl)
    (.s .o (.s (.s .o (.b (.l [(2, kI), (6, kI)] (.s .o (.s (.c .o .o) (.s (.b (.s .o .o)) .o)))))) (.s .o .o)))
    (by kernel_rfl) h
/-- slices.insertionSortCmpFunc[int] -/
def slices_insertionSortCmpFunc_int.E (data1 : Sl) (a2 : Int) (b3 : Int) (cmp4 : Value) (R : World → Prop) (w : World) : Prop :=
 ∃ (I_5 : Int → World → Prop) (m_6 : Int → World → Nat), I_5 ((i64 ((a2 : Int) + (1 : Int)))) w ∧
 ∀ (i7 : Int), ∀ (w_8 : World), I_5 i7 w_8 →
 IfB (decide ((i7 : Int) < (b3 : Int)))
 (∃ (I_9 : Int → World → Prop) (m_10 : Int → World → Nat), I_9 (i7) w_8 ∧
 ∀ (j11 : Int), ∀ (w_12 : World), I_9 j11 w_12 →
 Drw w_12 fun (w_13 : World) =>
 IfB (decide ((j11 : Int) > (a2 : Int)))
 (Idx data1 j11 1 fun (q14 : Addr) =>
 Ld kI q14 w_13 fun (x15 : Int) =>
 Idx data1 (i64 ((j11 : Int) - (1 : Int))) 1 fun (q16 : Addr) =>
 Ld kI q16 w_13 fun (x17 : Int) =>
 ClV Try.prog cmp4 [kI] [(.int .i64 x15), (.int .i64 x17)] w_13 fun (r19 : Int) (w_18 : World) =>
 IfB (decide ((r19 : Int) < (0 : Int)))
 (Drw w_18 fun (w_20 : World) =>
 Idx data1 (i64 ((j11 : Int) - (1 : Int))) 1 fun (q21 : Addr) =>
 Ld kI q21 w_20 fun (x22 : Int) =>
 Idx data1 j11 1 fun (q23 : Addr) =>
 Ld kI q23 w_20 fun (x24 : Int) =>
 Idx data1 j11 1 fun (q25 : Addr) =>
 St q25 (.int .i64 x22) w_20 fun (w_26 : World) =>
 Idx data1 (i64 ((j11 : Int) - (1 : Int))) 1 fun (q27 : Addr) =>
 St q27 (.int .i64 x24) w_26 fun (w_28 : World) =>
 I_9 ((i64 ((j11 : Int) - (1 : Int)))) w_28 ∧ m_10 ((i64 ((j11 : Int) - (1 : Int)))) w_28 < m_10 j11 w_12)
 (I_5 ((i64 ((i7 : Int) + (1 : Int)))) w_18 ∧ m_6 ((i64 ((i7 : Int) + (1 : Int)))) w_18 < m_6 i7 w_8))
 (I_5 ((i64 ((i7 : Int) + (1 : Int)))) w_13 ∧ m_6 ((i64 ((i7 : Int) + (1 : Int)))) w_13 < m_6 i7 w_8))
 (R  w_8)
theorem slices_insertionSortCmpFunc_int.ok (data1 : Sl) (a2 : Int) (b3 : Int) (cmp4 : Value) (R : World → Prop) (w : World) (h : slices_insertionSortCmpFunc_int.E data1 a2 b3 cmp4 R w) : Cl Try.prog [] n_slices_insertionSortCmpFunc_int ⟨[(.slice data1.base data1.len data1.cap), (.int .i64 a2), (.int .i64 b3), cmp4]⟩ w R :=
  calls_of_eq Try.mix Try.f47 [(.slice data1.base data1.len data1.cap), (.int .i64 a2), (.int .i64 b3), cmp4] [] R 53 [] (by kernel_rfl) (by kernel_rfl) (by kernel_rfl) (by kernel_rfl) (by kernel_rfl)
    (.s .o (.b (.l [(8, kI)] (.s (.s .o (.c .o .o)) (.s (.b (.s .o (.b (.l [(9, kI)] (.s (.s .o (.c .o .o)) (.s (.b .o) .o)))))) .o)))))
    (by kernel_rfl) h
/-- slices.symMergeCmpFunc[int] -/
def slices_symMergeCmpFunc_int.E (data1 : Sl) (a2 : Int) (m_3 : Int) (b4 : Int) (cmp5 : Value) (R : World → Prop) (w : World) : Prop :=
 IfB (((i64 ((m_3 : Int) - (a2 : Int))) : Int) == (1 : Int))
 (∃ (I_6 : Int → Int → World → Prop) (m_7 : Int → Int → World → Nat), I_6 (m_3) (b4) w ∧
 ∀ (i8 : Int) (j9 : Int), ∀ (w_10 : World), I_6 i8 j9 w_10 →
 IfB (decide ((i8 : Int) < (j9 : Int)))
 (0 ≤ (1 : Int) ∧
 Drw w_10 fun (w_11 : World) =>
 Idx data1 (i64 (ishr .u64 ((u64 (i64 ((i8 : Int) + (j9 : Int)))) : Int) (1 : Int))) 1 fun (q12 : Addr) =>
 Ld kI q12 w_11 fun (x13 : Int) =>
 Idx data1 a2 1 fun (q14 : Addr) =>
 Ld kI q14 w_11 fun (x15 : Int) =>
 ClV Try.prog cmp5 [kI] [(.int .i64 x13), (.int .i64 x15)] w_11 fun (r17 : Int) (w_16 : World) =>
 IfB (decide ((r17 : Int) < (0 : Int)))
 (I_6 ((i64 (((i64 (ishr .u64 ((u64 (i64 ((i8 : Int) + (j9 : Int)))) : Int) (1 : Int))) : Int) + (1 : Int)))) (j9) w_16 ∧ m_7 ((i64 (((i64 (ishr .u64 ((u64 (i64 ((i8 : Int) + (j9 : Int)))) : Int) (1 : Int))) : Int) + (1 : Int)))) (j9) w_16 < m_7 i8 j9 w_10)
 (I_6 (i8) ((i64 (ishr .u64 ((u64 (i64 ((i8 : Int) + (j9 : Int)))) : Int) (1 : Int)))) w_16 ∧ m_7 (i8) ((i64 (ishr .u64 ((u64 (i64 ((i8 : Int) + (j9 : Int)))) : Int) (1 : Int)))) w_16 < m_7 i8 j9 w_10))
 (∃ (I_18 : Int → World → Prop) (m_19 : Int → World → Nat), I_18 (a2) w_10 ∧
 ∀ (k20 : Int), ∀ (w_21 : World), I_18 k20 w_21 →
 IfB (decide ((k20 : Int) < ((i64 ((i8 : Int) - (1 : Int))) : Int)))
 (Drw w_21 fun (w_22 : World) =>
 Idx data1 (i64 ((k20 : Int) + (1 : Int))) 1 fun (q23 : Addr) =>
 Ld kI q23 w_22 fun (x24 : Int) =>
 Idx data1 k20 1 fun (q25 : Addr) =>
 Ld kI q25 w_22 fun (x26 : Int) =>
 Idx data1 k20 1 fun (q27 : Addr) =>
 St q27 (.int .i64 x24) w_22 fun (w_28 : World) =>
 Idx data1 (i64 ((k20 : Int) + (1 : Int))) 1 fun (q29 : Addr) =>
 St q29 (.int .i64 x26) w_28 fun (w_30 : World) =>
 I_18 ((i64 ((k20 : Int) + (1 : Int)))) w_30 ∧ m_19 ((i64 ((k20 : Int) + (1 : Int)))) w_30 < m_19 k20 w_21)
 (R  w_21)))
 (IfB (((i64 ((b4 : Int) - (m_3 : Int))) : Int) == (1 : Int))
 (∃ (I_31 : Int → Int → World → Prop) (m_32 : Int → Int → World → Nat), I_31 (a2) (m_3) w ∧
 ∀ (i33 : Int) (j34 : Int), ∀ (w_35 : World), I_31 i33 j34 w_35 →
 IfB (decide ((i33 : Int) < (j34 : Int)))
 (0 ≤ (1 : Int) ∧
 Drw w_35 fun (w_36 : World) =>
 Idx data1 m_3 1 fun (q37 : Addr) =>
 Ld kI q37 w_36 fun (x38 : Int) =>
 Idx data1 (i64 (ishr .u64 ((u64 (i64 ((i33 : Int) + (j34 : Int)))) : Int) (1 : Int))) 1 fun (q39 : Addr) =>
 Ld kI q39 w_36 fun (x40 : Int) =>
 ClV Try.prog cmp5 [kI] [(.int .i64 x38), (.int .i64 x40)] w_36 fun (r42 : Int) (w_41 : World) =>
 IfB (!(decide ((r42 : Int) < (0 : Int))))
 (I_31 ((i64 (((i64 (ishr .u64 ((u64 (i64 ((i33 : Int) + (j34 : Int)))) : Int) (1 : Int))) : Int) + (1 : Int)))) (j34) w_41 ∧ m_32 ((i64 (((i64 (ishr .u64 ((u64 (i64 ((i33 : Int) + (j34 : Int)))) : Int) (1 : Int))) : Int) + (1 : Int)))) (j34) w_41 < m_32 i33 j34 w_35)
 (I_31 (i33) ((i64 (ishr .u64 ((u64 (i64 ((i33 : Int) + (j34 : Int)))) : Int) (1 : Int)))) w_41 ∧ m_32 (i33) ((i64 (ishr .u64 ((u64 (i64 ((i33 : Int) + (j34 : Int)))) : Int) (1 : Int)))) w_41 < m_32 i33 j34 w_35))
 (∃ (I_43 : Int → World → Prop) (m_44 : Int → World → Nat), I_43 (m_3) w_35 ∧
 ∀ (k45 : Int), ∀ (w_46 : World), I_43 k45 w_46 →
 IfB (decide ((k45 : Int) > (i33 : Int)))
 (Drw w_46 fun (w_47 : World) =>
 Idx data1 (i64 ((k45 : Int) - (1 : Int))) 1 fun (q48 : Addr) =>
 Ld kI q48 w_47 fun (x49 : Int) =>
 Idx data1 k45 1 fun (q50 : Addr) =>
 Ld kI q50 w_47 fun (x51 : Int) =>
 Idx data1 k45 1 fun (q52 : Addr) =>
 St q52 (.int .i64 x49) w_47 fun (w_53 : World) =>
 Idx data1 (i64 ((k45 : Int) - (1 : Int))) 1 fun (q54 : Addr) =>
 St q54 (.int .i64 x51) w_53 fun (w_55 : World) =>
 I_43 ((i64 ((k45 : Int) - (1 : Int)))) w_55 ∧ m_44 ((i64 ((k45 : Int) - (1 : Int)))) w_55 < m_44 k45 w_46)
 (R  w_46)))
 (0 ≤ (1 : Int) ∧
 Join (fun (start57 : Int) (r58 : Int) (w_59 : World) =>
 ∃ (I_60 : Int → Int → World → Prop) (m_61 : Int → Int → World → Nat), I_60 (start57) (r58) w_59 ∧
 ∀ (start62 : Int) (r63 : Int), ∀ (w_64 : World), I_60 start62 r63 w_64 →
 IfB (decide ((start62 : Int) < (r63 : Int)))
 (0 ≤ (1 : Int) ∧
 Drw w_64 fun (w_65 : World) =>
 Idx data1 (i64 (((i64 (((i64 (((i64 (ishr .u64 ((u64 (i64 ((a2 : Int) + (b4 : Int)))) : Int) (1 : Int))) : Int) + (m_3 : Int))) : Int) - (1 : Int))) : Int) - ((i64 (ishr .u64 ((u64 (i64 ((start62 : Int) + (r63 : Int)))) : Int) (1 : Int))) : Int))) 1 fun (q66 : Addr) =>
 Ld kI q66 w_65 fun (x67 : Int) =>
 Idx data1 (i64 (ishr .u64 ((u64 (i64 ((start62 : Int) + (r63 : Int)))) : Int) (1 : Int))) 1 fun (q68 : Addr) =>
 Ld kI q68 w_65 fun (x69 : Int) =>
 ClV Try.prog cmp5 [kI] [(.int .i64 x67), (.int .i64 x69)] w_65 fun (r71 : Int) (w_70 : World) =>
 IfB (!(decide ((r71 : Int) < (0 : Int))))
 (I_60 ((i64 (((i64 (ishr .u64 ((u64 (i64 ((start62 : Int) + (r63 : Int)))) : Int) (1 : Int))) : Int) + (1 : Int)))) (r63) w_70 ∧ m_61 ((i64 (((i64 (ishr .u64 ((u64 (i64 ((start62 : Int) + (r63 : Int)))) : Int) (1 : Int))) : Int) + (1 : Int)))) (r63) w_70 < m_61 start62 r63 w_64)
 (I_60 (start62) ((i64 (ishr .u64 ((u64 (i64 ((start62 : Int) + (r63 : Int)))) : Int) (1 : Int)))) w_70 ∧ m_61 (start62) ((i64 (ishr .u64 ((u64 (i64 ((start62 : Int) + (r63 : Int)))) : Int) (1 : Int)))) w_70 < m_61 start62 r63 w_64))
 (Join (fun (w_74 : World) =>
 IfB (decide ((a2 : Int) < (start62 : Int)))
 (IfB (decide ((start62 : Int) < ((i64 (ishr .u64 ((u64 (i64 ((a2 : Int) + (b4 : Int)))) : Int) (1 : Int))) : Int)))
 (Cl Try.prog [] n_slices_symMergeCmpFunc_int ⟨[(.slice data1.base data1.len data1.cap), (.int .i64 a2), (.int .i64 start62), (.int .i64 (i64 (ishr .u64 ((u64 (i64 ((a2 : Int) + (b4 : Int)))) : Int) (1 : Int)))), cmp5]⟩ w_74 fun  (w_75 : World) =>
 IfB (decide (((i64 (ishr .u64 ((u64 (i64 ((a2 : Int) + (b4 : Int)))) : Int) (1 : Int))) : Int) < ((i64 (((i64 (((i64 (ishr .u64 ((u64 (i64 ((a2 : Int) + (b4 : Int)))) : Int) (1 : Int))) : Int) + (m_3 : Int))) : Int) - (start62 : Int))) : Int)))
 (IfB (decide (((i64 (((i64 (((i64 (ishr .u64 ((u64 (i64 ((a2 : Int) + (b4 : Int)))) : Int) (1 : Int))) : Int) + (m_3 : Int))) : Int) - (start62 : Int))) : Int) < (b4 : Int)))
 (Cl Try.prog [] n_slices_symMergeCmpFunc_int ⟨[(.slice data1.base data1.len data1.cap), (.int .i64 (i64 (ishr .u64 ((u64 (i64 ((a2 : Int) + (b4 : Int)))) : Int) (1 : Int)))), (.int .i64 (i64 (((i64 (((i64 (ishr .u64 ((u64 (i64 ((a2 : Int) + (b4 : Int)))) : Int) (1 : Int))) : Int) + (m_3 : Int))) : Int) - (start62 : Int)))), (.int .i64 b4), cmp5]⟩ w_75 fun  (w_76 : World) =>
 R  w_76)
 (R  w_75))
 (R  w_75))
 (IfB (decide (((i64 (ishr .u64 ((u64 (i64 ((a2 : Int) + (b4 : Int)))) : Int) (1 : Int))) : Int) < ((i64 (((i64 (((i64 (ishr .u64 ((u64 (i64 ((a2 : Int) + (b4 : Int)))) : Int) (1 : Int))) : Int) + (m_3 : Int))) : Int) - (start62 : Int))) : Int)))
 (IfB (decide (((i64 (((i64 (((i64 (ishr .u64 ((u64 (i64 ((a2 : Int) + (b4 : Int)))) : Int) (1 : Int))) : Int) + (m_3 : Int))) : Int) - (start62 : Int))) : Int) < (b4 : Int)))
 (Cl Try.prog [] n_slices_symMergeCmpFunc_int ⟨[(.slice data1.base data1.len data1.cap), (.int .i64 (i64 (ishr .u64 ((u64 (i64 ((a2 : Int) + (b4 : Int)))) : Int) (1 : Int)))), (.int .i64 (i64 (((i64 (((i64 (ishr .u64 ((u64 (i64 ((a2 : Int) + (b4 : Int)))) : Int) (1 : Int))) : Int) + (m_3 : Int))) : Int) - (start62 : Int)))), (.int .i64 b4), cmp5]⟩ w_74 fun  (w_77 : World) =>
 R  w_77)
 (R  w_74))
 (R  w_74)))
 (IfB (decide (((i64 (ishr .u64 ((u64 (i64 ((a2 : Int) + (b4 : Int)))) : Int) (1 : Int))) : Int) < ((i64 (((i64 (((i64 (ishr .u64 ((u64 (i64 ((a2 : Int) + (b4 : Int)))) : Int) (1 : Int))) : Int) + (m_3 : Int))) : Int) - (start62 : Int))) : Int)))
 (IfB (decide (((i64 (((i64 (((i64 (ishr .u64 ((u64 (i64 ((a2 : Int) + (b4 : Int)))) : Int) (1 : Int))) : Int) + (m_3 : Int))) : Int) - (start62 : Int))) : Int) < (b4 : Int)))
 (Cl Try.prog [] n_slices_symMergeCmpFunc_int ⟨[(.slice data1.base data1.len data1.cap), (.int .i64 (i64 (ishr .u64 ((u64 (i64 ((a2 : Int) + (b4 : Int)))) : Int) (1 : Int)))), (.int .i64 (i64 (((i64 (((i64 (ishr .u64 ((u64 (i64 ((a2 : Int) + (b4 : Int)))) : Int) (1 : Int))) : Int) + (m_3 : Int))) : Int) - (start62 : Int)))), (.int .i64 b4), cmp5]⟩ w_74 fun  (w_78 : World) =>
 R  w_78)
 (R  w_74))
 (R  w_74))) fun (K_72 : World → Prop) =>
 IfB (decide ((start62 : Int) < (m_3 : Int)))
 (IfB (decide ((m_3 : Int) < ((i64 (((i64 (((i64 (ishr .u64 ((u64 (i64 ((a2 : Int) + (b4 : Int)))) : Int) (1 : Int))) : Int) + (m_3 : Int))) : Int) - (start62 : Int))) : Int)))
 (Cl Try.prog [] n_slices_rotateCmpFunc_int ⟨[(.slice data1.base data1.len data1.cap), (.int .i64 start62), (.int .i64 m_3), (.int .i64 (i64 (((i64 (((i64 (ishr .u64 ((u64 (i64 ((a2 : Int) + (b4 : Int)))) : Int) (1 : Int))) : Int) + (m_3 : Int))) : Int) - (start62 : Int)))), cmp5]⟩ w_64 fun  (w_73 : World) =>
 K_72  w_73)
 (K_72  w_64))
 (K_72  w_64))) fun (K_56 : Int → Int → World → Prop) =>
 IfB (decide ((m_3 : Int) > ((i64 (ishr .u64 ((u64 (i64 ((a2 : Int) + (b4 : Int)))) : Int) (1 : Int))) : Int)))
 (K_56 ((i64 (((i64 (((i64 (ishr .u64 ((u64 (i64 ((a2 : Int) + (b4 : Int)))) : Int) (1 : Int))) : Int) + (m_3 : Int))) : Int) - (b4 : Int)))) ((i64 (ishr .u64 ((u64 (i64 ((a2 : Int) + (b4 : Int)))) : Int) (1 : Int)))) w)
 (K_56 (a2) (m_3) w)))
theorem slices_symMergeCmpFunc_int.ok (data1 : Sl) (a2 : Int) (m_3 : Int) (b4 : Int) (cmp5 : Value) (R : World → Prop) (w : World) (h : slices_symMergeCmpFunc_int.E data1 a2 m_3 b4 cmp5 R w) : Cl Try.prog [] n_slices_symMergeCmpFunc_int ⟨[(.slice data1.base data1.len data1.cap), (.int .i64 a2), (.int .i64 m_3), (.int .i64 b4), cmp5]⟩ w R :=
  calls_of_eq Try.mix Try.f48 [(.slice data1.base data1.len data1.cap), (.int .i64 a2), (.int .i64 m_3), (.int .i64 b4), cmp5] [] R 220 [] (by kernel_rfl) (by kernel_rfl) (by kernel_rfl) (by kernel_rfl) (by kernel_rfl)
    (.s (.s .o (.c (.s .o (.s .o (.s (.b (.l [(10, kI), (11, kI)] (.s (.s .o (.c .o .o)) (.b (.s .o (.s .o (.c .o .o))))))) (.s (.s .o (.b (.l [(13, kI)] (.s (.s .o (.c .o .o)) (.s (.b .o) .o))))) .o)))) .o)) (.s (.s .o (.c (.s .o (.s .o (.s (.b (.l [(14, kI), (15, kI)] (.s (.s .o (.c .o .o)) (.b (.s .o (.s .o (.c .o .o))))))) (.s (.s .o (.b (.l [(17, kI)] (.s (.s .o (.c .o .o)) (.s (.b .o) .o))))) .o)))) .o)) (.s .o (.s .o (.s .o (.j [(20, kI), (21, kI)] (.s .o (.c (.s .o .o) (.s .o .o))) (.s .o (.s (.b (.l [(20, kI), (21, kI)] (.s (.s .o (.c .o .o)) (.b (.s .o (.s .o (.c .o .o))))))) (.s .o (.j [] (.s .o (.c .o .o)) (.s (.s .o (.c .o .o)) (.s .o (.c .o .o)))))))))))))
    (by kernel_rfl) h
/-- kraft.share -/
def kraft_share.E (n1 : Int) (R : Int → World → Prop) (w : World) : Prop :=
 IfB ((n1 : Int) == (0 : Int))
 (R (0) w)
 (IfB (decide ((n1 : Int) > (15 : Int)))
 (R (32769) w)
 (0 ≤ (n1 : Int) ∧
 R ((ishr .i64 (32768 : Int) (n1 : Int))) w))
theorem kraft_share.ok (n1 : Int) (R : Int → World → Prop) (w : World) (h : kraft_share.E n1 R w) : Cl Try.prog [kI] n_kraft_share ⟨[(.int .u8 n1)]⟩ w R :=
  calls_of_eq Try.mix Try.f49 [(.int .u8 n1)] [kI] R 11 [.tmp 2] (by kernel_rfl) (by kernel_rfl) (by kernel_rfl) (by kernel_rfl) (by kernel_rfl)
    (.s .o (.s (.b (.s .o (.c (.s .o .o) (.s .o (.c (.s .o .o) .o))))) (.s .o .o)))
    (by kernel_rfl) h
/-- slices.rotateCmpFunc[int] -/
def slices_rotateCmpFunc_int.E (data1 : Sl) (a2 : Int) (m_3 : Int) (b4 : Int) (cmp5 : Value) (R : World → Prop) (w : World) : Prop :=
 ∃ (I_6 : Int → Int → World → Prop) (m_7 : Int → Int → World → Nat), I_6 ((i64 ((m_3 : Int) - (a2 : Int)))) ((i64 ((b4 : Int) - (m_3 : Int)))) w ∧
 ∀ (i8 : Int) (j9 : Int), ∀ (w_10 : World), I_6 i8 j9 w_10 →
 IfB ((i8 : Int) != (j9 : Int))
 (IfB (decide ((i8 : Int) > (j9 : Int)))
 (Cl Try.prog [] n_slices_swapRangeCmpFunc_int ⟨[(.slice data1.base data1.len data1.cap), (.int .i64 (i64 ((m_3 : Int) - (i8 : Int)))), (.int .i64 m_3), (.int .i64 j9), cmp5]⟩ w_10 fun  (w_11 : World) =>
 I_6 ((i64 ((i8 : Int) - (j9 : Int)))) (j9) w_11 ∧ m_7 ((i64 ((i8 : Int) - (j9 : Int)))) (j9) w_11 < m_7 i8 j9 w_10)
 (Cl Try.prog [] n_slices_swapRangeCmpFunc_int ⟨[(.slice data1.base data1.len data1.cap), (.int .i64 (i64 ((m_3 : Int) - (i8 : Int)))), (.int .i64 (i64 (((i64 ((m_3 : Int) + (j9 : Int))) : Int) - (i8 : Int)))), (.int .i64 i8), cmp5]⟩ w_10 fun  (w_12 : World) =>
 I_6 (i8) ((i64 ((j9 : Int) - (i8 : Int)))) w_12 ∧ m_7 (i8) ((i64 ((j9 : Int) - (i8 : Int)))) w_12 < m_7 i8 j9 w_10))
 (Cl Try.prog [] n_slices_swapRangeCmpFunc_int ⟨[(.slice data1.base data1.len data1.cap), (.int .i64 (i64 ((m_3 : Int) - (i8 : Int)))), (.int .i64 m_3), (.int .i64 i8), cmp5]⟩ w_10 fun  (w_13 : World) =>
 R  w_13)
theorem slices_rotateCmpFunc_int.ok (data1 : Sl) (a2 : Int) (m_3 : Int) (b4 : Int) (cmp5 : Value) (R : World → Prop) (w : World) (h : slices_rotateCmpFunc_int.E data1 a2 m_3 b4 cmp5 R w) : Cl Try.prog [] n_slices_rotateCmpFunc_int ⟨[(.slice data1.base data1.len data1.cap), (.int .i64 a2), (.int .i64 m_3), (.int .i64 b4), cmp5]⟩ w R :=
  calls_of_eq Try.mix Try.f50 [(.slice data1.base data1.len data1.cap), (.int .i64 a2), (.int .i64 m_3), (.int .i64 b4), cmp5] [] R 58 [] (by kernel_rfl) (by kernel_rfl) (by kernel_rfl) (by kernel_rfl) (by kernel_rfl)
    (.s .o (.s .o (.s (.b (.l [(10, kI), (11, kI)] (.s (.s .o (.c .o .o)) (.b (.s .o (.c (.s .o .o) (.s .o .o))))))) .o)))
    (by kernel_rfl) h
/-- slices.swapRangeCmpFunc[int] -/
def slices_swapRangeCmpFunc_int.E (data1 : Sl) (a2 : Int) (b3 : Int) (n4 : Int) (cmp5 : Value) (R : World → Prop) (w : World) : Prop :=
 ∃ (I_6 : Int → World → Prop) (m_7 : Int → World → Nat), I_6 (0) w ∧
 ∀ (i8 : Int), ∀ (w_9 : World), I_6 i8 w_9 →
 IfB (decide ((i8 : Int) < (n4 : Int)))
 (Drw w_9 fun (w_10 : World) =>
 Idx data1 (i64 ((b3 : Int) + (i8 : Int))) 1 fun (q11 : Addr) =>
 Ld kI q11 w_10 fun (x12 : Int) =>
 Idx data1 (i64 ((a2 : Int) + (i8 : Int))) 1 fun (q13 : Addr) =>
 Ld kI q13 w_10 fun (x14 : Int) =>
 Idx data1 (i64 ((a2 : Int) + (i8 : Int))) 1 fun (q15 : Addr) =>
 St q15 (.int .i64 x12) w_10 fun (w_16 : World) =>
 Idx data1 (i64 ((b3 : Int) + (i8 : Int))) 1 fun (q17 : Addr) =>
 St q17 (.int .i64 x14) w_16 fun (w_18 : World) =>
 I_6 ((i64 ((i8 : Int) + (1 : Int)))) w_18 ∧ m_7 ((i64 ((i8 : Int) + (1 : Int)))) w_18 < m_7 i8 w_9)
 (R  w_9)
theorem slices_swapRangeCmpFunc_int.ok (data1 : Sl) (a2 : Int) (b3 : Int) (n4 : Int) (cmp5 : Value) (R : World → Prop) (w : World) (h : slices_swapRangeCmpFunc_int.E data1 a2 b3 n4 cmp5 R w) : Cl Try.prog [] n_slices_swapRangeCmpFunc_int ⟨[(.slice data1.base data1.len data1.cap), (.int .i64 a2), (.int .i64 b3), (.int .i64 n4), cmp5]⟩ w R :=
  calls_of_eq Try.mix Try.f51 [(.slice data1.base data1.len data1.cap), (.int .i64 a2), (.int .i64 b3), (.int .i64 n4), cmp5] [] R 38 [] (by kernel_rfl) (by kernel_rfl) (by kernel_rfl) (by kernel_rfl) (by kernel_rfl)
    (.s .o (.b (.l [(10, kI)] (.s (.s .o (.c .o .o)) (.s (.b .o) .o)))))
    (by kernel_rfl) h
end Go.Proofs.Ytcidpcahgkngjaa
