/-
  The examples of winepresslaw12 and the laws PrefixDecAny and PrefixDecQuick. Conditions: as each theorem states.
-/
import Derived.Test.YtajpnkioigcejaaDec
namespace Go.Srt
def thr : List Nat := [1, 2] ++ List.replicate 255 0 ++ [2]
def zer : List Nat := List.replicate 258 0
theorem thr_len : thr.length = 258 := by decide +kernel
theorem zer_len : zer.length = 258 := List.length_replicate
theorem thr_ok : okT thr = true := by decide +kernel
theorem zer_ok : okT zer = false := by decide +kernel
theorem thr_all1 : allS thr 3 [1, 0, 0, 1, 1, 1] 0 0 [] 0 = ([1, 0, 257], 5, 0) := by decide +kernel
theorem thr_all2 : allS thr 3 [1, 0, 0, 1] 0 0 [] 0 = ([], 0, 50) := by decide +kernel
theorem thr_all3 : allS thr 1 [2] 0 0 [] 0 = ([], 0, 2) := by decide +kernel
theorem thr_stp1 : stp thr 0 0 1 = ((1, 1), none) := by decide +kernel
theorem thr_stp2 : stp thr 1 1 1 = ((0, 0), some 257) := by decide +kernel
theorem thr_v1 : VSt thr 1 1 := ⟨thr_ok, by decide, by decide, by decide +kernel⟩
theorem thr_v0 : (okT thr && decide (fst thr 1 + many thr 1 ≤ 1)) = true := by decide +kernel
theorem thr_nv : (okT thr && decide (fst thr 1 + many thr 1 ≤ 0)) = false := by decide +kernel
theorem thr_q : (List.map (fun j => qt thr (sh9 thr).length j) [0, 255, 256, 383, 384, 511]) = [(0, 1), (0, 1), (1, 2), (1, 2), (257, 2), (257, 2)] := by decide +kernel
theorem thr_set : ((zer.set 0 1).set 1 2).set 257 2 = thr := by decide +kernel
end Go.Srt
namespace Go.Proofs.Ytajpnkioigcejaa
open Go Go.Vc Go.Srt
theorem iand_bit (x : Int) : ∃ y : Nat, y ≤ 1 ∧ iand .i64 x 1 = (y : Int) := by
  have h1 : (BitVec.ofInt IntKind.i64.bits 1).toNat = 1 := by decide
  refine ⟨(BitVec.ofInt IntKind.i64.bits x).toNat % 2, by omega, ?_⟩
  unfold iand
  rw [BitVec.toNat_and, h1, Nat.and_one_is_mod, wrap_nat (by have : IntKind.max .i64 = 9223372036854775807 := rfl; omega)]
section
variable {E w : World} {F : List HP}
set_option maxRecDepth 20000 in
theorem three_c {K : Array Value → World → Prop} (h : Hp E w F) (hK : ∀ w', Hp E w' F → K (ai .u8 thr) w') : Cl Try.prog [.arr 258] n_law12_three ⟨[]⟩ w K := by
  refine law12_three.ok _ _ ?_
  unfold law12_three.E
  rw [ai_zero]
  have hz : (ai .u8 (List.replicate 258 0)).size = 258 := by rw [ai_size]; exact List.length_replicate
  refine Nw.mk h fun b2 w1 h1 => Nw.mk h1 fun b4 w2 h2 => ?_
  refine IdxP.wr h2 (by decide) (by decide) hz rfl fun w3 h3 => ?_
  have h3 : Hp E w3 (Blk b4 (.cells (ai .u8 (zer.set 0 1)) 23 (0, 0)) :: Blk b2 (.cells (ai .u8 zer) 23 (0, 0)) :: F) := by
    have := h3
    rw [show ((.int .u8 1 : Value)) = .int .u8 ((1 : Nat) : Int) from rfl, ai_set] at this
    exact this
  have hz3 : (ai .u8 (zer.set 0 1)).size = 258 := by rw [ai_size, List.length_set]; exact zer_len
  refine IdxP.wr h3 (by decide) (by decide) hz3 rfl fun w4 h4 => ?_
  have h4 : Hp E w4 (Blk b4 (.cells (ai .u8 ((zer.set 0 1).set 1 2)) 23 (0, 0)) :: Blk b2 (.cells (ai .u8 zer) 23 (0, 0)) :: F) := by
    have := h4
    rw [show ((.int .u8 2 : Value)) = .int .u8 ((2 : Nat) : Int) from rfl, ai_set] at this
    exact this
  have hz4 : (ai .u8 ((zer.set 0 1).set 1 2)).size = 258 := by rw [ai_size, List.length_set, List.length_set]; exact zer_len
  refine IdxP.wr h4 (by decide) (by decide) hz4 rfl fun w5 h5 => ?_
  have h5 : Hp E w5 (Blk b4 (.cells (ai .u8 thr) 23 (0, 0)) :: Blk b2 (.cells (ai .u8 zer) 23 (0, 0)) :: F) := by
    have := h5
    rw [show ((.int .u8 2 : Value)) = .int .u8 ((2 : Nat) : Int) from rfl, ai_set, show (257 : Int).toNat = 257 from rfl, thr_set] at this
    exact this
  have ht : (ai .u8 thr).size = 258 := by rw [ai_size]; exact thr_len
  exact Ld.arr h5 ht (StA.blk h5.p1 hz ht ai_scalar fun w6 h6 => Ld.arr h6 ht (hK _ h6.drop.drop))
theorem bld_zer {K : Array Value → Prop} (hK : K (ai .u8 zer)) : Bld Try.prog 23 [] K := ⟨ai .u8 zer, by kernel_rfl, hK⟩
set_option maxRecDepth 20000 in
theorem wakes12_c {K : Bool → World → Prop} (h : Hp E w F) (hK : ∀ w', Hp E w' F → K true w') : Cl Try.prog [kB] n_law12_wakes ⟨[]⟩ w K := by
  refine law12_wakes.ok _ _ ?_
  unfold law12_wakes.E
  simp only [Join_eq]
  rw [zeroSt, zeroE]
  have hz : (stA (List.replicate 258 0) 0 0).size = 260 := stA_size List.length_replicate
  have hno : ¬ (okT thr = false ∨ (3 : Int) < 0) := by rw [thr_ok]; simp
  have hno1 : ¬ (okT thr = false ∨ (1 : Int) < 0) := by rw [thr_ok]; simp
  refine three_c h fun w1 h1 => ?_
  refine Nw.mk h1 fun b4 w2 h2 => ?_
  refine decAll_c (l := thr) (many := 3) (s := ⟨some ⟨b4, 0, none⟩, 6, 6⟩) (bits := [1, 0, 0, 1, 1, 1]) h2 thr_len (Tells.blk rfl rfl) (by decide) (fun hb => absurd hb hno) (fun _ s w3 h3 => ?_)
  rw [thr_all1] at h3 ⊢
  have h3 := h3.p1.drop
  refine three_c h3 fun w4 h4 => ?_
  refine Nw.mk h4 fun b12 w5 h5 => ?_
  refine decAll_c (l := thr) (many := 3) (s := ⟨some ⟨b12, 0, none⟩, 4, 4⟩) (bits := [1, 0, 0, 1]) h5 thr_len (Tells.blk rfl rfl) (by decide) (fun hb => absurd hb hno) (fun _ s2 w6 h6 => ?_)
  rw [thr_all2]
  have h6 := h6.drop.drop
  refine bld_zer ?_
  refine decAll_c (l := zer) (many := 0) (s := ⟨none, 0, 0⟩) (bits := []) h6 zer_len Tells.nil (by decide) (fun _ w7 h7 => ?_) (fun hb => absurd hb (by rw [zer_ok]; decide))
  refine three_c h7 fun w8 h8 => ?_
  refine Nw.mk h8 fun b25 w9 h9 => ?_
  refine decAll_c (l := thr) (many := 1) (s := ⟨some ⟨b25, 0, none⟩, 1, 1⟩) (bits := [2]) h9 thr_len (Tells.blk rfl rfl) (by decide) (fun hb => absurd hb hno1) (fun _ s4 w10 h10 => ?_)
  rw [thr_all3]
  have h10 := h10.drop.drop
  refine three_c h10 fun w11 h11 => ?_
  refine quick_c (l := thr) h11 thr_len (fun hb => absurd hb (by rw [thr_ok]; decide)) fun _ w12 h12 => ?_
  refine Nw.mk h12 fun b36 w13 h13 => StA.blk h13 entA_size entA_size rowI_scalar fun w14 h14 => ?_
  refine bld_zer ?_
  refine quick_c (l := zer) h14 zer_len (fun _ w15 h15 => ?_) (fun hb => absurd hb (by rw [zer_ok]; decide))
  refine Nw.mk h15 fun b43 w16 h16 => StA.blk h16 entA_size entA_size rowI_scalar fun w17 h17 => ?_
  have h17 := h17.drop
  refine three_c h17 fun w18 h18 => ?_
  refine new_c (l := thr) h18 thr_len (fun hb => absurd hb (by rw [thr_ok]; decide)) fun _ w19 h19 => ?_
  refine Nw.mk h19 fun b51 w20 h20 => StA.blk h20 hz (stA_size thr_len) stA_scalar fun w21 h21 => ?_
  refine bld_zer ?_
  refine new_c (l := zer) h21 zer_len (fun _ w22 h22 => ?_) (fun hb => absurd hb (by rw [zer_ok]; decide))
  refine Nw.mk h22 fun b58 w23 h23 => StA.blk h23 hz hz stA_scalar fun w24 h24 => ?_
  have h24 := h24.drop
  refine Ld.arr h24 (stA_size thr_len) ?_
  refine step_c (l := thr) (c := 0) (b := 0) (x := 1) h24 thr_len (VSt.zero thr_ok) (by decide) fun w25 h25 => ?_
  rw [thr_stp1]
  refine Nw.mk h25 fun b66 w26 h26 => StA.blk h26 hz (stA_size thr_len) stA_scalar fun w27 h27 => ?_
  refine Ld.arr h27 (stA_size thr_len) ?_
  refine step_c (l := thr) (c := 1) (b := 1) (x := 1) h27 thr_len thr_v1 (by decide) fun w28 h28 => ?_
  rw [thr_stp2]
  refine Nw.mk h28 fun b74 w29 h29 => StA.blk h29 hz (stA_size thr_len) stA_scalar fun w30 h30 => ?_
  refine IfB.f (by decide) ?_
  refine IfB.f (by decide) ?_
  refine Nw.mk h30 fun b78 w31 h31 => ?_
  refine ints2_c (s := s) (s2 := ⟨some ⟨b78, 0, none⟩, 3, 3⟩) (a := ints [1, 0, 257]) (b := ints [1, 0, 257]) h31 ?_ (Tells.blk rfl rfl) (by decide) fun w32 h32 => ?_
  · exact Tells.cons (Tells.cons (Tells.cons (Tells.cons (Tells.cons Tells.own))))
  refine IfB.f (by decide) ?_
  have h33 := h32.drop
  have h36 := h33.p3
  have hQ := thr_q
  simp only [List.map_cons, List.map_nil, List.cons.injEq, and_true] at hQ
  obtain ⟨q0, q255, q256, q383, q384, q511⟩ := hQ
  have rdq : ∀ {i : Int} {j x y : Nat} {K : kII.T → Prop}, i = (j : Int) → j < 512 → qt thr (sh9 thr).length j = (x, y) → K ((x : Int), (y : Int), ()) → IdxP ⟨b36, 0, none⟩ 512 i 2 fun q => Ld kII q w32 K := fun {i j x y K} hi hj hq hK => by
    refine IdxP.rd2 h36 hi hj ?_
    unfold qtI; rw [hq]; exact hK
  refine rdq rfl (by decide) q0 (IfB.t (by decide) ?_)
  refine rdq rfl (by decide) q255 (rdq rfl (by decide) q0 (IfB.t (by decide) ?_))
  refine rdq rfl (by decide) q256 (IfB.t (by decide) ?_)
  refine rdq rfl (by decide) q383 (rdq rfl (by decide) q256 (IfB.t (by decide) ?_))
  refine rdq rfl (by decide) q384 (IfB.t (by decide) ?_)
  refine rdq rfl (by decide) q511 (rdq rfl (by decide) q384 ?_)
  have hd : Hp E { w32 with drawn := w32.drawn + 1 } _ := h33.drew
  refine ⟨HasF E _, HasF.mk hd, ?_⟩
  refine IfB.t (by decide) (IfB.t (by decide) (IfB.t (by decide) (IfB.t (by decide) (IfB.t (by decide) (IfB.t (by decide) (IfB.t (by decide) (IfB.t (by decide) (IfB.t (by decide) (IfB.t (by decide) ?_)))))))))
  refine LdS.arrBlk (E := E) (cs := stA thr 1 1) (t := 26) (fr := (0, 0)) (fun w hw => hw.mem (by simp)) (stA_size thr_len) ?_
  refine three_c hd fun w34 h34 => ⟨HasF.mk h34, ?_⟩
  refine Bld.st3 (c := 1) (b := 1) thr_len ?_
  refine EqW.st thr_len thr_len (IfB.t (by simp) (IfB.t (by decide) (IfB.t (by decide) ?_)))
  refine LdS.arrBlk (E := E) (cs := stA thr 0 0) (t := 26) (fr := (0, 0)) (fun w hw => hw.mem (by simp)) (stA_size thr_len) ?_
  refine LdS.arrBlk (E := E) (cs := stA thr 0 0) (t := 26) (fr := (0, 0)) (fun w hw => hw.mem (by simp)) (stA_size thr_len) ?_
  refine EqW.st thr_len thr_len (IfB.t (by simp) ?_)
  refine LdS.arrBlk (E := E) (cs := stA thr 1 1) (t := 26) (fr := (0, 0)) (fun w hw => hw.mem (by simp)) (stA_size thr_len) ?_
  refine valid12_c (l := thr) (c := 1) (b := 1) h34 thr_len (by decide) (by decide) fun w35 h35 => ⟨HasF.mk h35, IfB.t thr_v0 ?_⟩
  refine three_c h35 fun w36 h36 => ⟨HasF.mk h36, ?_⟩
  refine Bld.st2 (b := 1) thr_len ?_
  refine valid12_c (l := thr) (c := 0) (b := 1) h36 thr_len (by decide) (by decide) fun w37 h37 => ⟨HasF.mk h37, ?_⟩
  rw [thr_nv]
  exact hK _ h37.drop.drop.drop.drop.drop
end
end Go.Proofs.Ytajpnkioigcejaa
