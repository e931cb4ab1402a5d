/-
  The examples of winepresslaw11. Conditions: as each theorem states.
-/
import Derived.Test.YtajpnkioigcejaaRef11c
namespace Go.Srt
def exE : List Nat := [3, 3, 2, 1] ++ List.replicate 254 0
theorem exE_len : exE.length = 258 := by decide +kernel
theorem exE_sum : ksum exE ≤ 32768 := by decide +kernel
theorem exE_g1 : allG exE [2, 3, 0] = true := by decide +kernel
theorem exE_g2 : allG exE [4] = false := by decide +kernel
theorem exE_g3 : allG exE [2, 3] = true := by decide +kernel
theorem exE_g4 : allG exE [9] = false := by decide +kernel
theorem exE_e1 : encZ exE [2, 3, 0] = [1, 0, 0, 1, 1, 0] := by decide +kernel
theorem exE_e2 : encZ exE [2, 3] = [1, 0, 0] := by decide +kernel
theorem exE_p1 : pack [1, 0, 0, 1, 1, 0] = [152] := by decide +kernel
theorem exE_p2 : pack [1, 1, 0, 0] = [192] := by decide +kernel
end Go.Srt
namespace Go.Proofs.Ytajpnkioigcejaa
open Go Go.Vc Go.Srt Go.Bits
theorem exE_r1 : rdZ exE [152] 6 = some [2, 3, 0] := by decide +kernel
theorem exE_r2 : rdZ exE [152] 9 = none := by decide +kernel
theorem exE_r3 : rdZ exE [192] 2 = none := by decide +kernel
section
variable {E w : World} {F : List HP}
theorem bld_exE {K : Array Value → Prop} (hK : K (ai .u8 exE)) : Bld Try.prog 23 [(0, .int .u8 3), (1, .int .u8 3), (2, .int .u8 2), (3, .int .u8 1)] K := ⟨ai .u8 exE, by kernel_rfl, hK⟩
set_option maxRecDepth 20000 in
theorem wakes11_c {K : Bool → World → Prop} (h : Hp E w F) (hK : ∀ w', Hp E w' F → K true w') : Cl Try.prog [kB] n_law11_wakes ⟨[]⟩ w K := by
  refine law11_wakes.ok _ _ ?_
  unfold law11_wakes.E
  rw [ai_zero]
  have hz : (ai .u8 (List.replicate 258 0)).size = 258 := by rw [ai_size]; exact List.length_replicate
  have hse : (ai .u8 exE).size = 258 := by rw [ai_size]; exact exE_len
  have hgd : ∀ {zs : List Int}, allG exE zs = true → ¬ ¬ (ksum exE ≤ 32768 ∧ allG exE zs = true) := fun hg hn => hn ⟨exE_sum, hg⟩
  refine bld_exE ?_
  refine Nw.mk h fun b3 w1 h1 => ?_
  refine StA.blk h1 hz hse ai_scalar fun w2 h2 => ?_
  refine Ld.arr h2 hse ?_
  refine Nw.mk h2 fun b7 w3 h3 => ?_
  refine spellE_c (l := exE) (s := ⟨some ⟨b7, 0, none⟩, 3, 3⟩) (zs := [2, 3, 0]) h3 exE_len (Tells.blk rfl rfl) (by decide) (fun hb => absurd hb (hgd exE_g1)) (fun _ _ s1 w4 h4 => ?_)
  rw [exE_e1, exE_p1] at h4
  rw [exE_e1]
  have h4 := h4.p1.drop
  refine Ld.arr h4.p1 hse ?_
  refine Nw.mk h4 fun b14 w5 h5 => ?_
  refine readE_c (l := exE) (s := ⟨some ⟨b14, 0, none⟩, 1, 1⟩) (bs := [152]) (many := 6) h5 exE_len (Tells.blk rfl rfl) (by decide) (by decide) (fun hb => absurd hb (by rw [exE_r1]; simp)) (fun out ho s2 w6 h6 => ?_)
  obtain rfl : out = [2, 3, 0] := by rw [exE_r1] at ho; exact (Option.some.inj ho).symm
  have h6 := h6.p1.drop
  refine Ld.arr h6.p2 hse ?_
  refine Nw.mk h6 fun b20 w7 h7 => ?_
  refine readE_c (l := exE) (s := ⟨some ⟨b20, 0, none⟩, 1, 1⟩) (bs := [152]) (many := 9) h7 exE_len (Tells.blk rfl rfl) (by decide) (by decide) (fun _ w8 h8 => ?_) (fun out ho => absurd ho (by rw [exE_r2]; simp))
  have h8 := h8.drop
  refine Ld.arr h8.p2 hse ?_
  refine Nw.mk h8 fun b26 w9 h9 => ?_
  refine readE_c (l := exE) (s := ⟨some ⟨b26, 0, none⟩, 1, 1⟩) (bs := [192]) (many := 2) h9 exE_len (Tells.blk rfl rfl) (by decide) (by decide) (fun _ w10 h10 => ?_) (fun out ho => absurd ho (by rw [exE_r3]; simp))
  have h10 := h10.drop
  refine Ld.arr h10.p2 hse ?_
  refine Nw.mk h10 fun b32 w11 h11 => ?_
  refine size_c (l := exE) (s := ⟨some ⟨b32, 0, none⟩, 1, 1⟩) (zs := [4]) h11 exE_len (Tells.blk rfl rfl) (by decide) (fun _ w12 h12 => ?_) (fun _ hg => absurd hg (by rw [exE_g2]; decide))
  have h12 := h12.drop
  refine Ld.arr h12.p2 hse ?_
  refine Nw.mk h12 fun b38 w13 h13 => ?_
  refine size_c (l := exE) (s := ⟨some ⟨b38, 0, none⟩, 3, 3⟩) (zs := [2, 3, 0]) h13 exE_len (Tells.blk rfl rfl) (by decide) (fun hb => absurd hb (hgd exE_g1)) (fun _ _ w14 h14 => ?_)
  rw [exE_e1]
  have h14 := h14.drop
  refine newW_c h14 fun bw w15 h15 => ?_
  refine IfB.f rfl ?_
  refine putW_c (v := 1) (width := 1) h15 (by decide) (by decide) (by decide) (by decide) fun w16 h16 => ?_
  refine Ld.arr h16.p3 hse ?_
  refine Nw.mk h16 fun b48 w17 h17 => ?_
  refine putE_c (l := exE) (s := ⟨some ⟨b48, 0, none⟩, 2, 2⟩) (zs := [2, 3]) h17.p1 exE_len (Tells.blk rfl rfl) (by decide) (by decide) (fun hb => absurd hb (hgd exE_g3)) (fun _ _ w18 h18 => ?_)
  have e18 : ([] ++ bn 1 1) ++ encZ exE [2, 3] = [1, 1, 0, 0] := by rw [exE_e2]; decide
  rw [e18] at h18
  have h18 := h18.p1.drop
  refine Ld.arr h18.p3 hse ?_
  refine Nw.mk h18 fun b53 w19 h19 => ?_
  refine putE_c (l := exE) (s := ⟨some ⟨b53, 0, none⟩, 1, 1⟩) (zs := [9]) h19.p1 exE_len (Tells.blk rfl rfl) (by decide) (by decide) (fun _ w20 h20 => ?_) (fun _ hg => absurd hg (by rw [exE_g4]; decide))
  have h20 := h20.p1.drop
  refine Ld.arr h20.p3 hse ?_
  refine Nw.mk h20 fun b58 w21 h21 => ?_
  refine putE_nil (l := exE) (s := ⟨some ⟨b58, 0, none⟩, 1, 1⟩) (zs := [2]) h21 exE_len (Tells.blk rfl rfl) (by decide) fun w22 h22 => ?_
  have h22 := h22.drop
  refine Ld.arr h22.p3 hse ?_
  refine putE_nil (l := exE) (s := ⟨none, 0, 0⟩) (zs := []) h22 exE_len Tells.nil (by decide) fun w23 h23 => ?_
  refine run_toStr (s := s1) (b := [152]) (e := 5) (by kernel_rfl) (by kernel_rfl) (by kernel_rfl) (h23.tells (Tells.cons (Tells.cons Tells.own))) ?_
  refine IfB.t (by rw [show strOf [152] = ByteArray.mk #[152] from rfl]; exact beq_self_eq_true _) (IfB.t (by decide) (IfB.t (by decide) (IfB.t (by decide) ?_)))
  refine Nw.mk h23 fun b67 w24 h24 => ?_
  refine ints_c (s := s2) (s2 := ⟨some ⟨b67, 0, none⟩, 3, 3⟩) (a := ints [2, 3, 0]) (b := ints [2, 3, 0]) h24 (Tells.cons (Tells.cons Tells.own)) (Tells.blk rfl rfl) (by decide) fun w25 h25 => ?_
  refine IfB.t (by decide) (IfB.t (by decide) (IfB.t (by decide) (IfB.t (by decide) (IfB.t (by decide) (IfB.t (by decide) (IfB.t (by decide) ?_))))))
  have h25 := h25.drop
  refine bytesW_c h25 fun s71 w26 h26 => ?_
  rw [exE_p2] at h26
  refine run_toStr (s := s71) (b := [192]) (e := 5) (by kernel_rfl) (by kernel_rfl) (by kernel_rfl) (h26.tells Tells.own) ?_
  refine IfB.t (by rw [show strOf [192] = ByteArray.mk #[192] from rfl]; exact beq_self_eq_true _) ?_
  refine lenW_c h26.p1 fun w27 h27 => ?_
  exact IfB.t (by decide) (IfB.t (by decide) (IfB.t (by decide) (hK w27 h27.drop.drop.drop.drop.drop)))
end
end Go.Proofs.Ytajpnkioigcejaa
