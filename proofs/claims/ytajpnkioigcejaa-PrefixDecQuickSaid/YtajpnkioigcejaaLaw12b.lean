/-
  The laws PrefixDecAny and PrefixDecQuick of winepresslaw12. Conditions: as each theorem states.
-/
import Derived.Test.YtajpnkioigcejaaLaw12
namespace Go.Proofs.Ytajpnkioigcejaa
open Go Go.Vc Go.Srt
section
variable {E w : World} {F : List HP}
set_option maxRecDepth 20000 in
theorem any12_law {l : List Nat} {s : Sl} {bs : List Int} {K : Bool → World → Prop} (h : Hp E w F) (hl : l.length = 258) (h8 : ∀ x ∈ l, x ≤ 255) (hs : Tells F (SlT 1 s (bs.map vI))) (hK : ∀ w', Hp E w' F → K true w') :
    Cl Try.prog [kB] n_law12_PrefixDecAny ⟨[.agg (ai .u8 l), .slice s.base s.len s.cap]⟩ w K := by
  refine law12_PrefixDecAny.ok _ _ _ _ ?_
  unfold law12_PrefixDecAny.E
  simp only [Join_eq]
  rw [zeroSt]
  have hz : (stA (List.replicate 258 0) 0 0).size = 260 := stA_size List.length_replicate
  have hsl := (h.tells hs).1
  simp only [List.length_map, Nat.mul_one] at hsl
  refine Nw.mk h fun b4 w1 h1 => Ld.arr h1 (by rw [ai_size, hl]) ?_
  refine new_c h1 hl (fun hv w2 h2 => ?_) (fun hv w2 h2 => ?_)
  · refine Nw.mk h2 fun b10 w3 h3 => StA.blk h3 hz hz stA_scalar fun w4 h4 => IfB.mk (fun _ => wakes12_c h4 fun w5 h5 => hK _ h5.drop.drop) (fun _ => ?_)
    refine Ld.arr h4.p1 (by rw [ai_size, hl]) (rTable_c h4 hl h8 fun w5 h5 => IfB.t (by rw [hv]; rfl) (wakes12_c h5 fun w6 h6 => hK _ h6.drop.drop))
  refine Nw.mk h2 fun b10 w3 h3 => StA.blk h3 hz (stA_size hl) stA_scalar fun w4 h4 => IfB.mk (fun _ => wakes12_c h4 fun w5 h5 => hK _ h5.drop.drop) (fun h300 => ?_)
  have h300 := of_decide_eq_false h300
  refine Ld.arr h4.p1 (by rw [ai_size, hl]) (rTable_c h4 hl h8 fun w5 h5 => IfB.f (by rw [hv]; rfl) (IfB.f (by decide) ?_))
  refine ⟨fun since i w' => ∃ k c b : Nat, i = (k : Int) ∧ k ≤ bs.length ∧ since = (b : Int) ∧ VSt l c b ∧ Hp E w' (Blk b10 (.cells (stA l c b) 26 (0, 0)) :: Blk b4 (.cells (ai .u8 l) 23 (0, 0)) :: F), fun _ i _ => bs.length - i.toNat,
    ⟨0, 0, 0, rfl, by omega, rfl, VSt.zero hv, h5⟩, ?_⟩
  rintro since i w6 ⟨k, c, b, rfl, hk, rfl, hst, hh⟩
  refine IfB.mk (fun hlt => ?_) (fun hge => wakes12_c hh fun w7 h7 => hK _ h7.drop.drop)
  have hlt : k < bs.length := by have := of_decide_eq_true hlt; omega
  have hb := hst.2.1
  obtain ⟨x, hx, hxe⟩ := iand_bit bs[k]
  have hs2 : Tells (Blk b10 (.cells (stA l c b) 26 (0, 0)) :: Blk b4 (.cells (ai .u8 l) 23 (0, 0)) :: F) (SlT 1 s (bs.map vI)) := Tells.cons (Tells.cons hs)
  have hd : Hp E { w6 with drawn := w6.drawn + 1 } _ := hh.drew
  refine ⟨HasF E (Blk b10 (.cells (stA l c b) 26 (0, 0)) :: Blk b4 (.cells (ai .u8 l) 23 (0, 0)) :: F), HasF.mk hd, ?_⟩
  refine LdS.arrBlk (E := E) (fun w hw => hw.front) (stA_size hl) (Idx.ldS hd hs2 (fun w hw => hw) rfl hlt ?_)
  rw [hxe, i64_id (x := (b : Int) + 1) (by omega), i64_id (x := (k : Int) + 1) (by omega)]
  refine ⟨step_c hd hl hst hx fun w7 h7 => ⟨HasF.mk h7, Nw.mk h7 fun bn w8 h8 => ⟨HasF.mk1 h8, StA.blk h8 hz (stA_size hl) stA_scalar fun w9 h9 => ⟨HasF.mk1 h9, ?_⟩⟩⟩,
    Nw.mk hd fun bn w7 h7 => ⟨HasF.mk1 h7, step_c h7 hl hst hx fun w8 h8 => ⟨HasF.mk1 h8, StA.blk h8 hz (stA_size hl) stA_scalar fun w9 h9 => ⟨HasF.mk1 h9, ?_⟩⟩⟩⟩
  all_goals
    have hnext := hst.next hx
    refine IfB.f (decide_eq_false (by omega)) (Ld.arr h9 (stA_size hl) (valid12_c h9 hl hnext.2.1 hnext.2.2.1 fun w10 h10 => ?_))
    refine IfB.f (by rw [hnext.1, decide_eq_true hnext.2.2.2]; rfl) ?_
    cases hsm : (stp l c b x).2 with
    | none =>
      have e := stp_none hsm
      have hb1 : (stp l c b x).1.2 = b + 1 := by rw [e]
      refine IfB.f rfl (IfB.t rfl (Ld.blk (s := .int .i64) h10 (((stp l c b x).1.2 : Nat) : Int) (by rw [Nat.zero_add]; exact stA_b hl) (IfB.f (by rw [hb1, bne_eq_false_iff_eq]; omega) ?_)))
      refine IfB.f rfl (Ld.arr h10 (stA_size hl) (StA.blk h10.p1 (stA_size hl) (stA_size hl) stA_scalar fun w11 h11 => ⟨⟨k + 1, _, _, by omega, by omega, by rw [hb1]; omega, hnext, h11.p1.drop⟩, by dsimp only; omega⟩))
    | some sy =>
      obtain ⟨d1, d2, d3, d4⟩ := stp_done hl hst hx hsm
      have e := stp_some hsm
      have hb0 : (stp l c b x).1.2 = 0 := by rw [e]
      refine IfB.t rfl (IfB.f (decide_eq_false (by show ¬ ((sy : Int) < 0); omega)) (IfB.f (decide_eq_false (by show ¬ ((sy : Int) ≥ 258); omega)) ?_))
      refine IdxP.rd (s := .int .u8) h10.p2 (by show (0 : Int) ≤ (sy : Int); omega) (by show (sy : Int) < ((258 : Nat) : Int); omega) (l.getD sy 0 : Int) (getN (i := sy) (by omega)) ?_
      rw [d2, i64_id (by omega)]
      refine IfB.f (by rw [bne_eq_false_iff_eq]; omega) (IfB.f rfl (IfB.t rfl (Ld.arr h10 (stA_size hl) (StA.blk h10.p1 (stA_size hl) (stA_size hl) stA_scalar fun w11 h11 => ⟨⟨k + 1, _, _, by omega, by omega, by rw [hb0]; rfl, hnext, h11.p1.drop⟩, by dsimp only; omega⟩))))
theorem tbl_out {l : List Nat} {x : Nat} (hl : l.length = 258) (h : VSt l x 9) : qt l (sh9 l).length x = (0, 0) := by
  have hv : ksum l ≤ 32768 := by rw [(okT_iff.1 h.1).1]; decide
  refine qt_out (fun s hs h0 h9 hin => ?_) _ (Nat.le_refl _)
  have h1 := frm_pos hv h9
  have h2 := pos_next (l := l) (s := s) (by omega) h0
  have h3 := low_mono l (show l.getD s 0 + 1 ≤ 10 by omega)
  have h4 := fst_low l 9 (by decide)
  have h5 := h.2.2.2
  rw [show low l 10 = low l 9 + many l 9 * 2 ^ (15 - 9) from rfl, ← h4] at h3
  simp only [Nat.reduceSub, Nat.reducePow] at h3
  omega
theorem tbl_in {l : List Nat} {x k s : Nat} (hl : l.length = 258) (hv : ksum l ≤ 32768) (hk : k < 9) (hs : s < 258) (h1 : l.getD s 0 = k + 1) (h2 : code l s = x / 2 ^ (8 - k)) : qt l (sh9 l).length x = (s, k + 1) := by
  have hf : frm l s = x / 2 ^ (8 - k) * 2 ^ (8 - k) := by unfold frm; rw [h1, h2, show 9 - (k + 1) = 8 - k by omega]
  have ht : til l s = frm l s + 2 ^ (8 - k) := by unfold til; rw [h1, show 9 - (k + 1) = 8 - k by omega]
  have h3 := Nat.div_mul_le_self x (2 ^ (8 - k))
  have h4 := Nat.lt_div_mul_add (a := x) (b := 2 ^ (8 - k)) (Nat.two_pow_pos _)
  have := qt_in (x := x) hl hv hs (by omega) (by omega) (by omega) (by omega)
  rw [this, h1]
set_option maxRecDepth 20000 in
theorem quick12_law {l : List Nat} {nine : Int} {K : Bool → World → Prop} (h : Hp E w F) (hl : l.length = 258) (h8 : ∀ x ∈ l, x ≤ 255) (hn : 0 ≤ nine) (hK : ∀ w', Hp E w' F → K true w') :
    Cl Try.prog [kB] n_law12_PrefixDecQuick ⟨[.agg (ai .u8 l), .int .u16 nine]⟩ w K := by
  refine law12_PrefixDecQuick.ok _ _ _ _ ?_
  unfold law12_PrefixDecQuick.E
  simp only [Join_eq]
  rw [zeroSt, zeroE]
  have hz : (stA (List.replicate 258 0) 0 0).size = 260 := stA_size List.length_replicate
  refine Nw.mk h fun b4 w1 h1 => Ld.arr h1 (by rw [ai_size, hl]) (rTable_c h1 hl h8 fun w2 h2 => IfB.mk (fun _ => wakes12_c h2 fun w3 h3 => hK _ h3.drop) (fun hv => ?_))
  have hv : okT l = true := by simpa using hv
  have hks : ksum l ≤ 32768 := by rw [(okT_iff.1 hv).1]; decide
  refine Ld.arr h2 (by rw [ai_size, hl]) ?_
  refine quick_c h2 hl (fun hb => absurd hb (by rw [hv]; decide)) fun _ w3 h3 => ?_
  refine Nw.mk h3 fun b15 w4 h4 => StA.blk h4 entA_size entA_size rowI_scalar fun w5 h5 => Ld.arr h5.p1 (by rw [ai_size, hl]) ?_
  refine new_c h5 hl (fun hb => absurd hb (by rw [hv]; decide)) fun _ w6 h6 => ?_
  refine Nw.mk h6 fun b22 w7 h7 => StA.blk h7 hz (stA_size hl) stA_scalar fun w8 h8' => ⟨by decide, ?_⟩
  obtain ⟨x, hx, hxe⟩ : ∃ x : Nat, x < 512 ∧ Int.tmod nine 512 = (x : Int) := ⟨(Int.tmod nine 512).toNat, by rw [Int.tmod_eq_emod_of_nonneg hn]; omega, by rw [Int.tmod_eq_emod_of_nonneg hn]; omega⟩
  rw [hxe]
  refine IdxP.rd2 h8'.p1 rfl hx ?_
  refine Nw.mk h8' fun b27 w9 h9 => StC.blk h9 rfl (by intro v hv; simp only [List.mem_cons, List.not_mem_nil, or_false] at hv; rcases hv with rfl | rfl <;> rfl) fun w10 h10 => ?_
  refine IfB.f (by decide) (IfB.f (by decide) ?_)
  have h10 : Hp E w10 (Blk b27 (.cells ⟨[.int .i64 ((qt l (sh9 l).length x).1 : Int), .int .i64 ((qt l (sh9 l).length x).2 : Int)]⟩ 38 (0, 0)) :: Blk b22 (.cells (stA l 0 0) 26 (0, 0)) :: Blk b15 (.cells (entA 512 (qtI l (sh9 l).length)) 39 (0, 0)) ::
      Blk b4 (.cells (ai .u8 l) 23 (0, 0)) :: F) := h10
  refine ⟨fun i w' => ∃ k : Nat, i = (k : Int) ∧ k ≤ 9 ∧ VSt l (x / 2 ^ (9 - k)) k ∧ Hp E w' (Blk b27 (.cells ⟨[.int .i64 ((qt l (sh9 l).length x).1 : Int), .int .i64 ((qt l (sh9 l).length x).2 : Int)]⟩ 38 (0, 0)) :: Blk b22 (.cells (stA l (x / 2 ^ (9 - k)) k) 26 (0, 0)) ::
      Blk b15 (.cells (entA 512 (qtI l (sh9 l).length)) 39 (0, 0)) :: Blk b4 (.cells (ai .u8 l) 23 (0, 0)) :: F), fun i _ => 9 - i.toNat, ⟨0, rfl, by omega, ?_, ?_⟩, ?_⟩
  · rw [Nat.div_eq_of_lt (by exact hx)]; exact VSt.zero hv
  · rw [Nat.div_eq_of_lt (by exact hx)]; exact h10
  rintro i w11 ⟨k, rfl, hk, hst, hh⟩
  refine IfB.mk (fun hlt => ?_) (fun hge => ?_)
  · have hlt : k < 9 := by have := of_decide_eq_true hlt; omega
    have e8 : u64 (i64 ((8 : Int) - (k : Int))) = ((8 - k : Nat) : Int) := by rw [i64_id (by omega), u64_id (by omega)]; omega
    have hbit : iand .i64 ((x / 2 ^ (8 - k) : Nat) : Int) 1 = ((x / 2 ^ (8 - k) % 2 : Nat) : Int) := by
      have hle := Nat.div_le_self x (2 ^ (8 - k))
      have hm : IntKind.max .i64 = 9223372036854775807 := rfl
      rw [show (1 : Int) = ((1 : Nat) : Int) from rfl, iand_nat (by omega) (by omega), Nat.and_one_is_mod]
    rw [e8, i64_id (x := (x : Int)) (by omega), ishr_nat (by have : IntKind.bits .i64 = 64 := rfl; omega), hbit]
    have hdd : x / 2 ^ (9 - k) = x / 2 ^ (8 - k) / 2 := by rw [Nat.div_div_eq_div_mul, show 9 - k = (8 - k) + 1 by omega, Nat.pow_succ]
    have hnx : 2 * (x / 2 ^ (9 - k)) + x / 2 ^ (8 - k) % 2 = x / 2 ^ (8 - k) := by rw [hdd]; omega
    refine Ld.arr hh.p1 (stA_size hl) ⟨by decide, by omega, ?_⟩
    refine step_c hh hl hst (by omega) fun w12 h12 => ?_
    refine Nw.mk h12 fun b41 w13 h13 => StA.blk h13 hz (stA_size hl) stA_scalar fun w14 h14 => ?_
    have hnext := hst.next (x := x / 2 ^ (8 - k) % 2) (by omega)
    rw [i64_id (x := (k : Int) + 1) (by omega)]
    cases hsm : (stp l (x / 2 ^ (9 - k)) k (x / 2 ^ (8 - k) % 2)).2 with
    | none =>
      have e := stp_none hsm
      rw [e, hnx] at h14 hnext
      refine IfB.f rfl (Ld.arr h14 (stA_size hl) (StA.blk h14.p2 (stA_size hl) (stA_size hl) stA_scalar fun w15 h15 => ⟨⟨k + 1, by omega, by omega, ?_, ?_⟩, by dsimp only; omega⟩))
      · rw [show 9 - (k + 1) = 8 - k by omega]; exact hnext
      · rw [show 9 - (k + 1) = 8 - k by omega]; exact h15.p1.drop.p1
    | some sy =>
      obtain ⟨d1, d2, d3, d4⟩ := stp_done hl hst (by omega) hsm
      rw [hnx] at d3
      have hq := tbl_in hl hks hlt d1 d2 d3
      rw [hq] at h14
      refine IfB.t rfl (Ld.stBlk (ks := [.int .i64, .int .i64]) h14.p1 ((sy : Int), ((k + 1 : Nat) : Int), ()) rfl (IfB.t ?_ (wakes12_c h14 fun w15 h15 => hK _ h15.drop.drop.drop.drop.drop)))
      simp
  · have hge : k = 9 := by have := of_decide_eq_false hge; omega
    subst hge
    have hq := tbl_out hl (by simpa using hst)
    rw [hq] at hh
    exact Ld.stBlk (ks := [.int .i64, .int .i64]) hh ((0 : Int), (0 : Int), ()) rfl (IfB.t (by decide) (wakes12_c hh fun w15 h15 => hK _ h15.drop.drop.drop.drop))
end
end Go.Proofs.Ytajpnkioigcejaa
