/-
  The law PrefixEncMatches of winepresslaw11. Conditions: as each theorem states.
-/
import Derived.Test.YtajpnkioigcejaaLaw11d
namespace Go.Proofs.Ytajpnkioigcejaa
open Go Go.Vc Go.Srt Go.Bits
theorem bitsOf_bn {b : List Nat} {k : Nat} : bitsOf b (k + 1) = bitsOf b k ++ bn 1 (bitAt b k) := by
  have h1 : bn 1 (bitAt b k) = [bitAt b k] := by
    have := bitAt_lt b k
    show bn 0 _ ++ [bitAt b k % 2] = _
    rw [Nat.mod_eq_of_lt this]; rfl
  rw [h1]
  simp [bitsOf, List.range_succ]
section
variable {E w : World} {F : List HP}
set_option maxRecDepth 20000 in
theorem encMatches_law {l : List Nat} {s sb sa : Sl} {zs : List Int} {bs ab : List Nat} {many first : Int} {K : Bool → World → Prop} (h : Hp E w F) (hl : l.length = 258) (h8 : ∀ x ∈ l, x ≤ 255) (hs : Tells F (SlT 1 s (zs.map vI))) (hsb : Tells F (SlT 1 sb (bs.map vB))) (hb : ∀ y ∈ bs, y < 256)
    (hsa : Tells F (SlT 1 sa (ab.map vB))) (ha : ∀ y ∈ ab, y < 256) (hK : ∀ w', Hp E w' F → K true w') :
    Cl Try.prog [kB] n_law11_PrefixEncMatches ⟨[.agg (ai .u8 l), .slice s.base s.len s.cap, .slice sb.base sb.len sb.cap, .int .i64 many, .slice sa.base sa.len sa.cap, .int .i64 first]⟩ w K := by
  refine law11_PrefixEncMatches.ok _ _ _ _ _ _ _ _ ?_
  unfold law11_PrefixEncMatches.E
  simp only [Join_eq]
  have hsl := (h.tells hs).1
  have hsbl := (h.tells hsb).1
  have hsal := (h.tells hsa).1
  simp only [List.length_map, Nat.mul_one] at hsl hsbl hsal
  have hls : (ai .u8 l).size = 258 := by rw [ai_size, hl]
  refine Nw.mk h fun b8 w1 h1 => ?_
  refine IfB.mk (fun _ => wakes11_c h1 fun w2 h2 => hK w2 h2.drop) (fun g1 => ?_)
  refine IfB.mk (fun _ => wakes11_c h1 fun w2 h2 => hK w2 h2.drop) (fun g2 => ?_)
  refine IfB.mk (fun _ => wakes11_c h1 fun w2 h2 => hK w2 h2.drop) (fun g3 => ?_)
  refine IfB.mk (fun _ => wakes11_c h1 fun w2 h2 => hK w2 h2.drop) (fun g4 => ?_)
  refine IfB.mk (fun _ => wakes11_c h1 fun w2 h2 => hK w2 h2.drop) (fun g5 => ?_)
  have g1 := of_decide_eq_false g1
  have g2 := of_decide_eq_false g2
  have g3 := of_decide_eq_false g3
  have g4 := of_decide_eq_false g4
  have g5 := of_decide_eq_false g5
  rw [i64_id (by omega)] at g5
  obtain ⟨f, rfl⟩ := Int.eq_ofNat_of_zero_le (show 0 ≤ first by omega)
  have hzle := ezZ_le l zs
  refine Ld.arr h1 hls ?_
  refine spell1 (l := l) (s := s) (zs := zs) h1 hl (Tells.cons hs) (by omega) (fun s23 w2 h2 => ?_)
  refine Ld.arr h2.p1 hls ?_
  refine rSpell1 (l := l) (s := s) (zs := zs) h2 hl h8 (Tells.cons (Tells.cons hs)) (by omega) (fun s28 w3 h3 => ?_)
  have h3 := h3.q2
  refine Ld.arr h3.p1 hls ?_
  refine size1 (l := l) (s := s) (zs := zs) h3 hl (Tells.cons (Tells.cons (Tells.cons hs))) (by omega) (fun w4 h4 => ?_)
  refine Ld.arr h4.p1 hls ?_
  refine rSize1 (l := l) (s := s) (zs := zs) h4 hl h8 (Tells.cons (Tells.cons (Tells.cons hs))) (by omega) (fun w5 h5 => ?_)
  refine Ld.arr h5.p1 hls ?_
  refine read1 (l := l) (s := sb) (bs := bs) (many := many) h5 hl (Tells.cons (Tells.cons (Tells.cons hsb))) hb (by omega) (fun s41 w6 h6 => ?_)
  refine Ld.arr h6.p2 hls ?_
  refine rRead1 (l := l) (s := sb) (bs := bs) (many := many) h6 hl h8 (Tells.cons (Tells.cons (Tells.cons (Tells.cons hsb)))) hb (by omega) (fun s45 w7 h7 => ?_)
  refine run_toStr (s := s23) (b := pack (ezZ l zs)) (e := 5) (by kernel_rfl) (by kernel_rfl) (by kernel_rfl) (h7.tells (Tells.cons (Tells.cons Tells.own))) ?_
  refine run_toStr (s := s28) (b := pack (ezZ l zs)) (e := 5) (by kernel_rfl) (by kernel_rfl) (by kernel_rfl) (h7.tells (Tells.cons (Tells.cons (Tells.cons (Tells.cons Tells.own))))) ?_
  refine IfB.f (by simp) (IfB.f (by simp) (IfB.f (by simp) (IfB.f (by simp) (IfB.f (by simp) ?_))))
  have hrl : ((rdZ l bs many).getD []).length ≤ 800 := by
    cases hr : rdZ l bs many with
    | none => simp
    | some out =>
      obtain ⟨n, rfl⟩ := rdZ_nn hr
      obtain ⟨_, hm, hg, he⟩ := rdZ_back hr
      have := enc_len hg
      rw [← he, bitsOf_len] at this
      simp only [Option.getD_some]; omega
  refine ints_c (s := s41) (s2 := s45) (a := ints ((rdZ l bs many).getD [])) (b := ints ((rdZ l bs many).getD [])) h7 (Tells.cons Tells.own) Tells.own (by simp only [ints, List.length_map, big_eq]; omega) fun w8 h8' => ?_
  refine IfB.f (by simp) (IfB.f (by simp) ?_)
  refine newW_c h8' fun bw w9 h9 => IfB.f rfl ?_
  have h9 := h9.q2.drop.drop
  refine ⟨fun o i w' => ∃ k : Nat, i = (k : Int) ∧ k ≤ f ∧ Hp E w' (OwnS 1 o ((ints (bitsOf ab k)).map vI) :: Wr bw (bitsOf ab k) :: OwnS 1 s23 ((pack (ezZ l zs)).map vB) :: Blk b8 (.cells (ai .u8 l) 23 (0, 0)) :: OwnS 1 s28 ((pack (ezZ l zs)).map vB) :: F), fun _ i _ => f - i.toNat, ?_, ?_⟩
  · exact ⟨0, rfl, by omega, h9.ownNil 1⟩
  rintro o i w10 ⟨k, rfl, hk, hh⟩
  refine IfB.mk (fun hlt => ?_) (fun hge => ?_)
  · have hlt : k < f := by have := of_decide_eq_true hlt; omega
    refine bit_c (hh.tells (Tells.cons (Tells.cons (Tells.cons (Tells.cons (Tells.cons hsa)))))) (by omega) ha (by rw [big_eq]; omega) ?_
    have hb1 := bitAt_lt ab k
    rw [u32_id (by omega)]
    refine putW_c (v := bitAt ab k) (width := 1) hh.p1 (by decide) (by omega) (by omega) (by rw [bitsOf_len, big_eq]; omega) fun w11 h11 => ?_
    have hol := h11.drop.ownLen
    rw [List.length_map, ints, List.length_map, bitsOf_len, Nat.mul_one] at hol
    refine Nw.mk h11 fun b67 w12 h12 => run_append (ys := [vI (bitAt ab k : Int)]) (n := 1) ty_ints (by decide) (.inl ⟨3, by kernel_rfl⟩) h12.p2 (.inl ⟨some ⟨b67, 0, none⟩, 1, 1, rfl, rfl, h12.tells (Tells.blk rfl rfl)⟩) rfl one_scalar (by omega) (by omega) fun s69 w13 h13 _ => ?_
    have h13 := h13.p1.drop
    refine ⟨⟨k + 1, by rw [i64_id (by omega)]; omega, by omega, ?_⟩, by dsimp only; rw [i64_id (by omega)]; omega⟩
    rw [bitsOf_bn, ints_app, List.map_append]
    have h1 : bn 1 (bitAt ab k) = [bitAt ab k] := by
      show bn 0 _ ++ [bitAt ab k % 2] = _
      rw [Nat.mod_eq_of_lt hb1]; rfl
    rw [h1] at h13 ⊢
    exact h13
  have hge : k = f := by have := of_decide_eq_false hge; omega
  subst hge
  refine Ld.arr hh.p3 hls ?_
  refine put1 (l := l) (s := s) (zs := zs) hh.p1 hl (Tells.cons (Tells.cons (Tells.cons (Tells.cons hs)))) (by omega) (by rw [bitsOf_len]; omega) fun w11 h11 => ?_
  refine Ld.arr h11.p3 hls ?_
  refine rBits1 (l := l) (s := s) (zs := zs) h11 hl h8 (Tells.cons (Tells.cons (Tells.cons (Tells.cons (Tells.cons hs))))) (by omega) fun s75 w12 h12 => ?_
  have hol := h12.p2.ownLen
  have hol2 := h12.ownLen
  rw [List.length_map, ints, List.length_map, bitsOf_len, Nat.mul_one] at hol
  rw [List.length_map, ints, List.length_map, Nat.mul_one] at hol2
  refine run_append (ys := (ints (ezZ l zs)).map vI) (n := (ezZ l zs).length) ty_ints (by decide) (.inl ⟨3, by kernel_rfl⟩) h12.p2 (.inl ⟨s75.base, s75.len, s75.cap, rfl, hol2, h12.tells Tells.own⟩) (by simp [ints]) vI_scalar (by omega) (by omega) fun s78 w13 h13 h78 => ?_
  rw [← List.map_append, ← ints_app] at h13
  have h13 := h13.p1.drop.p1
  have hXb : Srt.Bits (bitsOf ab k ++ ezZ l zs) := (bitsOf_bits ab k).app (ezZ_bits l zs)
  have hXl : (bitsOf ab k ++ ezZ l zs).length = s78.len := by rw [List.length_append, bitsOf_len, h78]; omega
  have hX4 : (bitsOf ab k ++ ezZ l zs).length ≤ 4000000 := by rw [List.length_append, bitsOf_len]; omega
  generalize bitsOf ab k ++ ezZ l zs = X at h13 hXb hXl hX4
  refine ⟨HasF E _, HasF.mk h13.drew, ?_⟩
  refine IfB.t (by simp) ?_
  refine lenW_c (h13.drew (n := w13.drawn + 1)) fun w14 h14 => ⟨HasF.mk h14, IfB.t (by rw [hXl]; simp) ?_⟩
  have fin : ∀ {w' : World} {A B : HP}, Hp E w' (A :: B :: Wr bw X :: OwnS 1 s78 ((ints X).map vI) :: OwnS 1 s23 ((pack (ezZ l zs)).map vB) :: Blk b8 (.cells (ai .u8 l) 23 (0, 0)) :: OwnS 1 s28 ((pack (ezZ l zs)).map vB) :: F) → Cl Try.prog [kB] n_law11_wakes ⟨[]⟩ w' (fun r w'' => HasF E (Wr bw X :: OwnS 1 s78 ((ints X).map vI) :: OwnS 1 s23 ((pack (ezZ l zs)).map vB) :: Blk b8 (.cells (ai .u8 l) 23 (0, 0)) :: OwnS 1 s28 ((pack (ezZ l zs)).map vB) :: F) w'' ∧ K r w'') :=
    fun h' => wakes11_c h' fun w'' h'' => ⟨HasF.mk2 h'', hK _ h''.drop.drop.drop.drop.drop.drop.drop⟩
  refine bytesW_c h14 fun s84 w15 h15 => ⟨HasF.mk1 h15, ?_, ?_⟩
  · refine run_toStr (s := s84) (b := pack X) (e := 5) (by kernel_rfl) (by kernel_rfl) (by kernel_rfl) (h15.tells Tells.own) ⟨HasF.mk1 h15, ?_⟩
    refine rBytes_c (s := s78) (bits := X) h15 (Tells.cons (Tells.cons Tells.own)) hXb hX4 fun s88 w16 h16 => ⟨HasF.mk2 h16, ?_⟩
    refine run_toStr (s := s88) (b := pack X) (e := 5) (by kernel_rfl) (by kernel_rfl) (by kernel_rfl) (h16.tells Tells.own) ⟨HasF.mk2 h16, IfB.t (by simp) (fin h16)⟩
  · refine rBytes_c (s := s78) (bits := X) h15 (Tells.cons (Tells.cons Tells.own)) hXb hX4 fun s88 w16 h16 => ⟨HasF.mk2 h16, ?_, ?_⟩
    · refine run_toStr (s := s84) (b := pack X) (e := 5) (by kernel_rfl) (by kernel_rfl) (by kernel_rfl) (h16.tells (Tells.cons Tells.own)) ⟨HasF.mk2 h16, ?_⟩
      exact run_toStr (s := s88) (b := pack X) (e := 5) (by kernel_rfl) (by kernel_rfl) (by kernel_rfl) (h16.tells Tells.own) ⟨HasF.mk2 h16, IfB.t (by simp) (fin h16)⟩
    · refine run_toStr (s := s88) (b := pack X) (e := 5) (by kernel_rfl) (by kernel_rfl) (by kernel_rfl) (h16.tells Tells.own) ⟨HasF.mk2 h16, ?_⟩
      exact run_toStr (s := s84) (b := pack X) (e := 5) (by kernel_rfl) (by kernel_rfl) (by kernel_rfl) (h16.tells (Tells.cons Tells.own)) ⟨HasF.mk2 h16, IfB.t (by simp) (fin h16)⟩
end
end Go.Proofs.Ytajpnkioigcejaa
