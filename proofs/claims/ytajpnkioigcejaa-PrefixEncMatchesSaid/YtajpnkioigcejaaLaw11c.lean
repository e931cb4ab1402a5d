/-
  The law PrefixEncRead of winepresslaw11. Conditions: as each theorem states.
-/
import Derived.Test.YtajpnkioigcejaaLaw11b
namespace Go.Proofs.Ytajpnkioigcejaa
open Go Go.Vc Go.Srt Go.Bits
theorem toNat_ints (out : List Nat) : (ints out).map Int.toNat = out := by
  unfold ints; rw [List.map_map]; exact (List.map_congr_left fun x _ => by simp).trans (List.map_id out)
theorem good_ints {l out : List Nat} (h : ∀ s ∈ out, goodS l s) : allG l (ints out) = true := by
  unfold allG ints
  rw [List.all_eq_true]
  intro z hz
  obtain ⟨s, hs, rfl⟩ := List.mem_map.1 hz
  have := h s hs
  exact goodI_iff.2 ⟨by omega, by have := this.1; omega, by rw [Int.toNat_natCast]; exact this.2⟩
/-- the beginning of what is read is read from the beginning of the bits -/
theorem rdZ_part {l bs out : List Nat} {m p : Nat} (hl : l.length = 258) (h : rdZ l bs (m : Int) = some out) : (enc l (out.take p)).length ≤ m ∧ rdZ l bs ((enc l (out.take p)).length : Int) = some (out.take p) := by
  obtain ⟨hv, hm, hg, he⟩ := rdZ_back h
  have hsplit : enc l out = enc l (out.take p) ++ enc l (out.drop p) := by rw [← enc_app, List.take_append_drop]
  have hlen := congrArg List.length he
  rw [bitsOf_len, hsplit, List.length_append] at hlen
  have hle : (enc l (out.take p)).length ≤ m := by omega
  refine ⟨hle, ?_⟩
  unfold rdZ
  rw [if_pos ⟨hv, by omega, by omega⟩, Int.toNat_natCast, ← bitsOf_take bs hle, he, hsplit, List.take_left' rfl]
  have := rdS_enc hl hv (out.take p) [] [] (fun s hs => hg s (List.mem_of_mem_take hs))
  rw [List.append_nil] at this
  rw [this]; simp [rdS]
theorem rdZ_nn {l bs out : List Nat} {m : Int} (h : rdZ l bs m = some out) : ∃ n : Nat, m = (n : Int) := by
  unfold rdZ at h
  split at h
  · rename_i hc
    exact ⟨m.toNat, by omega⟩
  · cases h
theorem enc_len {l : List Nat} : ∀ {out : List Nat}, (∀ s ∈ out, goodS l s) → out.length ≤ (enc l out).length
  | [], _ => by simp
  | t :: out, h => by
    have := enc_len (out := out) fun s hs => h s (by simp [hs])
    have := (h t (by simp)).2
    rw [enc_cons, List.length_append, encB_len, List.length_cons]; omega
theorem ints_take (out : List Nat) (q : Nat) : (ints out).take q = ints (out.take q) := by unfold ints; rw [List.map_take]
/-- a number brought into a range -/
theorem clamp_nat (p : Int) (n : Nat) : ∃ q : Nat, (if (n : Int) < (if (0 : Int) > p then 0 else p) then (n : Int) else (if (0 : Int) > p then 0 else p)) = (q : Int) ∧ q ≤ n := by
  refine ⟨(if (n : Int) < (if (0 : Int) > p then 0 else p) then (n : Int) else (if (0 : Int) > p then 0 else p)).toNat, ?_, ?_⟩ <;> split <;> split <;> omega
section
variable {E w : World} {F : List HP}
set_option maxRecDepth 20000 in
theorem encRead_law {l : List Nat} {s : Sl} {bs : List Nat} {m p : Int} {K : Bool → World → Prop} (h : Hp E w F) (hl : l.length = 258) (hs : Tells F (SlT 1 s (bs.map vB))) (hb : ∀ y ∈ bs, y < 256) (hK : ∀ w', Hp E w' F → K true w') :
    Cl Try.prog [kB] n_law11_PrefixEncRead ⟨[.agg (ai .u8 l), .slice s.base s.len s.cap, .int .i64 m, .int .i64 p]⟩ w K := by
  refine law11_PrefixEncRead.ok _ _ _ _ _ _ ?_
  unfold law11_PrefixEncRead.E
  simp only [Join_eq]
  have hsl := (h.tells hs).1
  simp only [List.length_map, Nat.mul_one] at hsl
  have hls : (ai .u8 l).size = 258 := by rw [ai_size, hl]
  refine Nw.mk h fun b4 w1 h1 => ?_
  refine IfB.mk (fun _ => wakes11_c h1 fun w2 h2 => hK w2 h2.drop) (fun h100 => ?_)
  have h100 := of_decide_eq_false h100
  refine Ld.arr h1 hls ?_
  refine readE_c (l := l) (s := s) (bs := bs) (many := m) h1 hl (Tells.cons hs) hb (by omega) (fun _ w2 h2 => ?_) (fun out ho s11 w2 h2 => ?_)
  · exact IfB.t (by decide) (IfB.t (by decide) (IfB.t rfl (wakes11_c h2 fun w3 h3 => hK w3 h3.drop)))
  obtain ⟨n, rfl⟩ := rdZ_nn ho
  obtain ⟨hv, hm, hg, he⟩ := rdZ_back ho
  have hlen : (enc l out).length = n := by rw [← he, bitsOf_len]
  have hol := enc_len hg
  refine IfB.f (by decide) ?_
  refine Ld.arr h2.p1 hls ?_
  refine spellE_c (l := l) (s := s11) (zs := ints out) h2 hl Tells.own (by simp only [ints, List.length_map]; omega) (fun hbad => absurd ⟨hv, good_ints hg⟩ hbad) (fun _ _ s17 w3 h3 => ?_)
  have hez : encZ l (ints out) = enc l out := by unfold encZ; rw [toNat_ints]
  rw [hez] at h3 ⊢
  have hol3 := h3.ownLen
  rw [List.length_map, Nat.mul_one, pack_len, hlen] at hol3
  have hol2 := h3.drop.ownLen
  simp only [ints, List.length_map, Nat.mul_one] at hol2
  rw [hlen]
  refine IfB.f (by decide) ?_
  refine IfB.f (by simp) ?_
  refine IfB.f (by rw [decide_eq_false_iff_not]; omega) ?_
  refine IfB.f (by rw [decide_eq_false_iff_not, i64_id (by omega)]; omega) ?_
  refine ⟨by decide, ?_⟩
  have e7 : i64 (Int.tdiv (i64 ((n : Int) + 7)) 8) = (((n + 7) / 8 : Nat) : Int) := by
    rw [i64_id (x := (n : Int) + 7) (by omega)]
    have : Int.tdiv ((n : Int) + 7) 8 = (((n + 7) / 8 : Nat) : Int) := rfl
    rw [this, i64_id (by omega)]
  rw [e7]
  refine IfB.f (by rw [bne_eq_false_iff_eq]; omega) ?_
  refine ⟨fun i w' => Hp E w' (OwnS 1 s17 ((pack (enc l out)).map vB) :: OwnS 1 s11 ((ints out).map vI) :: Blk b4 (.cells (ai .u8 l) 23 (0, 0)) :: F) ∧ 0 ≤ i ∧ i ≤ (n : Int), fun i _ => ((n : Int) - i).toNat, ⟨h3, by omega, by omega⟩, ?_⟩
  rintro i w4 ⟨h4, hi0, hin⟩
  refine IfB.mk (fun hi => ?_) (fun hi => ?_)
  · have hi := of_decide_eq_true hi
    obtain ⟨k, rfl⟩ := Int.eq_ofNat_of_zero_le hi0
    have hk : k < n := by omega
    refine bit_c (h4.tells (Tells.cons (Tells.cons (Tells.cons hs)))) (by omega) hb (by rw [big_eq]; omega) ?_
    refine bit_c (h4.tells Tells.own) (by rw [pack_len, hlen]; omega) (pack_lt (enc_bits l out)) (by rw [pack_len, hlen, big_eq]; omega) ?_
    have hbit : bitAt (pack (enc l out)) k = bitAt bs k := by
      rw [bitAt_pack (enc_bits l out) (by omega), ← he]; simp [bitsOf, List.getD, hk]
    rw [hbit]
    refine IfB.f (by simp) ?_
    rw [i64_id (by omega)]
    exact ⟨⟨h4, by omega, by omega⟩, by dsimp only; omega⟩
  refine Drw.mk h4 fun w5 h5 => ?_
  refine Ld.arr h5.p2 hls ?_
  obtain ⟨q, hq, hqn⟩ := clamp_nat p s11.len
  rw [hq]
  refine Slc.rd (h5.tells (Tells.cons Tells.own)) (by omega) (by omega) (by omega) (by have := h5.drop.ownCap; omega) (by omega) fun s32 hs32 hl32 => ?_
  have hs32' : Tells (OwnS 1 s17 ((pack (enc l out)).map vB) :: OwnS 1 s11 ((ints out).map vI) :: Blk b4 (.cells (ai .u8 l) 23 (0, 0)) :: F) (SlT 1 s32 ((ints (out.take q)).map vI)) := by
    have := (Tells.cons (A := OwnS 1 s17 ((pack (enc l out)).map vB)) (Tells.own (sz := 1) (s := s11) (xs := (ints out).map vI) (F := Blk b4 (.cells (ai .u8 l) 23 (0, 0)) :: F))).imp hs32
    rwa [show (0 : Int).toNat = 0 from rfl, List.drop_zero, Nat.sub_zero, Int.toNat_natCast, ← List.map_take, ints_take] at this
  have hgq : ∀ s ∈ out.take q, goodS l s := fun s hs => hg s (List.mem_of_mem_take hs)
  have hezq : encZ l (ints (out.take q)) = enc l (out.take q) := by unfold encZ; rw [toNat_ints]
  obtain ⟨hle, hrd⟩ := rdZ_part (p := q) hl ho
  refine size_c (l := l) (s := s32) (zs := ints (out.take q)) h5 hl hs32' (by simp only [ints, List.length_map, List.length_take]; omega) (fun hbad => absurd ⟨hv, good_ints hgq⟩ hbad) (fun _ _ w6 h6 => ?_)
  rw [hezq]
  refine Ld.arr h6.p2 hls ?_
  refine readE_c (l := l) (s := s) (bs := bs) (many := ((enc l (out.take q)).length : Int)) h6 hl (Tells.cons (Tells.cons (Tells.cons hs))) hb (by omega) (fun hbad => absurd hbad (by rw [hrd]; simp)) (fun out2 ho2 s38 w7 h7 => ?_)
  obtain rfl : out2 = out.take q := by rw [hrd] at ho2; exact (Option.some.inj ho2).symm
  refine IfB.t (by decide) (IfB.t (by decide) ?_)
  refine Slc.rd (h7.tells (Tells.cons (Tells.cons Tells.own))) (by omega) (by omega) (by omega) (by have := h5.drop.ownCap; omega) (by omega) fun s40 hs40 hl40 => ?_
  have hs40' : Tells (OwnS 1 s38 ((ints (out.take q)).map vI) :: OwnS 1 s17 ((pack (enc l out)).map vB) :: OwnS 1 s11 ((ints out).map vI) :: Blk b4 (.cells (ai .u8 l) 23 (0, 0)) :: F) (SlT 1 s40 ((ints (out.take q)).map vI)) := by
    have := (Tells.cons (A := OwnS 1 s38 ((ints (out.take q)).map vI)) (Tells.cons (A := OwnS 1 s17 ((pack (enc l out)).map vB)) (Tells.own (sz := 1) (s := s11) (xs := (ints out).map vI) (F := Blk b4 (.cells (ai .u8 l) 23 (0, 0)) :: F)))).imp hs40
    rwa [show (0 : Int).toNat = 0 from rfl, List.drop_zero, Nat.sub_zero, Int.toNat_natCast, ← List.map_take, ints_take] at this
  refine ints_c (s := s38) (s2 := s40) (a := ints (out.take q)) (b := ints (out.take q)) h7 Tells.own hs40' (by simp only [ints, List.length_map, List.length_take, big_eq]; omega) fun w8 h8 => ?_
  exact IfB.t (by simp) (wakes11_c h8 fun w9 h9 => hK w9 h9.drop.drop.drop.drop)
end
end Go.Proofs.Ytajpnkioigcejaa
