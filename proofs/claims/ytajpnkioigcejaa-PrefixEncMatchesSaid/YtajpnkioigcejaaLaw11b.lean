/-
  The law PrefixEncBack of winepresslaw11. Conditions: as each theorem states.
-/
import Derived.Test.YtajpnkioigcejaaLaw11
namespace Go.Proofs.Ytajpnkioigcejaa
open Go Go.Vc Go.Srt Go.Bits
theorem ints_toNat {l : List Nat} {zs : List Int} (hg : allG l zs = true) : ints (zs.map Int.toNat) = zs := by
  unfold ints
  rw [List.map_map]
  refine (List.map_congr_left fun z hz => ?_).trans (List.map_id zs)
  obtain ⟨h1, h2, h3⟩ := goodI_iff.1 (allG_mem hg hz)
  show ((z.toNat : Nat) : Int) = z
  omega
theorem rdZ_enc {l : List Nat} {zs : List Int} (hl : l.length = 258) (hv : ksum l ≤ 32768) (hg : allG l zs = true) : rdZ l (pack (encZ l zs)) ((encZ l zs).length : Int) = some (zs.map Int.toNat) := by
  have hp := pack_len (encZ l zs)
  unfold rdZ
  rw [if_pos ⟨hv, by omega, by rw [hp]; omega⟩, Int.toNat_natCast, bitsOf_pack (encZ_bits l zs)]
  have := rdS_enc hl hv (zs.map Int.toNat) [] [] (allG_good hg)
  rw [List.append_nil] at this
  unfold encZ
  rw [this]; simp [rdS]
/-- what Read says is spelled by just those bits -/
theorem rdZ_back {l bs : List Nat} {m : Nat} {out : List Nat} (h : rdZ l bs (m : Int) = some out) : ksum l ≤ 32768 ∧ m ≤ 8 * bs.length ∧ (∀ s ∈ out, goodS l s) ∧ bitsOf bs m = enc l out := by
  unfold rdZ at h
  split at h
  · rename_i hc
    rw [Int.toNat_natCast] at h
    obtain ⟨ss, h1, h2, h3⟩ := rdS_back _ _ _ _ _ (bitsOf_bits bs m) h
    have h1 : out = ss := by simpa using h1
    subst h1
    exact ⟨hc.1, by omega, h2, by simpa [bn] using h3⟩
  · cases h
section
variable {E w : World} {F : List HP}
set_option maxRecDepth 20000 in
theorem encBack_law {l : List Nat} {s : Sl} {zs : List Int} {K : Bool → World → Prop} (h : Hp E w F) (hl : l.length = 258) (hs : Tells F (SlT 1 s (zs.map vI))) (hK : ∀ w', Hp E w' F → K true w') :
    Cl Try.prog [kB] n_law11_PrefixEncBack ⟨[.agg (ai .u8 l), .slice s.base s.len s.cap]⟩ w K := by
  refine law11_PrefixEncBack.ok _ _ _ _ ?_
  unfold law11_PrefixEncBack.E
  simp only [Join_eq]
  have hsl := (h.tells hs).1
  simp only [List.length_map, Nat.mul_one] at hsl
  have hls : (ai .u8 l).size = 258 := by rw [ai_size, hl]
  refine Nw.mk h fun b4 w1 h1 => ?_
  refine IfB.mk (fun _ => wakes11_c h1 fun w2 h2 => hK w2 h2.drop) (fun h100 => ?_)
  have h100 := of_decide_eq_false h100
  refine Ld.arr h1 hls ?_
  refine spellE_c (l := l) (s := s) (zs := zs) h1 hl (Tells.cons hs) (by omega) (fun _ w2 h2 => ?_) (fun hv hg s9 w2 h2 => ?_)
  · exact IfB.t (by decide) (IfB.t (by decide) (IfB.t rfl (IfB.t (by decide) (wakes11_c h2 fun w3 h3 => hK w3 h3.drop))))
  refine IfB.f (by decide) ?_
  have hpl := pack_len (encZ l zs)
  have hle := encZ_le hv zs
  have hol := h2.ownLen
  rw [List.length_map, Nat.mul_one, hpl] at hol
  refine Ld.arr h2.p1 hls ?_
  refine readE_c (l := l) (s := s9) (bs := pack (encZ l zs)) (many := ((encZ l zs).length : Int)) h2 hl Tells.own (pack_lt (encZ_bits l zs)) (by omega) (fun hb => absurd hb (by rw [rdZ_enc hl hv hg]; simp)) (fun out ho s16 w3 h3 => ?_)
  obtain rfl : out = zs.map Int.toNat := by rw [rdZ_enc hl hv hg] at ho; exact (Option.some.inj ho).symm
  rw [ints_toNat hg] at h3
  refine IfB.f (by decide) ?_
  refine ints_c (s := s16) (s2 := s) (a := zs) (b := zs) h3 Tells.own (Tells.cons (Tells.cons (Tells.cons hs))) (by rw [big_eq]; omega) fun w4 h4 => ?_
  refine IfB.f (by simp) ⟨by decide, ?_⟩
  have e7 : i64 (Int.tdiv (i64 (((encZ l zs).length : Int) + 7)) 8) = ((((encZ l zs).length + 7) / 8 : Nat) : Int) := by
    rw [i64_id (x := ((encZ l zs).length : Int) + 7) (by omega)]
    have : Int.tdiv (((encZ l zs).length : Int) + 7) 8 = ((((encZ l zs).length + 7) / 8 : Nat) : Int) := rfl
    rw [this, i64_id (by omega)]
  rw [e7]
  refine IfB.f (by rw [bne_eq_false_iff_eq]; omega) ?_
  refine IfB.mk (fun h0 => ?_) (fun h0 => ?_)
  · have h0 : (encZ l zs).length = 0 := by rw [beq_iff_eq] at h0; omega
    have hz : zs = [] := by
      cases zs with
      | nil => rfl
      | cons z zs =>
        exfalso
        obtain ⟨g1, g2, g3⟩ := goodI_iff.1 (allG_mem hg (List.mem_cons_self ..))
        unfold encZ at h0
        rw [List.map_cons, enc_cons, List.length_append, encB_len] at h0
        omega
    subst hz
    simp only [List.length_nil] at hsl
    refine IfB.t (by rw [← hsl]; decide) (wakes11_c h4 fun w5 h5 => hK w5 h5.drop.drop.drop)
  · have h0 : (encZ l zs).length ≠ 0 := by have := beq_eq_false_iff_ne.1 h0; omega
    refine Ld.arr h4.p2 hls ?_
    rw [i64_id (x := ((encZ l zs).length : Int) - 1) (by omega), show ((encZ l zs).length : Int) - 1 = (((encZ l zs).length - 1 : Nat) : Int) by omega]
    refine readE_c (l := l) (s := s9) (bs := pack (encZ l zs)) (many := (((encZ l zs).length - 1 : Nat) : Int)) h4 hl (Tells.cons Tells.own) (pack_lt (encZ_bits l zs)) (by omega) (fun _ w5 h5 => ?_) (fun out ho s26 w5 h5 => ?_)
    · exact IfB.t (by decide) (wakes11_c h5 fun w6 h6 => hK w6 h6.drop.drop.drop)
    refine IfB.f (by decide) ?_
    refine ints_c (s := s26) (s2 := s) (a := ints out) (b := zs) h5 Tells.own (Tells.cons (Tells.cons (Tells.cons (Tells.cons hs)))) ?_ fun w6 h6 => ?_
    · obtain ⟨_, _, h7, h8⟩ := rdZ_back ho
      have : out.length ≤ (enc l out).length := by
        clear ho h5 h8
        induction out with
        | nil => simp
        | cons t out ih =>
          have := ih (fun s hs => h7 s (by simp [hs]))
          have := (h7 t (by simp)).2
          rw [enc_cons, List.length_append, encB_len, List.length_cons]; omega
      rw [← h8, bitsOf_len] at this
      simp only [ints, List.length_map, big_eq]; omega
    have hne : (ints out == zs) = false := by
      rw [beq_eq_false_iff_ne]
      rintro rfl
      obtain ⟨_, _, _, h8⟩ := rdZ_back ho
      have h9 := congrArg List.length h8
      rw [bitsOf_len] at h9
      have : (ints out).map Int.toNat = out := by
        unfold ints; rw [List.map_map]; exact (List.map_congr_left fun x _ => by simp).trans (List.map_id out)
      unfold encZ at h9 h0
      rw [this] at h9 h0
      omega
    rw [hne]
    exact IfB.t rfl (wakes11_c h6 fun w7 h7 => hK w7 h7.drop.drop.drop.drop)
end
end Go.Proofs.Ytajpnkioigcejaa
