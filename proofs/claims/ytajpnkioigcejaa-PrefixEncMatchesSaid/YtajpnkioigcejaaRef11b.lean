/-
  What Bytes, Size, Spell and Read of the reference winepressref11 compute. Conditions: as each theorem states.
-/
import Derived.Test.YtajpnkioigcejaaRef11
namespace Go.Srt
theorem packTo_zero (b : List Nat) (m : Nat) : packTo (b ++ [0]) m = packTo b m := by
  unfold packTo
  refine List.map_congr_left fun j _ => ?_
  rw [by8_snoc]; split <;> simp
end Go.Srt
namespace Go.Proofs.Ytajpnkioigcejaa
open Go Go.Vc Go.Srt Go.Bits
section
variable {E w : World} {F : List HP}
set_option maxRecDepth 20000 in
theorem rBytes_c {s : Sl} {bits : List Nat} {K : Sl → World → Prop} (h : Hp E w F) (hs : Tells F (SlT 1 s ((ints bits).map vI))) (hb : Srt.Bits bits) (hn : bits.length ≤ 4000000) (hK : ∀ s' w', Hp E w' (OwnS 1 s' ((pack bits).map vB) :: F) → K s' w') :
    Cl Try.prog [kS] n_ref11_Bytes ⟨[.slice s.base s.len s.cap]⟩ w K := by
  refine ref11_Bytes.ok _ _ _ ?_
  unfold ref11_Bytes.E
  have hsl := (h.tells hs).1
  simp only [ints, List.length_map, Nat.mul_one] at hsl
  have eN : i64 (Int.tdiv (i64 ((s.len : Int) + 7)) 8) = (((bits.length + 7) / 8 : Nat) : Int) := by
    rw [i64_id (x := (s.len : Int) + 7) (by omega), ← hsl]
    have : Int.tdiv ((bits.length : Int) + 7) 8 = (((bits.length + 7) / 8 : Nat) : Int) := rfl
    rw [this, i64_id (by omega)]
  rw [eN]
  refine ⟨by decide, run_mk1 (by kernel_rfl) infoB rfl (by omega) (by decide) h fun s3 w1 hl3 h1 => ?_⟩
  refine ⟨fun i w' => ∃ k : Nat, i = (k : Int) ∧ k ≤ bits.length ∧ Hp E w' (OwnS 1 s3 ((packTo (bits.take k) ((bits.length + 7) / 8)).map vB) :: F), fun i _ => bits.length - i.toNat, ⟨0, rfl, by omega, ?_⟩, ?_⟩
  · rw [List.take_zero, packTo_nil, List.map_replicate]; exact h1
  rintro i w2 ⟨k, rfl, hk, hh⟩
  refine IfB.mk (fun hlt => ?_) (fun hge => ?_)
  · have hlt : k < bits.length := by have := of_decide_eq_true hlt; omega
    have hx := hb _ (List.getElem_mem hlt)
    have ht : bits.take (k + 1) = bits.take k ++ [bits[k]] := by rw [List.take_add_one, List.getElem?_eq_getElem hlt]; rfl
    have hkl : (bits.take k).length = k := by rw [List.length_take]; omega
    rw [i64_id (x := (k : Int) + 1) (by omega)]
    refine Idx.rd (hh.tells (Tells.cons hs)) (by omega) (by omega) fun q hq hc => Ld.sc (s := .int .i64) (bits[k] : Int) (by rw [hc]; simp [ints, vI, Sc.enc]) ?_
    refine IfB.mk (fun h1 => ?_) (fun h0 => ?_)
    · have h1 : bits[k] = 1 := by rw [beq_iff_eq] at h1; omega
      have e8 : i64 (Int.tdiv (k : Int) 8) = ((k / 8 : Nat) : Int) := by
        have : Int.tdiv (k : Int) 8 = ((k / 8 : Nat) : Int) := rfl
        rw [this, i64_id (by omega)]
      have m8 : u64 (Int.tmod (k : Int) 8) = ((k % 8 : Nat) : Int) := by
        have : Int.tmod (k : Int) 8 = ((k % 8 : Nat) : Int) := rfl
        rw [this, u64_id (by omega)]
      have hj : k / 8 < (bits.length + 7) / 8 := by omega
      have hbt : Srt.Bits (bits.take k) := fun y hy => hb y (List.mem_of_mem_take hy)
      rw [e8, m8]
      refine ⟨by decide, by decide, Idx.rd (hh.tells Tells.own) (by omega) (by omega) fun q2 hq2 hc2 => Ld.sc (s := .int .u8) (by8 (bits.take k) (k / 8) : Int) ?_ ⟨by decide, by omega, ?_⟩⟩
      · rw [hc2, List.getElem_map]
        have := packTo_get (b := bits.take k) (m := (bits.length + 7) / 8) (j := k / 8) hj
        rw [getD_get (by rw [packTo_len]; exact hj)] at this
        simp only [Int.toNat_natCast]
        rw [this]; rfl
      have hnew := by8_lt (hbt.app (one_bit (x := 1) (by decide))) (k / 8)
      rw [by8_snoc, hkl, if_pos rfl] at hnew
      have e128 : ishr .u8 128 ((k % 8 : Nat) : Int) = ((2 ^ (7 - k % 8) : Nat) : Int) := by
        rw [show (128 : Int) = ((128 : Nat) : Int) from rfl, ishr_nat (by have : IntKind.bits .u8 = 8 := rfl; omega)]
        congr 1
        have : (2 : Nat) ^ 7 = 128 := by decide
        rw [← this, Nat.pow_div (by omega) (by decide)]
      rw [e128, u8_id (by omega)]
      refine St.own hh (by omega) (by omega) rfl fun w3 h3 => ⟨⟨k + 1, by omega, by omega, ?_⟩, by dsimp only; omega⟩
      rw [ht, h1, packTo_snoc _ _ _ (by rw [hkl]; exact hj), hkl, Nat.one_mul]
      have : ((packTo (bits.take k) ((bits.length + 7) / 8)).set (k / 8) (by8 (bits.take k) (k / 8) + 2 ^ (7 - k % 8))).map vB = ((packTo (bits.take k) ((bits.length + 7) / 8)).map vB).set ((k / 8 : Nat) : Int).toNat (.int .u8 ((by8 (bits.take k) (k / 8) : Int) + ((2 ^ (7 - k % 8) : Nat) : Int))) := by
        rw [Int.toNat_natCast, List.map_set]; rfl
      rw [this]; exact h3
    · have h0 : bits[k] = 0 := by have := beq_eq_false_iff_ne.1 h0; omega
      refine ⟨⟨k + 1, by omega, by omega, ?_⟩, by dsimp only; omega⟩
      rw [ht, h0, packTo_zero]; exact hh
  · have hge : k = bits.length := by have := of_decide_eq_false hge; omega
    subst hge
    rw [List.take_length] at hh
    exact hK _ _ hh
theorem encZ_bits (l : List Nat) (zs : List Int) : Srt.Bits (encZ l zs) := enc_bits l _
theorem rSize11_c {l : List Nat} {s : Sl} {zs : List Int} {K : Int → Int → World → Prop} (h : Hp E w F) (hl : l.length = 258) (h8 : ∀ x ∈ l, x ≤ 255) (hs : Tells F (SlT 1 s (zs.map vI))) (hn : zs.length ≤ 100000)
    (hK1 : ¬ (ksum l ≤ 32768 ∧ allG l zs = true) → ∀ w', Hp E w' F → K 0 2 w') (hK2 : ksum l ≤ 32768 → allG l zs = true → ∀ w', Hp E w' F → K ((encZ l zs).length : Int) 0 w') :
    Cl Try.prog [kI, kI] n_ref11_Size ⟨[.agg (ai .u8 l), .slice s.base s.len s.cap]⟩ w K := by
  refine ref11_Size.ok _ _ _ _ ?_
  unfold ref11_Size.E
  refine Nw.mk h fun b4 w1 h1 => ?_
  refine Ld.arr h1 (by rw [ai_size, hl]) ?_
  refine rBits_c (l := l) (zs := zs) h1 hl h8 (Tells.cons hs) hn (fun hb w2 h2 => ?_) (fun hv hg s' w2 h2 => ?_)
  · exact IfB.t rfl (hK1 hb w2 h2.drop)
  refine IfB.f rfl ?_
  have hol := h2.ownLen
  rw [List.length_map, ints, List.length_map, Nat.mul_one] at hol
  rw [← hol]
  exact hK2 hv hg w2 h2.drop.drop
theorem rSpell11_c {l : List Nat} {s : Sl} {zs : List Int} {K : Sl → Int → Int → World → Prop} (h : Hp E w F) (hl : l.length = 258) (h8 : ∀ x ∈ l, x ≤ 255) (hs : Tells F (SlT 1 s (zs.map vI))) (hn : zs.length ≤ 100000)
    (hK1 : ¬ (ksum l ≤ 32768 ∧ allG l zs = true) → ∀ w', Hp E w' F → K ⟨none, 0, 0⟩ 0 2 w') (hK2 : ksum l ≤ 32768 → allG l zs = true → ∀ s' w', Hp E w' (OwnS 1 s' ((pack (encZ l zs)).map vB) :: F) → K s' ((encZ l zs).length : Int) 0 w') :
    Cl Try.prog [kS, kI, kI] n_ref11_Spell ⟨[.agg (ai .u8 l), .slice s.base s.len s.cap]⟩ w K := by
  refine ref11_Spell.ok _ _ _ _ ?_
  unfold ref11_Spell.E
  refine Nw.mk h fun b4 w1 h1 => ?_
  refine Ld.arr h1 (by rw [ai_size, hl]) ?_
  refine rBits_c (l := l) (zs := zs) h1 hl h8 (Tells.cons hs) hn (fun hb w2 h2 => ?_) (fun hv hg s' w2 h2 => ?_)
  · exact IfB.t rfl (hK1 hb w2 h2.drop)
  refine IfB.f rfl ?_
  have hol := h2.ownLen
  rw [List.length_map, ints, List.length_map, Nat.mul_one] at hol
  have hle := encZ_le hv zs
  refine rBytes_c (s := s') (bits := encZ l zs) h2 Tells.own (encZ_bits l zs) (by omega) fun s2 w3 h3 => ?_
  rw [← hol]
  exact hK2 hv hg s2 w3 h3.p1.drop.p1.drop
end
end Go.Proofs.Ytajpnkioigcejaa
