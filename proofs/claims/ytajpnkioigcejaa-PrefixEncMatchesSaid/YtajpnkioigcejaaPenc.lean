/-
  What prefixenc.Size, Put and Spell compute. Conditions: as each theorem states.
-/
import Derived.Test.YtajpnkioigcejaaWr
import Derived.Test.YtajpnkioigcejaaOrd
import Derived.Test.YtajpnkioigcejaaTbl
namespace Go.Srt
/-- a number that is a symbol with a code -/
def goodI (l : List Nat) (z : Int) : Bool := decide (0 ≤ z) && decide (z < 258) && decide (0 < l.getD z.toNat 0)
def allG (l : List Nat) (zs : List Int) : Bool := zs.all (goodI l)
def encZ (l : List Nat) (zs : List Int) : List Nat := enc l (zs.map Int.toNat)
theorem goodI_iff {l : List Nat} {z : Int} : goodI l z = true ↔ 0 ≤ z ∧ z < 258 ∧ 0 < l.getD z.toNat 0 := by simp [goodI, and_assoc]
theorem allG_mem {l : List Nat} {zs : List Int} (h : allG l zs = true) {z : Int} (hz : z ∈ zs) : goodI l z = true := List.all_eq_true.1 h z hz
theorem allG_good {l : List Nat} {zs : List Int} (h : allG l zs = true) : ∀ s ∈ zs.map Int.toNat, goodS l s := fun s hs => by
  obtain ⟨z, hz, rfl⟩ := List.mem_map.1 hs
  obtain ⟨h1, h2, h3⟩ := goodI_iff.1 (allG_mem h hz)
  exact ⟨by omega, h3⟩
theorem allG_not {l : List Nat} {zs : List Int} {k : Nat} (hk : k < zs.length) (h : goodI l zs[k] = false) : allG l zs = false := by
  cases ha : allG l zs with
  | false => rfl
  | true => have := allG_mem ha (List.getElem_mem hk); rw [h] at this; cases this
theorem take_snoc {zs : List Int} {k : Nat} (hk : k < zs.length) : zs.take (k + 1) = zs.take k ++ [zs[k]] := by rw [List.take_add_one, List.getElem?_eq_getElem hk]; rfl
theorem allG_take {l : List Nat} {zs : List Int} {k : Nat} (hk : k < zs.length) (h : allG l (zs.take k) = true) (hg : goodI l zs[k] = true) : allG l (zs.take (k + 1)) = true := by
  unfold allG at h ⊢
  rw [take_snoc hk, List.all_append, h]; simp [hg]
theorem encZ_take {l : List Nat} {zs : List Int} {k : Nat} (hk : k < zs.length) : encZ l (zs.take (k + 1)) = encZ l (zs.take k) ++ encB l zs[k].toNat := by
  unfold encZ
  rw [take_snoc hk, List.map_append, enc_app]
  congr 1
  simp [enc]
theorem encB_len (l : List Nat) (s : Nat) : (encB l s).length = l.getD s 0 := bn_len _ _
theorem encZ_le {l : List Nat} (hv : ksum l ≤ 32768) : ∀ zs : List Int, (encZ l zs).length ≤ 15 * zs.length
  | [] => by simp [encZ, enc]
  | z :: zs => by
    have := encZ_le hv zs
    have h15 := len15 hv z.toNat
    unfold encZ at this ⊢
    rw [List.map_cons, enc_cons, List.length_append, encB_len, List.length_cons]
    omega
end Go.Srt
namespace Go.Proofs.Ytajpnkioigcejaa
open Go Go.Vc Go.Srt Go.Bits
section
variable {E w : World} {F : List HP}
set_option maxRecDepth 20000 in
theorem size_c {l : List Nat} {s : Sl} {zs : List Int} {K : Int → Int → World → Prop} (h : Hp E w F) (hl : l.length = 258) (hs : Tells F (SlT 1 s (zs.map vI))) (hn : zs.length ≤ 100000)
    (hK1 : ¬ (ksum l ≤ 32768 ∧ allG l zs = true) → ∀ w', Hp E w' F → K 0 2 w') (hK2 : ksum l ≤ 32768 → allG l zs = true → ∀ w', Hp E w' F → K ((encZ l zs).length : Int) 0 w') :
    Cl Try.prog [kI, kI] n_prefixenc_Size ⟨[.agg (ai .u8 l), .slice s.base s.len s.cap]⟩ w K := by
  refine prefixenc_Size.ok _ _ _ _ ?_
  unfold prefixenc_Size.E
  have hsl := (h.tells hs).1
  simp only [List.length_map, Nat.mul_one] at hsl
  refine Nw.mk h fun b w1 h1 => Ld.arr h1 (by rw [ai_size, hl]) (cvalid_c h1 hl fun w2 h2 => IfB.mk (fun hv => hK1 (fun hh => by simp [hh.1] at hv) w2 h2.drop) (fun hv => ?_))
  have hv : ksum l ≤ 32768 := by simpa using hv
  refine ⟨fun n i w' => ∃ k : Nat, i = (k : Int) ∧ k ≤ zs.length ∧ n = ((encZ l (zs.take k)).length : Int) ∧ allG l (zs.take k) = true ∧ Hp E w' (Blk b (.cells (ai .u8 l) 23 (0, 0)) :: F), fun _ i _ => zs.length - i.toNat, ⟨0, rfl, by omega, rfl, rfl, h2⟩, ?_⟩
  rintro n i w' ⟨k, rfl, hk, rfl, hg, hh⟩
  refine IfB.mk (fun hlt => ?_) (fun hge => ?_)
  · have hlt : k < zs.length := by have := of_decide_eq_true hlt; omega
    have bad : goodI l zs[k] = false → K 0 2 w' := fun hb => hK1 (fun hh => by rw [allG_not hlt hb] at hh; exact absurd hh.2 (by decide)) w' hh.drop
    refine Idx.rd (hh.tells (Tells.cons hs)) (by omega) (by omega) fun q hq hc => Ld.sc (s := .int .i64) zs[k] (by rw [hc]; simp [vI, Sc.enc]) ?_
    refine IfB.mk (fun h0 => bad ?_) (fun h0 => IfB.mk (fun h1 => bad ?_) (fun h1 => ?_))
    · have := of_decide_eq_true h0
      unfold goodI; rw [decide_eq_false (show ¬ 0 ≤ zs[k] by omega)]; rfl
    · have := of_decide_eq_true h1
      unfold goodI; rw [decide_eq_false (show ¬ zs[k] < 258 by omega)]; simp
    have h0 := of_decide_eq_false h0
    have h1 := of_decide_eq_false h1
    obtain ⟨m, hm⟩ : ∃ m : Nat, zs[k] = (m : Int) := ⟨zs[k].toNat, by omega⟩
    have hm2 : zs[k].toNat = m := by omega
    rw [hm]
    refine IdxP.rd (s := .int .u8) hh (by omega) (by omega) (l.getD m 0 : Int) (getN (by omega)) (IfB.mk (fun hz => bad ?_) (fun hz => ?_))
    · have : l.getD m 0 = 0 := by rw [beq_iff_eq] at hz; omega
      unfold goodI; rw [hm2, this]; simp
    have hz : 0 < l.getD m 0 := by have := beq_eq_false_iff_ne.1 hz; omega
    refine IdxP.rd (s := .int .u8) hh (by omega) (by omega) (l.getD m 0 : Int) (getN (by omega)) ?_
    have h15 := len15 hv m
    have hle := encZ_le hv (zs.take k)
    rw [List.length_take] at hle
    rw [i64_id (x := (l.getD m 0 : Int)) (by omega), i64_id (x := ((encZ l (zs.take k)).length : Int) + (l.getD m 0 : Int)) (by omega), i64_id (by omega)]
    refine ⟨⟨k + 1, rfl, by omega, ?_, allG_take hlt hg (goodI_iff.2 ⟨by omega, by omega, by rw [hm2]; exact hz⟩), hh⟩, by dsimp only; omega⟩
    rw [encZ_take hlt, List.length_append, encB_len, hm2]; omega
  · have hge : k = zs.length := by have := of_decide_eq_false hge; omega
    subst hge
    rw [List.take_length] at hg ⊢
    exact hK2 hv hg w' hh.drop
set_option maxRecDepth 20000 in
theorem putE_c {l : List Nat} {s : Sl} {zs : List Int} {b : Nat} {bits : List Nat} {K : Int → World → Prop} (h : Hp E w (Wr b bits :: F)) (hl : l.length = 258) (hs : Tells F (SlT 1 s (zs.map vI))) (hn : zs.length ≤ 100000) (hbig : bits.length ≤ 100000000)
    (hK1 : ¬ (ksum l ≤ 32768 ∧ allG l zs = true) → ∀ w', Hp E w' (Wr b bits :: F) → K 2 w') (hK2 : ksum l ≤ 32768 → allG l zs = true → ∀ w', Hp E w' (Wr b (bits ++ encZ l zs) :: F) → K 0 w') :
    Cl Try.prog [kI] n_prefixenc_Put ⟨[.pointer (some ⟨b, 0, none⟩), .agg (ai .u8 l), .slice s.base s.len s.cap]⟩ w K := by
  refine prefixenc_Put.ok _ _ _ _ _ ?_
  unfold prefixenc_Put.E
  simp only [Join_eq]
  have hsl := (h.tells (Tells.cons hs)).1
  simp only [List.length_map, Nat.mul_one] at hsl
  rw [ai_zero]
  refine Nw.mk h fun b5 w1 h1 => Ld.arr h1 (by rw [ai_size, hl]) (size_c h1 hl (Tells.cons (Tells.cons hs)) hn (fun hb w2 h2 => ?_) (fun hv hg w2 h2 => ?_))
  · exact IfB.f rfl (IfB.t (by decide) (hK1 hb w2 h2.drop))
  refine IfB.f rfl (IfB.f (by decide) (Ld.arr h2 (by rw [ai_size, hl]) (codes_c h2 hl (fun hb => absurd hv hb) fun _ ys w3 hys h3 => ?_)))
  refine Nw.mk h3 fun b17 w4 h4 => StA.blk h4 (by rw [ai_size]; simp) (by rw [ai_size, codesTo_len]) ai_scalar fun w5 h5 => ?_
  refine ⟨fun i w' => ∃ k : Nat, i = (k : Int) ∧ k ≤ zs.length ∧ Hp E w' (Wr b (bits ++ encZ l (zs.take k)) :: Blk b17 (.cells (ai .u32 (codesTo l ys ys.length)) 80 (0, 0)) :: Blk b5 (.cells (ai .u8 l) 23 (0, 0)) :: F), fun i _ => zs.length - i.toNat, ⟨0, rfl, by omega, ?_⟩, ?_⟩
  · rw [List.take_zero]
    have e : encZ l [] = [] := rfl
    rw [e, List.append_nil]
    exact h5.p2
  rintro i w' ⟨k, rfl, hk, hh⟩
  refine IfB.mk (fun hlt => ?_) (fun hge => ?_)
  · have hlt : k < zs.length := by have := of_decide_eq_true hlt; omega
    refine Idx.rd (hh.tells (Tells.cons (Tells.cons (Tells.cons hs)))) (by omega) (by omega) fun q hq hc => Ld.sc (s := .int .i64) zs[k] (by rw [hc]; simp [vI, Sc.enc]) ?_
    obtain ⟨g1, g2, g3⟩ := goodI_iff.1 (allG_mem hg (List.getElem_mem hlt))
    obtain ⟨m, hm⟩ : ∃ m : Nat, zs[k] = (m : Int) := ⟨zs[k].toNat, by omega⟩
    have hm2 : zs[k].toNat = m := by omega
    rw [hm2] at g3
    rw [hm]
    refine Drw.mk hh fun w6 h6 => ?_
    refine IdxP.rd (s := .int .u32) h6.p1 (by omega) (by omega) ((codesTo l ys ys.length).getD m 0 : Int) (getN (by rw [codesTo_len]; omega)) ?_
    refine IdxP.rd (s := .int .u8) h6.p2 (by omega) (by omega) (l.getD m 0 : Int) (getN (by omega)) ?_
    have h15 := len15 hv m
    rw [i64_id (x := (l.getD m 0 : Int)) (by omega), codes_code hl hv hys (by omega) g3, i64_id (x := (k : Int) + 1) (by omega)]
    have hcl := code_lt hl hv (by omega) g3
    have hp : 2 ^ l.getD m 0 ≤ 2 ^ 15 := Nat.pow_le_pow_right (by decide) h15
    have hp2 : (2 : Nat) ^ 15 = 32768 := by decide
    have hle := encZ_le hv (zs.take k)
    rw [List.length_take] at hle
    refine putW_c h6 (by omega) hcl (by omega) (by rw [List.length_append, big_eq]; omega) fun w7 h7 => ⟨⟨k + 1, by omega, by omega, ?_⟩, by dsimp only; omega⟩
    rw [encZ_take hlt, hm2, ← List.append_assoc]
    exact h7
  · have hge : k = zs.length := by have := of_decide_eq_false hge; omega
    subst hge
    rw [List.take_length] at hh
    exact hK2 hv hg w' (hh.p1.drop.p1.drop)
set_option maxRecDepth 20000 in
theorem putE_nil {l : List Nat} {s : Sl} {zs : List Int} {K : Int → World → Prop} (h : Hp E w F) (hl : l.length = 258) (hs : Tells F (SlT 1 s (zs.map vI))) (hn : zs.length ≤ 100000) (hK : ∀ w', Hp E w' F → K 2 w') :
    Cl Try.prog [kI] n_prefixenc_Put ⟨[.pointer none, .agg (ai .u8 l), .slice s.base s.len s.cap]⟩ w K := by
  refine prefixenc_Put.ok _ _ _ _ _ ?_
  unfold prefixenc_Put.E
  simp only [Join_eq]
  refine Nw.mk h fun b5 w1 h1 => Ld.arr h1 (by rw [ai_size, hl]) (size_c h1 hl (Tells.cons hs) hn (fun hb w2 h2 => IfB.t rfl (hK w2 h2.drop)) (fun hv hg w2 h2 => IfB.t rfl (hK w2 h2.drop)))
theorem spellE_c {l : List Nat} {s : Sl} {zs : List Int} {K : Sl → Int → Int → World → Prop} (h : Hp E w F) (hl : l.length = 258) (hs : Tells F (SlT 1 s (zs.map vI))) (hn : zs.length ≤ 100000)
    (hK1 : ¬ (ksum l ≤ 32768 ∧ allG l zs = true) → ∀ w', Hp E w' F → K ⟨none, 0, 0⟩ 0 2 w') (hK2 : ksum l ≤ 32768 → allG l zs = true → ∀ s' w', Hp E w' (OwnS 1 s' ((pack (encZ l zs)).map vB) :: F) → K s' ((encZ l zs).length : Int) 0 w') :
    Cl Try.prog [kS, kI, kI] n_prefixenc_Spell ⟨[.agg (ai .u8 l), .slice s.base s.len s.cap]⟩ w K := by
  refine prefixenc_Spell.ok _ _ _ _ ?_
  unfold prefixenc_Spell.E
  refine Nw.mk h fun b4 w1 h1 => newW_c h1 fun b w2 h2 => Ld.arr h2.p1 (by rw [ai_size, hl]) (putE_c h2 hl (Tells.cons hs) hn (by simp) (fun hb w3 h3 => ?_) (fun hv hg w3 h3 => ?_))
  · exact IfB.t (by decide) (hK1 hb w3 h3.drop.drop)
  · rw [List.nil_append] at h3
    exact IfB.f (by decide) (bytesW_c h3 fun s' w4 h4 => lenW_c h4.p1 fun w5 h5 => hK2 hv hg s' w5 (h5.drop.p1.drop))
end
end Go.Proofs.Ytajpnkioigcejaa
