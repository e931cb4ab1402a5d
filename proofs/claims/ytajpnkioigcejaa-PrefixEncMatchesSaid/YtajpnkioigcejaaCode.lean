/-
  What canonical.Codes computes. Conditions: as each theorem states.
-/
import Derived.Test.YtajpnkioigcejaaCodeP
namespace Go.Srt
def codesTo (l ys : List Nat) : Nat → List Nat
  | 0 => List.replicate 258 0
  | i + 1 => (codesTo l ys i).set (ys.getD i 0) (codeAt l ys i)
theorem codesTo_len (l ys : List Nat) : ∀ i, (codesTo l ys i).length = 258
  | 0 => List.length_replicate
  | i + 1 => by rw [codesTo, List.length_set, codesTo_len l ys i]
theorem ord_ne {l ys : List Nat} (h : IsOrd l ys) {i j : Nat} (hj : j < ys.length) (hij : i < j) : ys[i]'(by omega) ≠ ys[j] := by
  have := (List.pairwise_iff_getElem.1 h.2) i j (by omega) hj hij
  intro e
  rw [e] at this
  omega
theorem codesTo_at {l ys : List Nat} (h : IsOrd l ys) (hin : ∀ s ∈ ys, s < 258) : ∀ (i : Nat), i ≤ ys.length → ∀ j (hj : j < ys.length), j < i → (codesTo l ys i).getD ys[j] 0 = codeAt l ys j
  | 0, _, _, _, hji => by omega
  | i + 1, hi, j, hj, hji => by
    have hi' : i < ys.length := by omega
    rw [codesTo, getD_at hi']
    by_cases e : j = i
    · subst e
      have : ys[j] < (codesTo l ys j).length := by rw [codesTo_len]; exact hin _ (List.getElem_mem hj)
      rw [List.getD_eq_getElem?_getD, List.getElem?_set_self this]; rfl
    · have hne := ord_ne h hi' (show j < i by omega)
      rw [List.getD_eq_getElem?_getD, List.getElem?_set_ne (fun hh => hne hh.symm), ← List.getD_eq_getElem?_getD]
      exact codesTo_at h hin i (by omega) j hj (by omega)
end Go.Srt
namespace Go.Proofs.Ytajpnkioigcejaa
open Go Go.Vc Go.Srt
section
variable {E w : World} {F : List HP}
set_option maxRecDepth 20000 in
theorem codes_c {l : List Nat} {K : Array Value → Int → World → Prop} (h : Hp E w F) (hl : l.length = 258) (hK1 : ¬ ksum l ≤ 32768 → ∀ w', Hp E w' F → K (ai .u32 (List.replicate 258 0)) 2 w')
    (hK2 : ksum l ≤ 32768 → ∀ ys w', IsOrd l ys → Hp E w' F → K (ai .u32 (codesTo l ys ys.length)) 0 w') : Cl Try.prog [.arr 258, kI] n_canonical_Codes ⟨[.agg (ai .u8 l)]⟩ w K := by
  refine canonical_Codes.ok _ _ _ ?_
  unfold canonical_Codes.E
  rw [ai_zero]
  refine Nw.mk h fun b3 w1 h1 => Nw.mk h1 fun b5 w2 h2 => Ld.arr h2.p1 (by rw [ai_size, hl]) (cvalid_c h2 hl fun w3 h3 => ?_)
  refine IfB.mk (fun hv => ?_) (fun hv => ?_)
  · have hv : ¬ ksum l ≤ 32768 := by simpa using hv
    refine Ld.arr h3 (by rw [ai_size]; simp) (StA.blk h3 (by rw [ai_size]; simp) (by rw [ai_size]; simp) ai_scalar fun w4 h4 => Ld.arr h4 (by rw [ai_size]; simp) (hK1 hv w4 h4.drop.drop))
  · have hv : ksum l ≤ 32768 := by simpa using hv
    refine Ld.arr h3.p1 (by rw [ai_size, hl]) (order_c h3 hl (fun hn => absurd hv hn) fun _ ys s w4 hys h4 => ?_)
    have hpl := h4.ownLen
    simp only [ints, List.length_map, Nat.mul_one] at hpl
    have hin : ∀ s ∈ ys, s < 258 ∧ 0 < l.getD s 0 := fun s hs => by
      have := used_mem.1 (hys.1.mem_iff.1 hs)
      rw [hl] at this; exact this
    have hlen : ys.length ≤ 258 := by
      rw [hys.1.length_eq, ← hl]
      have := List.length_filter_le (fun s => decide (0 < l.getD s 0)) (List.range l.length)
      simpa [used] using this
    refine ⟨fun nx la i w' => ∃ k n a : Nat, i = (k : Int) ∧ nx = (n : Int) ∧ la = (a : Int) ∧ k ≤ ys.length ∧ n * 2 ^ (15 - a) = Srt.start l ys k ∧ a ≤ 15 ∧ (∀ j (hj : j < ys.length), k ≤ j → a ≤ l.getD ys[j] 0) ∧
        Hp E w' (OwnS 1 s ((ints ys).map vI) :: Blk b5 (.cells (ai .u32 (codesTo l ys k)) 80 (0, 0)) :: Blk b3 (.cells (ai .u8 l) 23 (0, 0)) :: F),
      fun _ _ i _ => ys.length - i.toNat, ⟨0, 0, 0, rfl, rfl, rfl, by omega, by simp [Srt.start], by omega, fun j hj _ => Nat.zero_le _, h4⟩, ?_⟩
    intro nx la i w' hI
    obtain ⟨k, n, a, hi, hn, ha, hk, hst, ha15, hmono, hh⟩ := hI
    subst hi; subst hn; subst ha
    refine IfB.mk (fun hlt => ?_) (fun hge => ?_)
    · have hlt : k < ys.length := by have := of_decide_eq_true hlt; omega
      have hin2 := hin _ (List.getElem_mem hlt)
      have hyl : ys[k] < l.length := by omega
      have hg : l.getD ys[k] 0 = l[ys[k]] := by rw [List.getD_eq_getElem?_getD, List.getElem?_eq_getElem hyl]; rfl
      refine rdI hh (by omega) (x := (ys[k] : Int)) (by simp [ints, hlt]) ?_
      refine IdxP.rd (s := .int .u8) hh.p2 (by omega) (by omega) (l[ys[k]] : Int) (by rw [Int.toNat_natCast]; exact ai_get hyl) ?_
      have ha := hmono k hlt (Nat.le_refl _)
      have h15 := len15 hv ys[k]
      rw [hg] at ha h15 hin2
      rw [u8_id (by omega)]
      refine ⟨by omega, ?_⟩
      have hd : Hp E { w' with drawn := w'.drawn + 1 } _ := hh.drew
      refine ⟨fun w' => ∃ cs, Hp E w' (OwnS 1 s ((ints ys).map vI) :: Blk b5 (.cells cs 80 (0, 0)) :: Blk b3 (.cells (ai .u8 l) 23 (0, 0)) :: F), ⟨_, hd⟩, by omega, by omega, (l[ys[k]] : Int), ?_, ?_⟩
      · rintro w2 ⟨cs, h2⟩
        rw [add_mk, h2.p2.cell, Int.toNat_natCast, Nat.zero_add, Nat.mul_one]
        exact ai_get hyl
      · have hsk := start_succ (l := l) hlt
        have hcm := codeAt_mul hys hlt
        have hcl := codeAt_lt hv hys hlt
        have hp15 : 2 ^ l.getD ys[k] 0 ≤ 2 ^ 15 := Nat.pow_le_pow_right (by decide) (len15 hv _)
        have hcode : n * 2 ^ (l[ys[k]] - a) = codeAt l ys k := by
          have h1 : n * 2 ^ (l[ys[k]] - a) * sh l ys[k] = codeAt l ys k * sh l ys[k] := by
            rw [hcm, ← hst]
            unfold sh
            rw [hg, Nat.mul_assoc, ← Nat.pow_add]
            congr 2; omega
          exact Nat.eq_of_mul_eq_mul_right (sh_pos l ys[k]) h1
        have e1 : ishl .u32 (n : Int) ((l[ys[k]] : Int) - (a : Int)) = (codeAt l ys k : Int) := by
          have hmx : IntKind.max .u32 = 4294967295 := rfl
          have := ishl_nat (k := .u32) (a := n) (b := l[ys[k]] - a) (by have : IntKind.bits .u32 = 32 := rfl; omega) (by rw [hmx, hcode]; omega)
          rw [hcode] at this
          rw [← this]
          congr 1; omega
        rw [e1]
        refine IdxP.wr hd.p1 (by omega) (by omega) (by rw [ai_size, codesTo_len]) rfl fun w3 h3 => ?_
        rw [Int.toNat_natCast, ai_set] at h3
        refine ⟨⟨_, h3.p1⟩, ?_⟩
        rw [u32_id (by omega), i64_id (by omega)]
        refine ⟨⟨k + 1, codeAt l ys k + 1, l[ys[k]], rfl, rfl, rfl, by omega, ?_, h15, fun j hj hkj => ?_, ?_⟩, by dsimp only; omega⟩
        · rw [hsk, ← hcm]
          unfold sh
          rw [hg, Nat.succ_mul]
        · rw [← hg]; exact ord_len hys hj (by omega)
        · have : codesTo l ys (k + 1) = (codesTo l ys k).set ys[k] (codeAt l ys k) := by rw [codesTo, getD_at hlt]
          rw [this]; exact h3.p1
    · have hge : k = ys.length := by have := of_decide_eq_false hge; omega
      subst hge
      refine Ld.arr hh.p1 (by rw [ai_size, codesTo_len]) (StA.blk hh.p1 (by rw [ai_size, codesTo_len]) (by rw [ai_size, codesTo_len]) ai_scalar fun w5 h5 => Ld.arr h5 (by rw [ai_size, codesTo_len]) (hK2 hv ys w5 hys h5.drop.drop.drop))
end
end Go.Proofs.Ytajpnkioigcejaa
