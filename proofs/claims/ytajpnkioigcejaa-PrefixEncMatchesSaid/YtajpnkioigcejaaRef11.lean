/-
  What Bits, Bytes, Size, Spell and Read of the reference winepressref11 compute. Conditions: as each theorem states.
-/
import Derived.Test.YtajpnkioigcejaaRef09
import Derived.Test.YtajpnkioigcejaaPread
import Derived.Test.YtajpnkioigcejaaBit
import Derived.Laws.MakeOwn
namespace Go.Srt
open Go.Bits
theorem packTo_nil (m : Nat) : packTo [] m = List.replicate m 0 := by
  unfold packTo
  refine List.ext_getElem? fun i => ?_
  rw [List.getElem?_map]
  by_cases h : i < m
  · rw [List.getElem?_range h, List.getElem?_replicate, if_pos h]
    simp [by8]
  · rw [List.getElem?_eq_none (by simpa using h), List.getElem?_eq_none (by simpa using h)]; rfl
theorem packTo_snoc (b : List Nat) (x m : Nat) (h : b.length / 8 < m) : packTo (b ++ [x]) m = (packTo b m).set (b.length / 8) (by8 b (b.length / 8) + x * 2 ^ (7 - b.length % 8)) := by
  refine List.ext_getElem? fun i => ?_
  unfold packTo
  rw [List.getElem?_set]
  simp only [List.getElem?_map, List.length_map, List.length_range]
  by_cases hi : i < m
  · rw [List.getElem?_range hi]
    simp only [Option.map_some]
    rw [by8_snoc]
    by_cases e : b.length / 8 = i
    · subst e; rw [if_pos rfl, if_pos rfl, if_pos hi]
    · rw [if_neg (Ne.symm e), if_neg e, Nat.add_zero]
  · rw [List.getElem?_eq_none (by simpa using hi)]
    simp only [Option.map_none]
    rw [if_neg (by omega)]
end Go.Srt
namespace Go.Vc
open Go
/-- a slice is made, of elements of one cell -/
theorem run_mk1 {P : Program} {t e : TypeId} {z : Value} {n bytes : Nat} {E w : World} {F : List HP} {K : Sl → World → Prop} (ht : P.underlying t = some (.slice e)) (hi : ∃ i, P.info? e = some i ∧ i.zero = some z ∧ i.size = 1 ∧ i.bytes = bytes) (hz : z.cells = #[z])
    (hn : n ≤ 1000000) (hb : bytes ≤ 8) (h : Hp E w F) (hK : ∀ s w', s.len = n → Hp E w' (OwnS 1 s (List.replicate n z) :: F) → K s w') : Run P (Instr.makeSlice t (.int .i64 (n : Int)) (.int .i64 (n : Int))) kS w K := by
  obtain ⟨i, h1, h2, h3, h4⟩ := hi
  have hbn : bytes * n ≤ 8 * n := Nat.mul_le_mul_right _ hb
  have hbb : ((bytes : Int) * (n : Int)) ≤ 281474976710656 := by
    have : ((bytes : Int) * (n : Int)) = ((bytes * n : Nat) : Int) := by simp
    omega
  have hm := run_makeSlice (w := w) t e i z ht h1 h2 .i64 .i64 (n : Int) (n : Int) (by omega) (by omega) (by rw [h3, Int.toNat_natCast]; omega) (by rw [h4]; exact hbb) (by omega)
  unfold Run
  rw [hm]
  have hc : madeCells z.cells (n * 1) = ⟨List.replicate n z⟩ := by
    unfold madeCells
    rw [hz, Nat.mul_one]
    apply Array.ext
    · simp
    · intro j h1 h2
      simp [Nat.mod_one]
  rw [h3, Int.toNat_natCast, hc]
  refine hK ⟨some ⟨w.heap.size, 0, none⟩, n, n⟩ _ rfl ?_
  have := (h.alloc (.cells ⟨List.replicate n z⟩ e)).ownNew (n := n) (sz := 1) (by simp)
  exact this
end Go.Vc
namespace Go.Proofs.Ytajpnkioigcejaa
open Go Go.Vc Go.Srt Go.Bits
section
variable {E w : World} {F : List HP}
theorem infoB : ∃ i, Try.prog.info? 5 = some i ∧ i.zero = some (.int .u8 0) ∧ i.size = 1 ∧ i.bytes = 1 := by
  have h : (Try.prog.info? 5).map (fun i => (i.zero, i.size, i.bytes)) = some (some (.int .u8 0), 1, 1) := by kernel_rfl
  obtain ⟨i, h1, h2⟩ := Option.map_eq_some_iff.1 h
  simp only [Prod.mk.injEq] at h2
  exact ⟨i, h1, h2⟩
set_option maxRecDepth 20000 in
theorem rBits_c {l : List Nat} {s : Sl} {zs : List Int} {K : Sl → Bool → World → Prop} (h : Hp E w F) (hl : l.length = 258) (h8 : ∀ x ∈ l, x ≤ 255) (hs : Tells F (SlT 1 s (zs.map vI))) (hn : zs.length ≤ 100000)
    (hK1 : ¬ (ksum l ≤ 32768 ∧ allG l zs = true) → ∀ w', Hp E w' F → K ⟨none, 0, 0⟩ false w') (hK2 : ksum l ≤ 32768 → allG l zs = true → ∀ s' w', Hp E w' (OwnS 1 s' ((ints (encZ l zs)).map vI) :: F) → K s' true w') :
    Cl Try.prog [kS, kB] n_ref11_Bits ⟨[.agg (ai .u8 l), .slice s.base s.len s.cap]⟩ w K := by
  refine ref11_Bits.ok _ _ _ _ ?_
  unfold ref11_Bits.E
  simp only [Join_eq]
  rw [ai_zero]
  have hsl := (h.tells hs).1
  simp only [List.length_map, Nat.mul_one] at hsl
  refine Nw.mk h fun b4 w1 h1 => Ld.arr h1 (by rw [ai_size, hl]) (rCodes9_c h1 hl h8 (fun hv w2 h2 => ?_) (fun hv ys w2 hys h2 => ?_))
  · exact Nw.mk h2 fun b10 w3 h3 => StA.blk h3 (by rw [ai_size]; simp) (by rw [ai_size]; simp) ai_scalar fun w4 h4 => IfB.t (by decide) (hK1 (fun hh => hv hh.1) w4 h4.drop.drop)
  refine Nw.mk h2 fun b10 w3 h3 => StA.blk h3 (by rw [ai_size]; simp) (by rw [ai_size, codesTo_len]) ai_scalar fun w4 h4 => IfB.f (by decide) ?_
  refine ⟨fun o i w' => ∃ k : Nat, i = (k : Int) ∧ k ≤ zs.length ∧ allG l (zs.take k) = true ∧ Hp E w' (OwnS 1 o ((ints (encZ l (zs.take k))).map vI) :: Blk b10 (.cells (ai .u32 (codesTo l ys ys.length)) 80 (0, 0)) :: Blk b4 (.cells (ai .u8 l) 23 (0, 0)) :: F), fun _ i _ => zs.length - i.toNat, ⟨0, rfl, by omega, rfl, h4.ownNil 1⟩, ?_⟩
  rintro o i w5 ⟨k, rfl, hk, hg, hh⟩
  refine IfB.mk (fun hlt => ?_) (fun hge => ?_)
  · have hlt : k < zs.length := by have := of_decide_eq_true hlt; omega
    have bad : goodI l zs[k] = false → K ⟨none, 0, 0⟩ false w5 := fun hb => hK1 (fun hh => by rw [allG_not hlt hb] at hh; exact absurd hh.2 (by decide)) w5 hh.drop.drop.drop
    refine Idx.rd (hh.tells (Tells.cons (Tells.cons (Tells.cons hs)))) (by omega) (by omega) fun q hq hc => Ld.sc (s := .int .i64) zs[k] (by rw [hc]; simp [vI, Sc.enc]) ?_
    refine IfB.mk (fun h0 => bad ?_) (fun h0 => IfB.mk (fun h1 => bad ?_) (fun h1 => ?_))
    · have := of_decide_eq_true h0
      unfold goodI; rw [decide_eq_false (show ¬ 0 ≤ zs[k] by omega)]; rfl
    · have := of_decide_eq_true h1
      unfold goodI; rw [decide_eq_false (show ¬ zs[k] < 258 by omega)]; simp
    have h0 := of_decide_eq_false h0
    have h1 := of_decide_eq_false h1
    obtain ⟨m, hm⟩ : ∃ m : Nat, zs[k] = (m : Int) := ⟨zs[k].toNat, by omega⟩
    have hm2 : zs[k].toNat = m := by omega
    rw [hm]
    refine IdxP.rd (s := .int .u8) hh.p2 (by omega) (by omega) (l.getD m 0 : Int) (getN (by omega)) (IfB.mk (fun hz => bad ?_) (fun hz => ?_))
    · have : l.getD m 0 = 0 := by rw [beq_iff_eq] at hz; omega
      unfold goodI; rw [hm2, this]; simp
    have hz : 0 < l.getD m 0 := by have := beq_eq_false_iff_ne.1 hz; omega
    have h15 := len15 hv m
    have hle := encZ_le hv (zs.take k)
    rw [List.length_take] at hle
    have hcl := code_lt hl hv (show m < 258 by omega) hz
    have hp : 2 ^ l.getD m 0 ≤ 2 ^ 15 := Nat.pow_le_pow_right (by decide) h15
    have hp2 : (2 : Nat) ^ 15 = 32768 := by decide
    refine IdxP.rd (s := .int .u8) hh.p2 (by omega) (by omega) (l.getD m 0 : Int) (getN (by omega)) ?_
    rw [i64_id (x := (l.getD m 0 : Int)) (by omega), i64_id (x := (l.getD m 0 : Int) - 1) (by omega), i64_id (x := (k : Int) + 1) (by omega)]
    have hel := encB_len l m
    refine ⟨fun o2 kk w' => ∃ j : Nat, kk = (l.getD m 0 : Int) - 1 - (j : Int) ∧ j ≤ l.getD m 0 ∧ Hp E w' (OwnS 1 o2 ((ints (encZ l (zs.take k) ++ (encB l m).take j)).map vI) :: Blk b10 (.cells (ai .u32 (codesTo l ys ys.length)) 80 (0, 0)) :: Blk b4 (.cells (ai .u8 l) 23 (0, 0)) :: F), fun _ kk _ => (kk + 1).toNat,
      ⟨0, by omega, by omega, by simpa using hh⟩, ?_⟩
    rintro o2 kk w6 ⟨j, rfl, hj, h6⟩
    refine IfB.mk (fun hge2 => ?_) (fun hlt2 => ?_)
    · have hj2 : j < l.getD m 0 := by have := of_decide_eq_true hge2; omega
      refine IdxP.rd (s := .int .u32) h6.p1 (by omega) (by omega) ((codesTo l ys ys.length).getD m 0 : Int) (getN (by rw [codesTo_len]; omega)) ?_
      rw [codes_code hl hv hys (by omega) hz, u64_id (by omega), show (l.getD m 0 : Int) - 1 - (j : Int) = ((l.getD m 0 - 1 - j : Nat) : Int) by omega]
      have hd := Nat.div_le_self (code l m) (2 ^ (l.getD m 0 - 1 - j))
      have e1 : iand .u32 (ishr .u32 (code l m : Int) ((l.getD m 0 - 1 - j : Nat) : Int)) 1 = ((code l m / 2 ^ (l.getD m 0 - 1 - j) % 2 : Nat) : Int) := by
        have hmx : IntKind.max .u32 = 4294967295 := rfl
        rw [ishr_nat (by have : IntKind.bits .u32 = 32 := rfl; omega), show (1 : Int) = ((1 : Nat) : Int) from rfl, iand_nat (by omega) (by omega), Nat.and_one_is_mod]
      rw [e1, i64_id (x := ((code l m / 2 ^ (l.getD m 0 - 1 - j) % 2 : Nat) : Int)) (by omega)]
      refine ⟨by omega, ?_⟩
      have hol := h6.ownLen
      rw [List.length_map, ints, List.length_map, List.length_append, List.length_take, hel, Nat.mul_one] at hol
      refine Nw.mk h6 fun b33 w7 h7 => run_append (ys := [vI ((code l m / 2 ^ (l.getD m 0 - 1 - j) % 2 : Nat) : Int)]) (n := 1) ty_ints (by decide) (.inl ⟨3, by kernel_rfl⟩) h7.p1 (.inl ⟨some ⟨b33, 0, none⟩, 1, 1, rfl, rfl, h7.tells (Tells.blk rfl rfl)⟩) rfl one_scalar (by omega) (by omega) fun s' w8 h8 hs' => ⟨⟨j + 1, by rw [i64_id (by omega)]; omega, by omega, ?_⟩, by dsimp only; rw [i64_id (by omega)]; omega⟩
      have e2 : (encB l m).take (j + 1) = (encB l m).take j ++ [code l m / 2 ^ (l.getD m 0 - 1 - j) % 2] := by
        have hjl : j < (encB l m).length := by omega
        rw [List.take_add_one, List.getElem?_eq_getElem hjl]
        have := bn_get (l.getD m 0) (code l m) j hj2
        rw [← this]
        show _ = _ ++ [(encB l m).getD j 0]
        rw [getD_get hjl]; rfl
      rw [e2, ← List.append_assoc, ints_app, List.map_append]
      exact h8.p1.drop
    · have hj2 : j = l.getD m 0 := by have := of_decide_eq_false hlt2; omega
      subst hj2
      rw [List.take_of_length_le (l := encB l m) (by omega)] at h6
      refine ⟨⟨k + 1, by omega, by omega, allG_take hlt hg (goodI_iff.2 ⟨by omega, by omega, by rw [hm2]; exact hz⟩), ?_⟩, by dsimp only; omega⟩
      rw [encZ_take hlt, hm2]
      exact h6
  · have hge : k = zs.length := by have := of_decide_eq_false hge; omega
    subst hge
    rw [List.take_length] at hg hh
    exact hK2 hv hg _ _ hh.p1.drop.p1.drop
end
end Go.Proofs.Ytajpnkioigcejaa
