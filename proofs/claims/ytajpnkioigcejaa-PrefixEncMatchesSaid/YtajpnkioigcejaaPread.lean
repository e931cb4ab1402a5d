/-
  What prefixenc.Read computes. Conditions: as each theorem states.
-/
import Derived.Test.YtajpnkioigcejaaPenc
namespace Go.Vc
open Go
theorem RunR.lk {P : Program} {s : Sem Value} {w : World} {K : Int → Bool → World → Prop} (x : Int) (b : Bool) (h : s.run P w = .ok (.tuple #[.int .i64 x, .bool b]) w) (hK : K x b w) : RunR P s [kI, kB] w K := by
  unfold RunR; rw [h]; exact hK
theorem findAt_upd {α β : Type} [DecidableEq α] {a b : α} {v : β} : ∀ (l : List (α × β)) (i : Nat), (findAt a (updAt b v l) i).map (·.2) = if a = b then some v else (findAt a l i).map (·.2)
  | [], i => by
    unfold updAt findAt
    by_cases h : a = b
    · rw [if_pos h, if_pos h]; rfl
    · rw [if_neg h, if_neg h]; rfl
  | p :: l, i => by
    unfold updAt
    by_cases hb : b = p.1
    · rw [if_pos hb]
      unfold findAt
      by_cases h : a = b
      · rw [if_pos h, if_pos h]; rfl
      · rw [if_neg h, if_neg h, if_neg (fun e => h (e.trans hb.symm))]
    · rw [if_neg hb]
      unfold findAt
      by_cases h : a = p.1
      · rw [if_pos h, if_pos h, if_neg (fun e => hb (e.symm.trans h))]
      · rw [if_neg h, if_neg h, findAt_upd l (i + 1)]
end Go.Vc
namespace Go.Proofs.Ytajpnkioigcejaa
open Go Go.Vc Go.Srt Go.Bits
theorem bitsOf_at {b : List Nat} {n k : Nat} (h : k < (bitsOf b n).length) : (bitsOf b n)[k] = bitAt b k := by simp [bitsOf]
theorem spell_some {l ys : List Nat} (hl : l.length = 258) (hv : ksum l ≤ 32768) (h : IsOrd l ys) {c n : Nat} : ∀ k, k ≤ ys.length →
    match (findAt ((c : Int), (n : Int)) (spell l ys k) 0).map (·.2) with
    | some v => ∃ s : Nat, v = (s : Int) ∧ s ∈ ys.take k ∧ code l s = c ∧ l.getD s 0 = n
    | none => ∀ s ∈ ys.take k, ¬ (code l s = c ∧ l.getD s 0 = n)
  | 0, _ => by
    simp only [spell, findAt, Option.map_none]
    intro s hs; simp at hs
  | k + 1, hk => by
    have hk' : k < ys.length := by omega
    have ih := spell_some hl hv h (c := c) (n := n) k (by omega)
    have hin := ord_in hl h _ (List.getElem_mem hk')
    rw [spell, findAt_upd, getD_at hk', codes_code hl hv h hin.1 hin.2]
    have ht : ys.take (k + 1) = ys.take k ++ [ys[k]] := by rw [List.take_add_one, List.getElem?_eq_getElem hk']; rfl
    by_cases e : ((c : Int), (n : Int)) = ((code l ys[k] : Int), (l.getD ys[k] 0 : Int))
    · rw [if_pos e]
      simp only [Prod.mk.injEq] at e
      exact ⟨ys[k], rfl, by rw [ht]; exact List.mem_append.2 (.inr (List.mem_singleton.2 rfl)), by omega, by omega⟩
    · rw [if_neg e]
      simp only [Prod.mk.injEq, not_and] at e
      cases hf : (findAt ((c : Int), (n : Int)) (spell l ys k) 0).map (·.2) with
      | some v =>
        rw [hf] at ih
        obtain ⟨s, h1, h2, h3⟩ := ih
        exact ⟨s, h1, by rw [ht]; exact List.mem_append.2 (.inl h2), h3⟩
      | none =>
        rw [hf] at ih
        intro s hs
        rw [ht] at hs
        rcases List.mem_append.1 hs with hs | hs
        · exact ih s hs
        · have : s = ys[k] := by simpa using hs
          subst this
          intro hh
          exact e (by omega) (by omega)
theorem spell_find {l ys : List Nat} (hl : l.length = 258) (hv : ksum l ≤ 32768) (h : IsOrd l ys) {c n : Nat} : (findAt ((c : Int), (n : Int)) (spell l ys ys.length) 0).map (·.2) = (findS l c n).map fun s => (s : Int) := by
  have h1 := spell_some hl hv h (c := c) (n := n) ys.length (Nat.le_refl _)
  rw [List.take_length] at h1
  cases hf : (findAt ((c : Int), (n : Int)) (spell l ys ys.length) 0).map (·.2) with
  | some v =>
    rw [hf] at h1
    obtain ⟨s, rfl, h2, h3, h4⟩ := h1
    have h5 := ord_in hl h s h2
    have := findS_self hl (s := s) ⟨h5.1, h5.2⟩
    rw [h3, h4] at this
    rw [this]; rfl
  | none =>
    rw [hf] at h1
    cases hg : findS l c n with
    | none => rfl
    | some s =>
      obtain ⟨h2, h3, h4⟩ := findS_some hg
      exact absurd ⟨h4, h3⟩ (h1 s (h.1.mem_iff.2 (used_mem.2 ⟨by have := h2.1; omega, h2.2⟩)))
section
variable {E w : World} {F : List HP}
def keyPc (a : Int × Int) : Value := .agg ⟨[.int .u32 a.1, .int .u8 a.2]⟩
def valPc (z : Int) : Value := .int .i64 z
theorem checkPc (e : Bool) (c n : Int) (w : World) : (Instr.checkKey e 10000 86 (.agg ⟨[.int .u32 c, .int .u8 n]⟩)).run Try.prog w = .ok () w := by kernel_rfl
theorem eqPc (c n d m : Int) : eqV Try.prog 8 86 (.agg ⟨[.int .u32 c, .int .u8 n]⟩) (.agg ⟨[.int .u32 d, .int .u8 m]⟩) (fun r => r = ((c == d) && (n == m))) := by
  have e : eqV Try.prog 8 86 (.agg ⟨[.int .u32 c, .int .u8 n]⟩) (.agg ⟨[.int .u32 d, .int .u8 m]⟩) (fun r => r = ((c == d) && (n == m))) = (((c == d) && (n == m)) = ((c == d) && (n == m))) := by kernel_rfl
  rw [e]
set_option maxRecDepth 20000 in
theorem keyOk_pc : KeyOk Try.prog (α := Int × Int) 86 keyPc where
  und := ⟨_, rfl, fun a b => .inl rfl⟩
  check := fun e a w => checkPc e a.1 a.2 w
  eq := fun a b w => by
    obtain ⟨r, h1, h2⟩ := eqV_sound 8 _ _ _ _ (eqPc a.1 a.2 b.1 b.2)
    have := h1 10000 (by decide) w
    have e : decide (a = b) = ((a.1 == b.1) && (a.2 == b.2)) := by
      rw [Bool.eq_iff_iff]
      simp [Prod.ext_iff]
    rw [e, ← h2]; exact this
  same := fun a => by
    unfold keyPc Instr.sameBits
    simp [Instr.sameBits]
theorem ty_mapPc : Try.prog.underlying 83 = some (.map 86 3) := by kernel_rfl
/-- what Read says -/
def rdZ (l bs : List Nat) (many : Int) : Option (List Nat) := if ksum l ≤ 32768 ∧ 0 ≤ many ∧ many ≤ 8 * bs.length then rdS l (bitsOf bs many.toNat) 0 0 [] else none
theorem bit_u8 {b : List Nat} {k : Nat} (h : b.getD (k / 8) 0 < 256) : u32 (iand .u8 (ishr .u8 (b.getD (k / 8) 0 : Int) ((7 - k % 8 : Nat) : Int)) 1) = (bitAt b k : Int) := by
  have hm : IntKind.max .u8 = 255 := rfl
  have hd := Nat.div_le_self (b.getD (k / 8) 0) (2 ^ (7 - k % 8))
  rw [ishr_nat (by have : IntKind.bits .u8 = 8 := rfl; omega), show (1 : Int) = ((1 : Nat) : Int) from rfl, iand_nat (by omega) (by omega), Nat.and_one_is_mod, u32_id (by omega)]
  rfl
theorem or_bit32 {c x : Nat} (hx : x ≤ 1) (hc : c < 65536) : ior .u32 (ishl .u32 (c : Int) 1) (x : Int) = ((2 * c + x : Nat) : Int) := by
  have hm : IntKind.max .u32 = 4294967295 := rfl
  have e := ishl_nat (k := .u32) (a := c) (b := 1) (by decide) (by omega)
  have h2 : c * 2 ^ 1 ||| x = 2 * c + x := by
    have := Nat.two_pow_add_eq_or_of_lt (i := 1) (b := x) (by omega) c
    rw [Nat.mul_comm c, ← this, Nat.mul_comm]
  rw [show (1 : Int) = ((1 : Nat) : Int) from rfl, e, ior_nat (by omega) (by omega) (by rw [h2]; omega), h2]
theorem sc2 {a b : Value} (ha : scalarB a = true) (hb : scalarB b = true) : ∀ v ∈ [a, b], scalarB v = true := by
  intro v hv
  simp only [List.mem_cons, List.not_mem_nil, or_false] at hv
  rcases hv with rfl | rfl
  · exact ha
  · exact hb
set_option maxRecDepth 20000 in
theorem readE_c {l : List Nat} {s : Sl} {bs : List Nat} {many : Int} {K : Sl → Int → World → Prop} (h : Hp E w F) (hl : l.length = 258) (hs : Tells F (SlT 1 s (bs.map vB))) (hb : ∀ y ∈ bs, y < 256) (hn : bs.length ≤ 100000)
    (hK1 : rdZ l bs many = none → ∀ w', Hp E w' F → K ⟨none, 0, 0⟩ 2 w') (hK2 : ∀ out, rdZ l bs many = some out → ∀ s' w', Hp E w' (OwnS 1 s' ((ints out).map vI) :: F) → K s' 0 w') :
    Cl Try.prog [kS, kI] n_prefixenc_Read ⟨[.agg (ai .u8 l), .slice s.base s.len s.cap, .int .i64 many]⟩ w K := by
  refine prefixenc_Read.ok _ _ _ _ _ ?_
  unfold prefixenc_Read.E
  simp only [Join_eq, add_mk, Nat.zero_add]
  rw [ai_zero]
  have hsl := (h.tells hs).1
  simp only [List.length_map, Nat.mul_one] at hsl
  refine Nw.mk h fun b5 w1 h1 => Ld.arr h1 (by rw [ai_size, hl]) (codes_c h1 hl (fun hv w2 h2 => ?_) (fun hv ys w2 hys h2 => ?_))
  · refine Nw.mk h2 fun b11 w3 h3 => StA.blk h3 (by rw [ai_size]; simp) (by rw [ai_size]; simp) ai_scalar fun w4 h4 => IfB.t (by decide) (hK1 ?_ w4 h4.drop.drop)
    unfold rdZ; rw [if_neg (fun hh => hv hh.1)]
  refine Nw.mk h2 fun b11 w3 h3 => StA.blk h3 (by rw [ai_size]; simp) (by rw [ai_size, codesTo_len]) ai_scalar fun w4 h4 => IfB.f (by decide) ?_
  refine IfB.mk (fun hneg => hK1 (by unfold rdZ; rw [if_neg (fun hh => by have := of_decide_eq_true hneg; omega)]) w4 h4.drop.drop) (fun hneg => ⟨by decide, ?_⟩)
  have hneg := of_decide_eq_false hneg
  have e8 : ishl .i64 (s.len : Int) 3 = ((8 * bs.length : Nat) : Int) := by
    have := ishl_nat (k := .i64) (a := s.len) (b := 3) (by decide) (by have : IntKind.max .i64 = 9223372036854775807 := rfl; omega)
    rw [show (3 : Int) = ((3 : Nat) : Int) from rfl, this, ← hsl]; omega
  rw [e8]
  refine IfB.mk (fun hgt => hK1 (by unfold rdZ; rw [if_neg (fun hh => by have := of_decide_eq_true hgt; omega)]) w4 h4.drop.drop) (fun hgt => ?_)
  have hgt := of_decide_eq_false hgt
  obtain ⟨m, rfl⟩ : ∃ m : Nat, many = (m : Int) := ⟨many.toNat, by omega⟩
  have hr : rdZ l bs (m : Int) = rdS l (bitsOf bs m) 0 0 [] := by unfold rdZ; rw [if_pos ⟨hv, by omega, by omega⟩, Int.toNat_natCast]
  rw [hr] at hK1 hK2
  generalize hrr : rdS l (bitsOf bs m) 0 0 [] = r at hK1 hK2
  have hylen := ord_le hl hys
  refine run_makeMap (α := Int × Int) (β := Int) (ke := keyPc) (ve := valPc) h4 fun mp w5 h5 => Ld.arr h5.p2 (by rw [ai_size, hl]) (order_c h5 hl (fun hn => absurd hv hn) fun _ zs so w6 hzs h6 => ?_)
  obtain rfl := ord_same hys hzs
  have hpl := h6.ownLen
  simp only [ints, List.length_map, Nat.mul_one] at hpl
  refine ⟨fun i w' => ∃ k : Nat, i = (k : Int) ∧ k ≤ ys.length ∧ Hp E w' (OwnM keyPc valPc mp (spell l ys k) :: Blk b11 (.cells (ai .u32 (codesTo l ys ys.length)) 80 (0, 0)) :: Blk b5 (.cells (ai .u8 l) 23 (0, 0)) :: OwnS 1 so ((ints ys).map vI) :: F), fun i _ => ys.length - i.toNat, ⟨0, rfl, by omega, h6.q3⟩, ?_⟩
  rintro i w7 ⟨k, rfl, hk, hh⟩
  refine IfB.mk (fun hlt => ?_) (fun hge => ?_)
  · have hlt : k < ys.length := by have := of_decide_eq_true hlt; omega
    have hin := ord_in hl hys _ (List.getElem_mem hlt)
    refine Idx.rd (hh.tells (Tells.cons (Tells.cons (Tells.cons Tells.own)))) (by omega) (by omega) fun q hq hc => Ld.sc (s := .int .i64) (ys[k] : Int) (by rw [hc]; simp [ints, vI, Sc.enc]) ?_
    refine Drw.mk hh fun w8 h8 => ?_
    refine IdxP.rd (s := .int .u32) h8.p1 (by omega) (by omega) _ (getN (by rw [codesTo_len]; omega)) ?_
    refine IdxP.rd (s := .int .u8) h8.p2 (by omega) (by omega) _ (getN (by omega)) ?_
    rw [i64_id (by omega)]
    refine run_mapUpdate (ve := valPc) (a := (((codesTo l ys ys.length).getD ys[k] 0 : Int), (l.getD ys[k] 0 : Int))) (b := (ys[k] : Int)) keyOk_pc ty_mapPc h8 fun w9 h9 => ?_
    refine ⟨⟨k + 1, rfl, by omega, ?_⟩, by dsimp only; omega⟩
    unfold spell
    rw [getD_at hlt]; exact h9
  have hge : k = ys.length := by have := of_decide_eq_false hge; omega
  subst hge
  refine Nw.mk hh fun b34 w8 h8 => ?_
  refine ⟨fun out t w' => ∃ (k c n : Nat) (acc : List Nat), t = (k : Int) ∧ k ≤ m ∧ n ≤ 15 ∧ c < 2 ^ n ∧ acc.length ≤ k ∧ rdS l ((bitsOf bs m).drop k) c n acc = r ∧
      Hp E w' (OwnS 1 out ((ints acc).map vI) :: Blk b34 (.cells ⟨[.int .u32 (c : Int), .int .u8 (n : Int)]⟩ 86 (0, 0)) :: OwnM keyPc valPc mp (spell l ys ys.length) :: F), fun _ t _ => m - t.toNat,
    ⟨0, 0, 0, [], rfl, by omega, by omega, by decide, by simp, by rw [List.drop_zero]; exact hrr, ?_⟩, ?_⟩
  · exact h8.p2.drop.p2.drop.p2.drop.ownNil 1
  rintro out t w9 ⟨k, c, n, acc, rfl, hkm, hn15, hc, hacc, hr2, hh⟩
  have hol := hh.ownLen
  simp only [ints, List.length_map, Nat.mul_one] at hol
  have bad : r = none → ∀ w' (F' : List HP), Hp E w' (F' ++ F) → K ⟨none, 0, 0⟩ 2 w' := fun e w' F' h' => hK1 e w' h'.dropL
  refine IfB.mk (fun hlt => ?_) (fun hge => ?_)
  · have hlt : k < m := by have := of_decide_eq_true hlt; omega
    have hk8 : k / 8 < bs.length := by omega
    have hlb : k < (bitsOf bs m).length := by rw [bitsOf_len]; exact hlt
    have hgb : (bitsOf bs m)[k] = bitAt bs k := bitsOf_at hlb
    have hx := bitAt_lt bs k
    rw [List.drop_eq_getElem_cons hlb, hgb, rdS] at hr2
    have hp : 2 ^ n ≤ 2 ^ 15 := Nat.pow_le_pow_right (by decide) hn15
    have hp2 : (2 : Nat) ^ 15 = 32768 := by decide
    have hpn : 2 ^ (n + 1) = 2 * 2 ^ n := by rw [Nat.pow_succ, Nat.mul_comm]
    refine Drw.mk hh fun w10 h10 => Ld.blk (s := .int .u32) h10.p1 (c : Int) rfl ⟨by decide, by decide, ?_⟩
    have e3 : ishr .i64 (k : Int) 3 = ((k / 8 : Nat) : Int) := by
      rw [show (3 : Int) = ((3 : Nat) : Int) from rfl, ishr_nat (by decide)]
    rw [e3, and7 _ (by rw [big_eq]; omega), i64_id (x := (7 : Int) - ((k % 8 : Nat) : Int)) (by omega), show (7 : Int) - ((k % 8 : Nat) : Int) = ((7 - k % 8 : Nat) : Int) by omega]
    refine Idx.rd (h10.tells (Tells.cons (Tells.cons (Tells.cons hs)))) (by omega) (by omega) fun q hq hcq => Ld.sc (s := .int .u8) (bs.getD (k / 8) 0 : Int) (by rw [hcq, List.getElem_map]; simp only [Int.toNat_natCast]; rw [getD_get hk8]; rfl) ⟨by omega, ?_⟩
    refine Ld.blk (s := .int .u8) h10.p1 (n : Int) rfl ?_
    rw [bit_u8 (Go.Bits.getD_lt hb (k / 8)), or_bit32 (by omega) (by omega), u8_id (x := (n : Int) + 1) (by omega)]
    refine StC.blk h10.p1 rfl (sc2 rfl rfl) fun w11 h11 => Ld.stBlk (ks := [.int .u32, .int .u8]) h11 (((2 * c + bitAt bs k : Nat) : Int), (n : Int) + 1, ()) rfl ?_
    have hlk := run_lookup (P := Try.prog) (t := 83) keyOk_pc ty_mapPc (a := (((2 * c + bitAt bs k : Nat) : Int), ((n + 1 : Nat) : Int))) (z := .int .i64 0) (fun w => by kernel_rfl) h11.p2
    have ek : keyPc (((2 * c + bitAt bs k : Nat) : Int), ((n + 1 : Nat) : Int)) = .agg ⟨[.int .u32 ((2 * c + bitAt bs k : Nat) : Int), .int .u8 ((n : Int) + 1)]⟩ := rfl
    rw [ek] at hlk
    have hf := spell_find hl hv hys (c := 2 * c + bitAt bs k) (n := n + 1)
    generalize findAt (((2 * c + bitAt bs k : Nat) : Int), ((n + 1 : Nat) : Int)) (spell l ys ys.length) 0 = o at hf hlk
    cases o with
    | none =>
      have hfs : findS l (2 * c + bitAt bs k) (n + 1) = none := by
        cases hq : findS l (2 * c + bitAt bs k) (n + 1) with
        | none => rfl
        | some s => rw [hq] at hf; cases hf
      rw [hfs] at hr2
      simp only at hr2
      refine RunR.lk 0 false hlk (IfB.f rfl (Ld.blk (s := .int .u8) h11 ((n : Int) + 1) rfl (IfB.mk (fun h15 => ?_) (fun h15 => ?_))))
      · have h15 := of_decide_eq_true h15
        rw [if_pos (by omega)] at hr2
        exact bad hr2.symm w11 [_, _, _] h11
      · have h15 := of_decide_eq_false h15
        rw [if_neg (by omega)] at hr2
        rw [i64_id (by omega)]
        exact ⟨⟨k + 1, 2 * c + bitAt bs k, n + 1, acc, by omega, by omega, by omega, by omega, by omega, hr2, h11.p1⟩, by dsimp only; omega⟩
    | some p =>
      obtain ⟨j, v⟩ := p
      obtain ⟨sy, hfs, rfl⟩ : ∃ sy : Nat, findS l (2 * c + bitAt bs k) (n + 1) = some sy ∧ v = (sy : Int) := by
        cases hq : findS l (2 * c + bitAt bs k) (n + 1) with
        | none => rw [hq] at hf; cases hf
        | some s =>
          rw [hq] at hf
          exact ⟨s, rfl, by simpa using hf⟩
      rw [hfs] at hr2
      simp only at hr2
      refine RunR.lk (sy : Int) true hlk (IfB.t rfl (Nw.mk h11 fun b51 w12 h12 => run_append (s := out) (ys := [vI (sy : Int)]) (n := 1) ty_ints (by decide) (.inl ⟨3, by kernel_rfl⟩) h12.p2 (.inl ⟨some ⟨b51, 0, none⟩, 1, 1, rfl, rfl, h12.tells (Tells.blk rfl rfl)⟩) rfl one_scalar (by omega) (by omega) fun s' w13 h13 hs' => ?_))
      refine StC.blk h13.p2 rfl (sc2 rfl rfl) fun w14 h14 => Ld.blk (s := .int .u8) h14 (0 : Int) rfl (IfB.f (by decide) ?_)
      rw [i64_id (by omega)]
      refine ⟨⟨k + 1, 0, 0, acc ++ [sy], by omega, by omega, by omega, by decide, by simp; omega, hr2, ?_⟩, by dsimp only; omega⟩
      rw [ints_app, List.map_append]
      exact h14.p2.drop.p1
  · have hge : k = m := by have := of_decide_eq_false hge; omega
    subst hge
    rw [List.drop_of_length_le (by rw [bitsOf_len]; exact Nat.le_refl _), rdS] at hr2
    refine Ld.blk (s := .int .u8) hh.p1 (n : Int) rfl (IfB.mk (fun hp => ?_) (fun hp => ?_))
    · have hp := of_decide_eq_true hp
      rw [if_neg (by omega)] at hr2
      exact bad hr2.symm w9 [_, _, _] hh
    · have hp := of_decide_eq_false hp
      rw [if_pos (by omega)] at hr2
      exact hK2 acc hr2.symm out w9 hh.p1.drop.p1.drop
end
end Go.Proofs.Ytajpnkioigcejaa
