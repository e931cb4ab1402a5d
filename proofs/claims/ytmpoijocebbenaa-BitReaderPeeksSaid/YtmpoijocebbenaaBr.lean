/-
  What the functions of bitreader compute. Conditions: as each theorem states.
-/
import Derived.Test.YtmpoijocebbenaaF
import Derived.Test.YtmpoijocebbenaaLib
import Derived.Test.YtmpoijocebbenaaBits
namespace Go.Proofs.Ytmpoijocebbenaa
open Go Go.Vc Go.Bits

def big : Nat := 1099511627776
theorem big_eq : big = 1099511627776 := rfl
theorem ty_bytes : ElemT Try.prog 28 5 1 1 := ElemT.of (by kernel_rfl) (by kernel_rfl)
/-- the reader at p: the bytes fed, the bits used, whether it is ended -/
def Rd (p : Addr) (c : List Nat) (u : Nat) (e : Bool) : HP := fun f => ∃ x : Nat × Sl × TypeId,
  (p = ⟨x.1, 0, none⟩ ∧ u ≤ 8 * c.length ∧ (∀ y ∈ c, y < 256) ∧ c.length ≤ big) ∧
  Sat [Blk x.1 (.cells #[.slice x.2.1.base x.2.1.len x.2.1.cap, .int .i64 ((u % 8 : Nat) : Int), .int .i64 (u : Int), .bool e] x.2.2 (0, 0)), OwnS 1 x.2.1 ((c.drop (u / 8)).map vB)] f
section
variable {E w : World} {F : List HP} {p : Addr} {c : List Nat} {u : Nat} {e : Bool}
theorem Rd.opn (h : Hp E w (Rd p c u e :: F)) : ∃ b s t, p = ⟨b, 0, none⟩ ∧ u ≤ 8 * c.length ∧ (∀ y ∈ c, y < 256) ∧ c.length ≤ big ∧
    Hp E w (Blk b (.cells #[.slice s.base s.len s.cap, .int .i64 ((u % 8 : Nat) : Int), .int .i64 (u : Int), .bool e] t (0, 0)) :: OwnS 1 s ((c.drop (u / 8)).map vB) :: F) := by
  obtain ⟨⟨b, s, t⟩, ⟨h1, h2, h3, h4⟩, h⟩ := h.open1 (X := fun x : Nat × Sl × TypeId => p = ⟨x.1, 0, none⟩ ∧ u ≤ 8 * c.length ∧ (∀ y ∈ c, y < 256) ∧ c.length ≤ big)
    (L := fun x => [Blk x.1 (.cells #[.slice x.2.1.base x.2.1.len x.2.1.cap, .int .i64 ((u % 8 : Nat) : Int), .int .i64 (u : Int), .bool e] x.2.2 (0, 0)), OwnS 1 x.2.1 ((c.drop (u / 8)).map vB)]) (fun f hf => hf)
  exact ⟨b, s, t, h1, h2, h3, h4, h⟩
theorem Rd.shut {b : Nat} {s : Sl} {t : TypeId} (h2 : u ≤ 8 * c.length) (h3 : ∀ y ∈ c, y < 256) (h4 : c.length ≤ big)
    (h : Hp E w (Blk b (.cells #[.slice s.base s.len s.cap, .int .i64 ((u % 8 : Nat) : Int), .int .i64 (u : Int), .bool e] t (0, 0)) :: OwnS 1 s ((c.drop (u / 8)).map vB) :: F)) : Hp E w (Rd ⟨b, 0, none⟩ c u e :: F) :=
  Hp.shut1 (l := [_, _]) (fun f hf => ⟨(b, s, t), ⟨rfl, h2, h3, h4⟩, hf⟩) h

theorem new_c {K : Option Addr → World → Prop} (h : Hp E w F) (hK : ∀ p w', Hp E w' (Rd p [] 0 false :: F) → K (some p) w') : Cl Try.prog [kP] n_bitreader_New ⟨[]⟩ w K := by
  refine bitreader_New.ok _ _ ?_
  unfold bitreader_New.E
  refine Nw.mk h fun b w' h' => hK _ _ ?_
  exact Rd.shut (s := ⟨none, 0, 0⟩) (by simp) (by simp) (by simp) ((h'.ownNil 1).p1)
theorem left_c {K : Int → World → Prop} (h : Hp E w (Rd p c u e :: F)) (hK : ∀ w', Hp E w' (Rd p c u e :: F) → w'.heap = w.heap → K ((8 * c.length - u : Nat) : Int) w') : Cl Try.prog [kI] n_bitreader_Reader_Left ⟨[.pointer (some p)]⟩ w K := by
  obtain ⟨b, s, t, rfl, h1, h2, h3, h⟩ := Rd.opn h
  refine bitreader_Reader_Left.ok _ _ _ ?_
  simp only [bitreader_Reader_Left.E, Option.isNone, IfB_f, NilCk_some, add_mk, Nat.zero_add]
  have hd : Hp E { w with drawn := w.drawn + 1 } _ := h.drew
  have hl := hd.p1.ownLen
  rw [big_eq] at h3
  refine Ld.blk hd s rfl ⟨by decide, Ld.blk hd _ rfl ?_⟩
  have e1 : s.len = c.length - u / 8 := by simpa using hl.symm
  have e2 : i64 (ishl .i64 (s.len : Int) 3 - ((u % 8 : Nat) : Int)) = ((8 * c.length - u : Nat) : Int) := by
    have : ishl .i64 (s.len : Int) 3 = ((s.len * 2 ^ 3 : Nat) : Int) := ishl_nat (k := .i64) (b := 3) (by decide) (by have : IntKind.max .i64 = 9223372036854775807 := rfl; rw [this]; omega)
    rw [this, i64_id (by omega)]
    omega
  rw [e2]
  exact hK _ (Rd.shut h1 h2 (by rw [big_eq]; exact h3) hd) rfl
theorem used_c {K : Int → World → Prop} (h : Hp E w (Rd p c u e :: F)) (hK : K (u : Int) w) : Cl Try.prog [kI] n_bitreader_Reader_Used ⟨[.pointer (some p)]⟩ w K := by
  obtain ⟨b, s, t, rfl, h1, h2, h3, h⟩ := Rd.opn h
  refine bitreader_Reader_Used.ok _ _ _ ?_
  simp only [bitreader_Reader_Used.E, Option.isNone, IfB_f, NilCk_some, add_mk, Nat.zero_add]
  exact Ld.blk h _ rfl hK
theorem ended_c {K : Bool → World → Prop} (h : Hp E w (Rd p c u e :: F)) (hK : K e w) : Cl Try.prog [kB] n_bitreader_Reader_Ended ⟨[.pointer (some p)]⟩ w K := by
  obtain ⟨b, s, t, rfl, h1, h2, h3, h⟩ := Rd.opn h
  refine bitreader_Reader_Ended.ok _ _ _ ?_
  simp only [bitreader_Reader_Ended.E, Option.isNone, Bool.not_false, IfB_t, NilCk_some, add_mk, Nat.zero_add]
  exact Ld.blk h _ rfl hK
theorem end_c {K : Bool → World → Prop} (h : Hp E w (Rd p c u e :: F)) (hK : ∀ w', Hp E w' (Rd p c u true :: F) → K (!e) w') : Cl Try.prog [kB] n_bitreader_Reader_End ⟨[.pointer (some p)]⟩ w K := by
  have h0 := h
  obtain ⟨b, s, t, rfl, h1, h2, h3, h⟩ := Rd.opn h
  refine bitreader_Reader_End.ok _ _ _ ?_
  simp only [bitreader_Reader_End.E, Option.isNone, IfB_f, NilCk_some, add_mk, Nat.zero_add]
  refine Ld.blk h _ rfl ?_
  cases e
  · exact St.blk h (by simp) rfl fun w' h' => hK _ (Rd.shut h1 h2 h3 h')
  · exact hK _ h0
theorem feed_c {K : Bool → World → Prop} {s : Sl} {cs : List Sl} {bs : List (List Nat)} (h : Hp E w (Rd p c u e :: F))
    (hs : Tells F (SlT 1 s (cs.map fun x => .slice x.base x.len x.cap))) (hl : cs.length = bs.length) (hcl : cs.length ≤ big) (hc : ∀ i (h : i < cs.length), Tells F (SlT 1 cs[i] ((bs.getD i []).map vB)))
    (hb : ∀ b ∈ bs, ∀ y ∈ b, y < 256) (hbig : c.length + bs.flatten.length ≤ big)
    (hK : ∀ w', Hp E w' (Rd p (if e then c else c ++ bs.flatten) u e :: F) → K (!e) w') : Cl Try.prog [kB] n_bitreader_Reader_Feed ⟨[.pointer (some p), .slice s.base s.len s.cap]⟩ w K := by
  refine bitreader_Reader_Feed.ok _ _ _ _ ?_
  simp only [bitreader_Reader_Feed.E, Option.isNone, IfB_f, NilCk_some]
  have h0 := h
  obtain ⟨b, s0, t0, rfl, h1, h2, h3, h⟩ := Rd.opn h
  have hlen : s.len = cs.length := by have := (h.drop.drop.tells hs).1; simpa using this.symm
  simp only [add_mk, Nat.zero_add]
  refine Ld.blk h _ rfl ?_
  cases e
  · refine ⟨fun i w' => ∃ k : Nat, i = (k : Int) ∧ k ≤ cs.length ∧ Hp E w' (Rd ⟨b, 0, none⟩ (c ++ (bs.take k).flatten) u false :: F), fun i _ => cs.length - i.toNat, ⟨0, rfl, by omega, by simpa using h0⟩, ?_⟩
    rintro i w' ⟨k, rfl, hk, hh⟩
    refine IfB.mk (fun hlt => ?_) (fun hge => ?_)
    · have hlt : k < cs.length := by simpa [hlen] using hlt
      obtain ⟨b', s', t', hp, g1, g2, g3, hh⟩ := Rd.opn hh
      cases hp
      refine Idx.rd (hh.drop.drop.tells hs) (by omega) (by omega) fun q hi hq => ?_
      have hq' : w'.cell? q = some (Sc.sl.enc cs[k]) := by simpa using hq
      refine Ld.sc _ hq' ?_
      simp only [NilCk_some, add_mk, Nat.zero_add]
      refine Ld.blk hh s' rfl ?_
      have hsrc := hh.drop.drop.tells (hc k hlt)
      have hlen2 := hsrc.1
      simp only [List.length_map, Nat.mul_one] at hlen2
      have hfl : (bs.take (k + 1)).flatten = (bs.take k).flatten ++ bs.getD k [] := by
        rw [List.take_add_one, List.flatten_append]
        congr 1
        have : k < bs.length := by omega
        simp [this]
      have hle : (bs.take (k + 1)).flatten.length ≤ bs.flatten.length := by
        have := congrArg (fun l => (List.flatten l).length) (List.take_append_drop (k + 1) bs)
        simp only [List.flatten_append, List.length_append] at this
        omega
      rw [hfl, List.length_append] at hle
      have ho := hh.p1.ownLen
      simp only [List.length_map, Nat.mul_one, List.length_drop, List.length_append] at ho
      rw [big_eq] at hbig hcl
      refine run_append ty_bytes (by decide) (.inl ⟨5, by kernel_rfl⟩) hh.p1 (.inl ⟨_, _, _, rfl, rfl, hsrc⟩) (by simpa using hlen2) vB_scalar (by omega) (by omega) fun s2 w2 h2' hs2 => ?_
      refine St.blk h2'.p1 (by simp) rfl fun w3 h3' => ?_
      refine ⟨⟨k + 1, ?_, by omega, ?_⟩, ?_⟩
      · rw [i64_id (by omega)]; rfl
      · refine Rd.shut (s := s2) (t := t') ?_ ?_ ?_ ?_
        · rw [hfl, ← List.append_assoc, List.length_append]; omega
        · intro y hy
          rw [hfl, ← List.append_assoc, List.mem_append] at hy
          rcases hy with hy | hy
          · exact g2 y hy
          · have : k < bs.length := by omega
            simp only [List.getD_eq_getElem?_getD, this, List.getElem?_eq_getElem, Option.getD_some] at hy
            exact hb _ (List.getElem_mem _) y hy
        · rw [hfl, ← List.append_assoc, List.length_append, big_eq]; rw [List.length_append]; omega
        · rw [hfl, ← List.append_assoc, List.drop_append_of_le_length (by omega), List.map_append]
          exact h3'
      · rw [i64_id (by omega)]; omega
    · have hge : ¬ (k : Int) < (s.len : Int) := by simpa using hge
      have : k = cs.length := by omega
      subst this
      refine hK _ ?_
      rw [hl, List.take_length] at hh
      exact hh
  · exact hK _ h0
/-- what Peek returns -/
def peekV (c : List Nat) (u : Nat) (width : Int) : Int := if 0 ≤ width ∧ width ≤ 32 ∧ width ≤ ((8 * c.length - u : Nat) : Int) then (val c u width.toNat : Int) else 0
def peekB (c : List Nat) (u : Nat) (width : Int) : Bool := decide (0 ≤ width ∧ width ≤ 32 ∧ width ≤ ((8 * c.length - u : Nat) : Int))
theorem peek_c {width : Int} {K : Int → Bool → World → Prop} (h : Hp E w (Rd p c u e :: F)) (hK : ∀ w', Hp E w' (Rd p c u e :: F) → w'.heap = w.heap → K (peekV c u width) (peekB c u width) w') :
    Cl Try.prog [kInt .u32, kB] n_bitreader_Reader_Peek ⟨[.pointer (some p), .int .i64 width]⟩ w K := by
  refine bitreader_Reader_Peek.ok _ _ _ _ ?_
  simp only [bitreader_Reader_Peek.E, Join_eq, Option.isNone, IfB_f]
  refine IfB.mk (fun hlt => ?_) (fun h1 => IfB.mk (fun hlt => ?_) (fun h2 => left_c h fun w1 hh heq => IfB.mk (fun hlt => ?_) (fun h3 => ?_)))
  · have hlt : width < 0 := by simpa using hlt
    have := hK w h rfl
    rwa [peekV, if_neg (by omega), peekB, decide_eq_false (by omega)] at this
  · have hlt : width > 32 := by simpa using hlt
    have := hK w h rfl
    rwa [peekV, if_neg (by omega), peekB, decide_eq_false (by omega)] at this
  · have hlt : width > ((8 * c.length - u : Nat) : Int) := by simpa using hlt
    have := hK w1 hh heq
    rwa [peekV, if_neg (by omega), peekB, decide_eq_false (by omega)] at this
  · have h1 : 0 ≤ width := by simpa using h1
    have h2 : width ≤ 32 := by simpa using h2
    have h3 : width ≤ ((8 * c.length - u : Nat) : Int) := by simpa using h3
    have hK := hK w1 hh heq
    rw [peekV, if_pos ⟨h1, h2, h3⟩, peekB, decide_eq_true ⟨h1, h2, h3⟩] at hK
    obtain ⟨n, rfl⟩ := Int.eq_ofNat_of_zero_le h1
    rw [Int.toNat_natCast] at hK
    obtain ⟨b, s, t, rfl, g1, g2, g3, hh⟩ := Rd.opn hh
    rw [big_eq] at g3
    simp only [NilCk_some, add_mk, Nat.zero_add]
    refine Ld.blk hh _ rfl ⟨by decide, Ld.blk hh s rfl ?_⟩
    have em : ishr .i64 (i64 (i64 (((u % 8 : Nat) : Int) + (n : Int)) + 7)) 3 = (((u % 8 + n + 7) / 8 : Nat) : Int) := by
      simp (disch := omega) only [i64_id]
      have := ishr_nat (k := .i64) (a := u % 8 + n + 7) (b := 3) (by decide)
      simpa using this
    rw [em]
    generalize hm : (u % 8 + n + 7) / 8 = m
    have hl := hh.p1.ownLen
    simp only [List.length_map, Nat.mul_one, List.length_drop] at hl
    have hsl : SlT 1 s ((c.drop (u / 8)).map vB) w1 := hh.drop.tells Tells.own
    have hcap := hh.drop.ownCap
    refine Slc.rd hsl (by omega) (by omega) (by omega) (by omega) (by omega) fun s2 hs2 hl2 => ?_
    have hs2 := hs2 w1 hsl
    simp only [Int.toNat_zero, List.drop_zero, Nat.sub_zero, Int.toNat_natCast] at hs2 hl2
    refine ⟨fun v i w' => w' = w1 ∧ ∃ k : Nat, i = (k : Int) ∧ k ≤ m ∧ v = (val (c.drop (u / 8)) 0 (8 * k) : Int),
      fun _ i _ => m - i.toNat, ⟨rfl, 0, rfl, by omega, rfl⟩, ?_⟩
    rintro v i w' ⟨rfl, k, rfl, hk, rfl⟩
    refine IfB.mk (fun hlt => ?_) (fun hge => ?_)
    · have hlt : k < m := by have : (k : Int) < (s2.len : Int) := by simpa using hlt
                             omega
      refine Idx.rd hs2 (by omega) (by omega) fun q hi hq => ?_
      have hkl : k < (c.drop (u / 8)).length := by rw [List.length_drop]; omega
      have hq' : w'.cell? q = some (Sc.enc (.int .u8) ((c.drop (u / 8)).getD k 0 : Int)) := by
        rw [hq]
        simp [vB, List.getD_eq_getElem?_getD, show u / 8 + k < c.length by rw [List.length_drop] at hkl; omega]
      refine Ld.sc _ hq' ⟨by decide, ?_⟩
      have hc8 : (c.drop (u / 8)).getD k 0 < 256 := getD_lt (fun y hy => g2 y (List.mem_of_mem_drop hy)) k
      have hv := val_lt (c.drop (u / 8)) 0 (8 * k)
      have hm5 : m ≤ 5 := by omega
      have hp : 2 ^ (8 * k) ≤ 2 ^ 32 := Nat.pow_le_pow_right (by decide) (by omega)
      have e2 : ior .u64 (ishl .u64 (val (c.drop (u / 8)) 0 (8 * k) : Int) 8) (u64 ((c.drop (u / 8)).getD k 0 : Int)) = (val (c.drop (u / 8)) 0 (8 * (k + 1)) : Int) := by
        have hmx : IntKind.max .u64 = 18446744073709551615 := rfl
        have e3 := ishl_nat (k := .u64) (a := val (c.drop (u / 8)) 0 (8 * k)) (b := 8) (by decide) (by rw [hmx]; omega)
        rw [u64_id (by omega)]
        have e3 : ishl .u64 (val (c.drop (u / 8)) 0 (8 * k) : Int) 8 = ((val (c.drop (u / 8)) 0 (8 * k) * 256 : Nat) : Int) := by simpa using e3
        rw [e3]
        have e4 := or_byte (val (c.drop (u / 8)) 0 (8 * k)) _ hc8
        rw [ior_nat (by rw [hmx]; omega) (by rw [hmx]; omega) (by rw [e4, hmx]; omega), e4, val_bytes _ _ hc8]
      rw [e2, i64_id (by omega)]
      exact ⟨⟨rfl, k + 1, rfl, by omega, rfl⟩, by dsimp only; omega⟩
    · have hge : k = m := by have : ¬ (k : Int) < (s2.len : Int) := by simpa using hge
                             omega
      subst hge
      refine ⟨by decide, Ld.blk hh _ rfl ?_⟩
      have e1 : u64 (i64 (i64 (ishl .i64 (k : Int) 3 - ((u % 8 : Nat) : Int)) - (n : Int))) = ((8 * k - u % 8 - n : Nat) : Int) := by
        have := ishl_nat (k := .i64) (a := k) (b := 3) (by decide) (by have : IntKind.max .i64 = 9223372036854775807 := rfl; rw [this]; omega)
        have e0 : ishl .i64 (k : Int) 3 = ((k * 8 : Nat) : Int) := by simpa using this
        rw [e0]
        simp (disch := omega) only [i64_id, u64_id]
        omega
      have e2 : u64 (n : Int) = (n : Int) := u64_id (by omega)
      have e3 : u64 (ishl .u64 1 (n : Int) - 1) = ((2 ^ n - 1 : Nat) : Int) := by
        have hp : 2 ^ n ≤ 2 ^ 32 := Nat.pow_le_pow_right (by decide) (by omega)
        have := ishl_nat (k := .u64) (a := 1) (b := n) (by have : IntKind.bits .u64 = 64 := rfl; omega) (by have : IntKind.max .u64 = 18446744073709551615 := rfl; rw [this]; omega)
        have e0 : ishl .u64 1 (n : Int) = ((2 ^ n : Nat) : Int) := by simpa using this
        have := Nat.two_pow_pos n
        rw [e0, u64_id (by omega)]
        omega
      rw [e1, e2, e3]
      refine ⟨by omega, by omega, ?_⟩
      have hv := val_lt (c.drop (u / 8)) 0 (8 * k)
      have hmx : IntKind.max .u64 = 18446744073709551615 := rfl
      have hp : 2 ^ (8 * k) ≤ 2 ^ 40 := Nat.pow_le_pow_right (by decide) (by omega)
      have hp2 : 2 ^ n ≤ 2 ^ 32 := Nat.pow_le_pow_right (by decide) (by omega)
      have hq := Nat.div_le_self (val (c.drop (u / 8)) 0 (8 * k)) (2 ^ (8 * k - u % 8 - n))
      rw [ishr_nat (k := .u64) (by have : IntKind.bits .u64 = 64 := rfl; omega), iand_nat (by rw [hmx]; omega) (by rw [hmx]; omega), and_mask]
      have hmid := val_mid (c.drop (u / 8)) (u % 8) n (8 * k - u % 8 - n)
      rw [show u % 8 + n + (8 * k - u % 8 - n) = 8 * k by omega, val_drop c (u / 8) (u % 8) n, show 8 * (u / 8) + u % 8 = u by omega] at hmid
      rw [hmid]
      have hlt := val_lt c u n
      rw [u32_id (by omega)]
      exact hK
theorem take_c {width : Int} {K : Int → Bool → World → Prop} (h : Hp E w (Rd p c u e :: F)) (hK : ∀ w', Hp E w' (Rd p c (if peekB c u width then u + width.toNat else u) e :: F) → K (peekV c u width) (peekB c u width) w') :
    Cl Try.prog [kInt .u32, kB] n_bitreader_Reader_Take ⟨[.pointer (some p), .int .i64 width]⟩ w K := by
  refine bitreader_Reader_Take.ok _ _ _ _ ?_
  unfold bitreader_Reader_Take.E
  refine peek_c h fun w1 h1 _ => ?_
  by_cases hb : peekB c u width = true
  · rw [hb, if_pos rfl] at hK
    rw [hb]
    simp only [Bool.not_true, IfB_f]
    unfold peekB at hb
    obtain ⟨b0, b1, b2⟩ := of_decide_eq_true hb
    obtain ⟨n, rfl⟩ := Int.eq_ofNat_of_zero_le b0
    rw [Int.toNat_natCast] at hK
    obtain ⟨b, s, t, rfl, g1, g2, g3, h1⟩ := Rd.opn h1
    rw [big_eq] at g3
    simp only [NilCk_some, add_mk, Nat.zero_add]
    refine Ld.blk h1 _ rfl ?_
    rw [i64_id (by omega)]
    refine St.blk h1 (by simp) rfl fun w2 h2 => ?_
    refine Ld.blk h2 _ rfl ?_
    rw [i64_id (by omega)]
    refine St.blk h2 (by simp) rfl fun w3 h3 => Drw.mk h3 fun w4 h4 => ?_
    refine Ld.blk h4 s rfl (Ld.blk h4 _ rfl ⟨by decide, ?_⟩)
    have e1 : ishr .i64 (((u % 8 : Nat) : Int) + (n : Int)) 3 = (((u % 8 + n) / 8 : Nat) : Int) := by
      have := ishr_nat (k := .i64) (a := u % 8 + n) (b := 3) (by decide)
      simpa using this
    rw [e1]
    have hl := h4.p1.ownLen
    simp only [List.length_map, Nat.mul_one, List.length_drop] at hl
    refine Slc.own h4.p1 (by omega) (by omega) (by omega) fun s2 h5 hl2 => ?_
    refine St.blk h5.p1 (by simp) rfl fun w6 h6 => ?_
    refine Ld.blk h6 _ rfl ?_
    refine St.blk h6 (by simp) rfl fun w7 h7 => hK _ ?_
    have e2 : iand .i64 (((u % 8 : Nat) : Int) + (n : Int)) 7 = (((u + n) % 8 : Nat) : Int) := by
      have hmx : IntKind.max .i64 = 9223372036854775807 := rfl
      have := iand_nat (k := .i64) (a := u % 8 + n) (b := 7) (by rw [hmx]; omega) (by rw [hmx]; omega)
      have e3 := and_mask (u % 8 + n) 3
      simp only [Nat.reducePow, Nat.reduceSub] at e3
      rw [e3] at this
      have : iand .i64 (((u % 8 : Nat) : Int) + (n : Int)) 7 = (((u % 8 + n) % 8 : Nat) : Int) := by simpa using this
      rw [this]
      congr 1; omega
    rw [e2] at h7
    refine Rd.shut (s := s2) (t := t) (by omega) g2 (by rw [big_eq]; exact g3) ?_
    have e4 : ((u : Int) + (n : Int)) = ((u + n : Nat) : Int) := by omega
    have e5 : (List.take (((s.len : Int)).toNat - ((((u % 8 + n) / 8 : Nat) : Int)).toNat) (((c.drop (u / 8)).map vB).drop ((((u % 8 + n) / 8 : Nat) : Int)).toNat)) = (c.drop ((u + n) / 8)).map vB := by
      rw [Int.toNat_natCast, Int.toNat_natCast, List.take_of_length_le (by simp; omega), ← List.map_drop, List.drop_drop]
      congr 2; omega
    rw [e5, e4] at h7
    exact h7
  · have hb : peekB c u width = false := by simpa using hb
    rw [hb, if_neg (by simp)] at hK
    rw [hb]
    simp only [Bool.not_false, IfB_t]
    have hv : peekV c u width = 0 := by unfold peekV; rw [if_neg]; unfold peekB at hb; exact of_decide_eq_false hb
    have := hK w1 h1
    rwa [hv] at this
/-- what Align returns, and where it leaves the reader -/
def padN (u : Nat) : Nat := if u % 8 = 0 then 0 else 8 - u % 8
theorem align_c {K : Int → Int → World → Prop} (h : Hp E w (Rd p c u e :: F)) (hK : ∀ w', Hp E w' (Rd p c (u + padN u) e :: F) → K (val c u (padN u) : Int) (padN u : Int) w') :
    Cl Try.prog [kInt .u32, kI] n_bitreader_Reader_Align ⟨[.pointer (some p)]⟩ w K := by
  refine bitreader_Reader_Align.ok _ _ _ ?_
  have h0 := h
  obtain ⟨b, s, t, rfl, g1, g2, g3, h⟩ := Rd.opn h
  rw [big_eq] at g3
  simp only [bitreader_Reader_Align.E, Option.isNone, IfB_f, NilCk_some, add_mk, Nat.zero_add]
  refine Ld.blk h _ rfl ?_
  by_cases hu : u % 8 = 0
  · have : padN u = 0 := by simp [padN, hu]
    rw [this] at hK
    refine IfB.t (by simp [hu]) (hK _ h0)
  · have hp : padN u = 8 - u % 8 := by simp [padN, hu]
    rw [hp] at hK
    refine IfB.f (by simp; omega) (Ld.blk h _ rfl ?_)
    rw [i64_id (by omega)]
    have hpk : peekB c u (8 - ((u % 8 : Nat) : Int)) = true := decide_eq_true (by omega)
    refine take_c h0 fun w1 h1 => ?_
    rw [hpk, if_pos rfl] at h1
    have e1 : (8 - ((u % 8 : Nat) : Int)).toNat = 8 - u % 8 := by omega
    have e2 : (8 - ((u % 8 : Nat) : Int)) = ((8 - u % 8 : Nat) : Int) := by omega
    have hv : peekV c u (8 - ((u % 8 : Nat) : Int)) = (val c u (8 - u % 8) : Int) := by
      unfold peekV; rw [if_pos (by omega), e1]
    rw [e1] at h1
    rw [hv, e2]
    exact hK _ h1
/-- nil readers -/
theorem take_nil {width : Int} {K : Int → Bool → World → Prop} (hK : K 0 false w) : Cl Try.prog [kInt .u32, kB] n_bitreader_Reader_Take ⟨[.pointer none, .int .i64 width]⟩ w K := by
  refine bitreader_Reader_Take.ok _ _ _ _ ?_
  unfold bitreader_Reader_Take.E
  refine bitreader_Reader_Peek.ok _ _ _ _ ?_
  simp only [bitreader_Reader_Peek.E, Join_eq, Option.isNone, IfB_t, Bool.not_false]
  exact hK
theorem feed_nil {s : Sl} {K : Bool → World → Prop} (hK : K false w) : Cl Try.prog [kB] n_bitreader_Reader_Feed ⟨[.pointer none, .slice s.base s.len s.cap]⟩ w K := by
  refine bitreader_Reader_Feed.ok _ _ _ _ ?_
  simp only [bitreader_Reader_Feed.E, Option.isNone, IfB_t]
  exact hK
theorem left_nil {K : Int → World → Prop} (hK : K 0 w) : Cl Try.prog [kI] n_bitreader_Reader_Left ⟨[.pointer none]⟩ w K := by
  refine bitreader_Reader_Left.ok _ _ _ ?_
  simp only [bitreader_Reader_Left.E, Option.isNone, IfB_t]
  exact hK
end
end Go.Proofs.Ytmpoijocebbenaa
