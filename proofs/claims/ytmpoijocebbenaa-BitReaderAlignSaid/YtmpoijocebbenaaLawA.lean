/-
  The statements of winepresslaw03 about one reader: their examples, and what the laws answer. Conditions: as each theorem states.
-/
import Derived.Test.YtmpoijocebbenaaRef03
namespace Go.Proofs.Ytmpoijocebbenaa
open Go Go.Vc Go.Bits

section
variable {E w : World} {F : List HP}
theorem wakes_c {K : Bool → World → Prop} (h : Hp E w F) (hK : ∀ w', Hp E w' F → K true w') : Cl Try.prog [kB] n_law03_wakes ⟨[]⟩ w K := by
  refine law03_wakes.ok _ _ ?_
  unfold law03_wakes.E
  refine new_c h fun p w1 h1 => IfB.f rfl (Nw.mk h1 fun b4 w3 h3 => Nw.mk h3 fun b6 w5 h5 => Nw.mk h5 fun b8 w7 h7 => ?_)
  refine feed_c (s := ⟨some ⟨b8, 0, none⟩, 3, 3⟩) (cs := [⟨some ⟨b4, 0, none⟩, 1, 1⟩, ⟨none, 0, 0⟩, ⟨some ⟨b6, 0, none⟩, 1, 1⟩]) (bs := [[165], [], [240]]) h7.p3 (Tells.blk rfl rfl) rfl (show (3 : Nat) ≤ big by decide) ?_ (by decide) (by decide) fun w9 h9 => ?_
  · intro i hi
    match i, hi with
    | 0, _ => exact Tells.cons (Tells.cons (Tells.blk rfl rfl))
    | 1, _ => exact Tells.nil
    | 2, _ => exact Tells.cons (Tells.blk rfl rfl)
  have h9 : Hp E w9 (Rd p [165, 240] 0 false :: _) := h9
  refine peek_c h9 fun w11 h11 _ => take_c h11 fun w14 h14 => ?_
  have h14 : Hp E w14 (Rd p [165, 240] 3 false :: _) := h14
  refine take_c h14 fun w17 h17 => ?_
  have h17 : Hp E w17 (Rd p [165, 240] 9 false :: _) := h17
  refine left_c h17 fun w20 h20 _ => used_c h20 (align_c h20 fun w24 h24 => ?_)
  have h24 : Hp E w24 (Rd p [165, 240] 16 false :: _) := h24
  refine take_c h24 fun w27 h27 => ?_
  have h27 : Hp E w27 (Rd p [165, 240] 16 false :: _) := h27
  refine take_c h27 fun w30 h30 => ?_
  have h30 : Hp E w30 (Rd p [165, 240] 16 false :: _) := h30
  refine take_c h30 fun w33 h33 => ?_
  have h33 : Hp E w33 (Rd p [165, 240] 16 false :: _) := h33
  refine end_c h33 fun w36 h36 => end_c h36 fun w38 h38 => Nw.mk h38 fun b41 w40 h40 => Nw.mk h40 fun b43 w42 h42 => ?_
  refine feed_c (s := ⟨some ⟨b43, 0, none⟩, 1, 1⟩) (cs := [⟨some ⟨b41, 0, none⟩, 1, 1⟩]) (bs := [[1]]) h42.p2 (Tells.blk rfl rfl) rfl (show (1 : Nat) ≤ big by decide) ?_ (by decide) (by decide) fun w44 h44 => ?_
  · intro i hi
    match i, hi with
    | 0, _ => exact Tells.cons (Tells.blk rfl rfl)
  have h44 : Hp E w44 (Rd p [165, 240] 16 true :: _) := h44
  refine align_c h44 fun w46 h46 => take_nil ?_
  have h46 : Hp E w46 (Rd p [165, 240] 16 true :: _) := h46
  iterate 18 refine IfB.t (by decide) ?_
  refine ended_c h46 ?_
  iterate 4 refine IfB.t (by decide) ?_
  refine feed_nil (s := ⟨none, 0, 0⟩) ?_
  refine IfB.t (by decide) (left_nil ?_)
  exact hK _ h46.drop.drop.drop.drop.drop.drop

theorem xor_byte {x : Nat} (h : x < 256) : ixor .u8 (x : Int) 255 = ((x ^^^ 255 : Nat) : Int) ∧ x ^^^ 255 < 256 := by
  have h2 : x ^^^ 255 < 2 ^ 8 := Nat.xor_lt_two_pow (by simpa using h) (by decide)
  have hm : IntKind.max .u8 = 255 := rfl
  have h2 : x ^^^ 255 < 256 := by simpa using h2
  have := ixor_nat (k := .u8) (a := x) (b := 255) (by rw [hm]; omega) (by decide) (by rw [hm]; omega)
  exact ⟨this, h2⟩
/-- one chunk is fed -/
theorem feed1_c {K : Bool → World → Prop} {p : Addr} {b0 : Nat} {t0 : TypeId} {c b : List Nat} {u : Nat} {e : Bool} {s : Sl} (h : Hp E w (Blk b0 (.cells #[.slice s.base s.len s.cap] t0 (0, 0)) :: Rd p c u e :: F)) (hs : Tells F (SlT 1 s (b.map vB))) (hb : ∀ y ∈ b, y < 256) (hbig : c.length + b.length ≤ big)
    (hK : ∀ w', Hp E w' (Rd p (if e then c else c ++ b) u e :: F) → K (!e) w') : Cl Try.prog [kB] n_bitreader_Reader_Feed ⟨[.pointer (some p), .slice (some ⟨b0, 0, none⟩) 1 1]⟩ w K := by
  refine feed_c (s := ⟨some ⟨b0, 0, none⟩, 1, 1⟩) (cs := [s]) (bs := [b]) h.p1 (Tells.blk rfl rfl) rfl (show (1 : Nat) ≤ big by decide) ?_ (by simpa using hb) (by simpa using hbig) fun w' h' => hK _ ?_
  · intro i hi
    match i, hi with
    | 0, _ => exact Tells.cons hs
  · have := h'.p1.drop
    simpa using this
theorem peekB_t {c : List Nat} {u n : Nat} (h : n ≤ 32) (h2 : u + n ≤ 8 * c.length) : peekB c u (n : Int) = true := decide_eq_true (by omega)
theorem peekV_t {c : List Nat} {u n : Nat} (h : n ≤ 32) (h2 : u + n ≤ 8 * c.length) : peekV c u (n : Int) = (val c u n : Int) := by
  unfold peekV; rw [if_pos (by omega), Int.toNat_natCast]
theorem takeN_c {p : Addr} {c : List Nat} {u n : Nat} {e : Bool} {K : Int → Bool → World → Prop} (h : Hp E w (Rd p c u e :: F)) (h32 : n ≤ 32) (h2 : u + n ≤ 8 * c.length) (hK : ∀ w', Hp E w' (Rd p c (u + n) e :: F) → K (val c u n : Int) true w') :
    Cl Try.prog [kInt .u32, kB] n_bitreader_Reader_Take ⟨[.pointer (some p), .int .i64 (n : Int)]⟩ w K := by
  refine take_c h fun w' h' => ?_
  rw [peekB_t h32 h2, if_pos rfl, Int.toNat_natCast] at h'
  rw [peekB_t h32 h2, peekV_t h32 h2]
  exact hK _ h'
theorem own_c {s : Sl} {b : List Nat} {K : Bool → World → Prop} (h : Hp E w F) (hs : Tells F (SlT 1 s (b.map vB))) (hb : ∀ y ∈ b, y < 256) (hK : ∀ w', Hp E w' F → K true w') :
    Cl Try.prog [kB] n_law03_BitReaderOwn ⟨[.slice s.base s.len s.cap]⟩ w K := by
  refine law03_BitReaderOwn.ok _ _ _ ?_
  unfold law03_BitReaderOwn.E
  have hl := (h.tells hs).1
  simp only [List.length_map, Nat.mul_one] at hl
  simp only [Join_eq]
  refine IfB.mk (fun _ => wakes_c h hK) (fun hlen => ?_)
  have hlen : b.length ≤ 100 := by have := of_decide_eq_false hlen; omega
  refine new_c h fun p w1 h1 => Nw.mk h1 fun b7 w2 h2 => ?_
  refine run_append (s := ⟨some ⟨b7, 0, none⟩, 0, 0⟩) (xs := []) ty_bytes (by decide) (.inl ⟨5, by kernel_rfl⟩) (h2.ownNew (n := 0) rfl) (.inl ⟨_, _, _, rfl, rfl, h2.drop.drop.tells hs⟩) (by simpa using hl) vB_scalar (by dsimp only; omega) (by dsimp only; omega) fun s9 w3 h3 hs9 => IfB.f rfl (Nw.mk h3 fun b12 w4 h4 => ?_)
  have hs9 : s9.len = b.length := by rw [hs9]; simp [hl]
  refine feed1_c h4.p2.q2.p1.q2 Tells.own hb (by rw [big_eq]; simp; omega) fun w5 h5 => IfB.f rfl ?_
  have h5 : Hp E w5 (Rd p b 0 false :: OwnS 1 s9 (b.map vB) :: F) := h5
  refine ⟨fun i w' => ∃ (k : Nat) (ys : List Nat), i = (k : Int) ∧ k ≤ b.length ∧ ys.length = b.length ∧ (∀ y ∈ ys, y < 256) ∧ Hp E w' (OwnS 1 s9 (ys.map vB) :: Rd p b 0 false :: F), fun i _ => b.length - i.toNat, ⟨0, b, rfl, by omega, rfl, hb, h5.p1⟩, ?_⟩
  rintro i w' ⟨k, ys, rfl, hk, hyl, hyb, hh⟩
  refine IfB.mk (fun hlt => ?_) (fun hge => ?_)
  · have hlt : k < b.length := by have := of_decide_eq_true hlt; omega
    refine Idx.rd (hh.tells Tells.own) (by omega) (by omega) fun q hi hq => ?_
    have hky : k < ys.length := by omega
    have hx : ys[k] < 256 := hyb _ (List.getElem_mem hky)
    refine Ld.sc (s := .int .u8) (ys[k] : Int) (by rw [hq]; simp [vB]) (St.own hh (by omega) (by omega) rfl fun w2 h2 => ?_)
    obtain ⟨hx1, hx2⟩ := xor_byte hx
    rw [i64_id (by omega)]
    refine ⟨⟨k + 1, ys.set k (ys[k] ^^^ 255), rfl, by omega, by simpa using hyl, ?_, ?_⟩, by dsimp only; omega⟩
    · intro y hy
      rcases List.mem_or_eq_of_mem_set hy with hy | rfl
      · exact hyb y hy
      · exact hx2
    · rw [hx1] at h2
      rw [List.map_set]
      exact h2
  · have hh := hh.drop
    refine ⟨fun i w' => ∃ k : Nat, i = (k : Int) ∧ k ≤ b.length ∧ Hp E w' (Rd p b (8 * k) false :: F), fun i _ => b.length - i.toNat, ⟨0, rfl, by omega, hh⟩, ?_⟩
    rintro i w' ⟨k, rfl, hk, hh⟩
    refine IfB.mk (fun hlt => ?_) (fun hge => ?_)
    · have hlt : k < b.length := by have := of_decide_eq_true hlt; omega
      refine takeN_c (n := 8) hh (by decide) (by omega) fun w2 h2 => IfB.f rfl ?_
      refine Idx.rd (h2.drop.tells hs) (by omega) (by omega) fun q hi hq => ?_
      refine Ld.sc (s := .int .u8) (b[k] : Int) (by rw [hq]; simp [vB]) ?_
      have hx : b[k] < 256 := hb _ (List.getElem_mem hlt)
      have hv := val_byte b k (getD_lt hb k)
      rw [List.getD_eq_getElem?_getD, List.getElem?_eq_getElem hlt, Option.getD_some] at hv
      rw [hv, u8_id (by omega), i64_id (by omega)]
      exact IfB.f (by simp) ⟨⟨k + 1, rfl, by omega, h2⟩, by dsimp only; omega⟩
    · have hge : k = b.length := by have := of_decide_eq_false hge; omega
      subst hge
      exact left_c hh fun w2 h2 _ => IfB.t (by simp) (wakes_c h2.drop hK)
/-- a reader that holds b, n bits of it taken one by one -/
theorem bits_eq {c : List Nat} {u n k : Nat} (h : n ≤ 32) (hk : k < n) : i64 (iand .u32 (ishr .u32 (val c u n : Int) (u64 (i64 (i64 ((n : Int) - 1) - (k : Int))))) 1) = (bitAt c (u + k) : Int) := by
  have hv := val_lt c u n
  have hp : 2 ^ n ≤ 2 ^ 32 := Nat.pow_le_pow_right (by decide) h
  have hmx : IntKind.max .u32 = 4294967295 := rfl
  simp (disch := omega) only [i64_id, u64_id]
  have e1 : (n : Int) - 1 - (k : Int) = ((n - 1 - k : Nat) : Int) := by omega
  rw [e1, ishr_nat (k := .u32) (by have : IntKind.bits .u32 = 32 := rfl; omega)]
  have hd := Nat.div_le_self (val c u n) (2 ^ (n - 1 - k))
  have := iand_nat (k := .u32) (a := val c u n / 2 ^ (n - 1 - k)) (b := 1) (by rw [hmx]; omega) (by rw [hmx]; omega)
  have e3 := and_mask (val c u n / 2 ^ (n - 1 - k)) 1
  simp only [Nat.reducePow, Nat.reduceSub] at e3
  rw [e3, val_bit c u n k hk] at this
  have hb := bitAt_lt c (u + k)
  rw [show (1 : Int) = ((1 : Nat) : Int) from rfl, this, i64_id (by omega)]
theorem align_law {s : Sl} {b : List Nat} {bits : Int} {K : Bool → World → Prop} (h : Hp E w F) (hs : Tells F (SlT 1 s (b.map vB))) (hb : ∀ y ∈ b, y < 256) (hbits : -9223372036854775808 ≤ bits ∧ bits ≤ 9223372036854775807) (hK : ∀ w', Hp E w' F → K true w') :
    Cl Try.prog [kB] n_law03_BitReaderAlign ⟨[.slice s.base s.len s.cap, .int .i64 bits]⟩ w K := by
  refine law03_BitReaderAlign.ok _ _ _ _ ?_
  unfold law03_BitReaderAlign.E
  have hl := (h.tells hs).1
  simp only [List.length_map, Nat.mul_one] at hl
  simp only [Join_eq]
  refine IfB.mk (fun _ => wakes_c h hK) (fun hlen => IfB.mk (fun _ => wakes_c h hK) (fun h0 => IfB.mk (fun _ => wakes_c h hK) (fun h8 => ?_)))
  have hlen : b.length ≤ 100 := by have := of_decide_eq_false hlen; omega
  have h0 := of_decide_eq_false h0
  have h8 := of_decide_eq_false h8
  obtain ⟨n, rfl⟩ := Int.eq_ofNat_of_zero_le (a := bits) (by omega)
  rw [i64_id (by omega)] at h8
  have hn : n ≤ 8 * b.length := by omega
  refine new_c h fun p w1 h1 => IfB.f rfl (Nw.mk h1 fun b15 w2 h2 => feed1_c h2 hs hb (by rw [big_eq]; simp; omega) fun w3 h3 => IfB.f rfl ?_)
  have h3 : Hp E w3 (Rd p b 0 false :: F) := h3
  refine ⟨fun i w' => ∃ k : Nat, i = (k : Int) ∧ k ≤ n ∧ Hp E w' (Rd p b k false :: F), fun i _ => n - i.toNat, ⟨0, rfl, by omega, h3⟩, ?_⟩
  rintro i w' ⟨k, rfl, hk, hh⟩
  refine IfB.mk (fun hlt => ?_) (fun hge => ?_)
  · have hlt : k < n := by have := of_decide_eq_true hlt; omega
    refine takeN_c (n := 1) hh (by decide) (by omega) fun w2 h2 => IfB.f rfl ?_
    rw [i64_id (by omega)]
    exact ⟨⟨k + 1, rfl, by omega, h2⟩, by dsimp only; omega⟩
  · have hge : k = n := by have := of_decide_eq_false hge; omega
    subst hge
    have hp8 : padN k ≤ 7 := by unfold padN; split <;> omega
    have hpm : (padN k : Int) = Int.tmod (i64 (8 - Int.tmod (k : Int) 8)) 8 := by
      have e1 : Int.tmod (k : Int) 8 = ((k % 8 : Nat) : Int) := rfl
      rw [e1, i64_id (by omega)]
      have e2 : (8 - ((k % 8 : Nat) : Int)) = ((8 - k % 8 : Nat) : Int) := by omega
      rw [e2]
      have e3 : Int.tmod ((8 - k % 8 : Nat) : Int) 8 = (((8 - k % 8) % 8 : Nat) : Int) := rfl
      rw [e3]; unfold padN; split <;> omega
    have hpk : k + padN k ≤ 8 * b.length := by unfold padN; split <;> omega
    rw [← hpm]
    refine align_c hh fun w4 h4 => ⟨by decide, by decide, IfB.f (by simp) (used_c h4 (IfB.f ?_ (left_c h4 fun w5 h5 _ => IfB.f ?_ ?_)))⟩
    · rw [i64_id (by omega)]; simp
    · simp (disch := omega) only [i64_id]
      simp; omega
    refine ⟨fun i w' => ∃ j : Nat, i = (j : Int) ∧ j ≤ padN k ∧ Hp E w' (Rd p b (k + padN k) false :: F), fun i _ => padN k - i.toNat, ⟨0, rfl, by omega, h5⟩, ?_⟩
    rintro i w' ⟨j, rfl, hj, hh⟩
    refine IfB.mk (fun hlt => ?_) (fun hge => ?_)
    · have hlt : j < padN k := by have := of_decide_eq_true hlt; omega
      refine ⟨by rw [u64_id]; all_goals (simp (disch := omega) only [i64_id]; omega), ?_⟩
      rw [i64_id (x := (k : Int) + (j : Int)) (by omega)]
      refine bit_c (i := k + j) (hh.drop.tells hs) (by omega) hb (by rw [big_eq]; omega) ?_
      rw [bits_eq (by omega) hlt, i64_id (by omega)]
      exact IfB.f (by simp) ⟨⟨j + 1, rfl, by omega, hh⟩, by dsimp only; omega⟩
    · refine align_c hh fun w6 h6 => ?_
      have hp0 : padN (k + padN k) = 0 := by unfold padN; split <;> (rw [if_pos]; omega)
      rw [hp0]
      refine IfB.t rfl (IfB.t rfl (IfB.mk (fun _ => wakes_c h6.drop hK) (fun hz => IfB.t ?_ (wakes_c h6.drop hK))))
      have hz := of_decide_eq_false hz
      have : padN k = 0 := by omega
      rw [this]; rfl
end
end Go.Proofs.Ytmpoijocebbenaa
