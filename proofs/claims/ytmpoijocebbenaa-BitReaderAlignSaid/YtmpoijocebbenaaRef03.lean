/-
  What the functions of the reference winepressref03 and the examples of winepresslaw03 compute. Conditions: as each theorem states.
-/
import Derived.Test.YtmpoijocebbenaaBr
namespace Go.Proofs.Ytmpoijocebbenaa
open Go Go.Vc Go.Bits

/-- the reference reader at p -/
def Rr (p : Addr) (c : List Nat) (u : Nat) (e : Bool) : HP := fun f => ∃ x : Nat × Sl × TypeId,
  (p = ⟨x.1, 0, none⟩ ∧ u ≤ 8 * c.length ∧ (∀ y ∈ c, y < 256) ∧ c.length ≤ big) ∧
  Sat [Blk x.1 (.cells #[.slice x.2.1.base x.2.1.len x.2.1.cap, .int .i64 (u : Int), .bool e] x.2.2 (0, 0)), OwnS 1 x.2.1 (c.map vB)] f
section
variable {E w : World} {F : List HP} {p : Addr} {c : List Nat} {u : Nat} {e : Bool}
theorem Rr.opn (h : Hp E w (Rr p c u e :: F)) : ∃ b s t, p = ⟨b, 0, none⟩ ∧ u ≤ 8 * c.length ∧ (∀ y ∈ c, y < 256) ∧ c.length ≤ big ∧
    Hp E w (Blk b (.cells #[.slice s.base s.len s.cap, .int .i64 (u : Int), .bool e] t (0, 0)) :: OwnS 1 s (c.map vB) :: F) := by
  obtain ⟨⟨b, s, t⟩, ⟨h1, h2, h3, h4⟩, h⟩ := h.open1 (X := fun x : Nat × Sl × TypeId => p = ⟨x.1, 0, none⟩ ∧ u ≤ 8 * c.length ∧ (∀ y ∈ c, y < 256) ∧ c.length ≤ big)
    (L := fun x => [Blk x.1 (.cells #[.slice x.2.1.base x.2.1.len x.2.1.cap, .int .i64 (u : Int), .bool e] x.2.2 (0, 0)), OwnS 1 x.2.1 (c.map vB)]) (fun f hf => hf)
  exact ⟨b, s, t, h1, h2, h3, h4, h⟩
theorem Rr.shut {b : Nat} {s : Sl} {t : TypeId} (h2 : u ≤ 8 * c.length) (h3 : ∀ y ∈ c, y < 256) (h4 : c.length ≤ big)
    (h : Hp E w (Blk b (.cells #[.slice s.base s.len s.cap, .int .i64 (u : Int), .bool e] t (0, 0)) :: OwnS 1 s (c.map vB) :: F)) : Hp E w (Rr ⟨b, 0, none⟩ c u e :: F) :=
  Hp.shut1 (l := [_, _]) (fun f hf => ⟨(b, s, t), ⟨rfl, h2, h3, h4⟩, hf⟩) h

theorem bit_c {s : Sl} {c : List Nat} {i : Nat} {K : Int → World → Prop} (hs : SlT 1 s (c.map vB) w) (hi : i < 8 * c.length) (hb : ∀ y ∈ c, y < 256) (hbig : c.length ≤ big) (hK : K (bitAt c i : Int) w) :
    Cl Try.prog [kI] n_ref03_Bit ⟨[.slice s.base s.len s.cap, .int .i64 (i : Int)]⟩ w K := by
  refine ref03_Bit.ok _ _ _ _ ?_
  rw [big_eq] at hbig
  have hl := hs.1
  simp only [List.length_map, Nat.mul_one] at hl
  have e8 : i64 (Int.tdiv (i : Int) 8) = ((i / 8 : Nat) : Int) := by
    have : Int.tdiv (i : Int) 8 = ((i / 8 : Nat) : Int) := rfl
    rw [this, i64_id (by omega)]
  have m8 : Int.tmod (i : Int) 8 = ((i % 8 : Nat) : Int) := rfl
  simp only [ref03_Bit.E, e8, m8]
  refine ⟨by decide, Idx.rd hs (by omega) (by omega) fun q hq hc => ?_⟩
  have hj : i / 8 < c.length := by omega
  have hc' : w.cell? q = some (Sc.enc (.int .u8) (c.getD (i / 8) 0 : Int)) := by
    rw [hc]
    simp only [List.getElem_map, Int.toNat_natCast, vB, List.getD_eq_getElem?_getD, List.getElem?_eq_getElem hj, Option.getD_some, Sc.enc]
  have hx := getD_lt hb (i / 8)
  refine Ld.sc _ hc' ⟨by decide, ?_⟩
  generalize hX : c.getD (i / 8) 0 = x at hx
  have hR : bitAt c i = x / 2 ^ (7 - i % 8) % 2 := by unfold bitAt; rw [hX]
  rw [hR] at hK
  refine ⟨fun v k w' => w' = w ∧ ∃ n : Nat, k = ((i % 8 + n : Nat) : Int) ∧ i % 8 + n ≤ 7 ∧ v = ((x / 2 ^ n : Nat) : Int), fun _ k _ => 7 - k.toNat, ⟨rfl, 0, rfl, by omega, ?_⟩, ?_⟩
  · rw [i64_id (by omega)]; simp
  · rintro v k w' ⟨rfl, n, rfl, hn, rfl⟩
    refine IfB.mk (fun hlt => ?_) (fun hge => ?_)
    · have hlt : i % 8 + n < 7 := by have := of_decide_eq_true hlt
                                     omega
      have hd : x / 2 ^ (n + 1) ≤ x := Nat.div_le_self _ _
      have hd0 : (0 : Int) ≤ ((x / 2 ^ (n + 1) : Nat) : Int) := Int.natCast_nonneg _
      have e1 : i64 (Int.tdiv ((x / 2 ^ n : Nat) : Int) 2) = ((x / 2 ^ (n + 1) : Nat) : Int) := by
        have : Int.tdiv ((x / 2 ^ n : Nat) : Int) 2 = ((x / 2 ^ n / 2 : Nat) : Int) := rfl
        rw [this, Nat.div_div_eq_div_mul, show 2 ^ n * 2 = 2 ^ (n + 1) from (Nat.pow_succ ..).symm, i64_id (by omega)]
      rw [e1, i64_id (by omega)]
      exact ⟨by decide, ⟨rfl, n + 1, by omega, by omega, rfl⟩, by dsimp only; omega⟩
    · have hge : i % 8 + n = 7 := by have := of_decide_eq_false hge
                                     omega
      refine ⟨by decide, ?_⟩
      have : n = 7 - i % 8 := by omega
      subst this
      exact hK
theorem rfeed_c {K : Bool → World → Prop} {s : Sl} {b : List Nat} (h : Hp E w (Rr p c u e :: F)) (hs : Tells F (SlT 1 s (b.map vB))) (hb : ∀ y ∈ b, y < 256) (hbig : c.length + b.length ≤ big)
    (hK : ∀ w', Hp E w' (Rr p (if e then c else c ++ b) u e :: F) → K (!e) w') : Cl Try.prog [kB] n_ref03_Reader_Feed ⟨[.pointer (some p), .slice s.base s.len s.cap]⟩ w K := by
  refine ref03_Reader_Feed.ok _ _ _ _ ?_
  have h0 := h
  obtain ⟨bk, s0, t0, rfl, h1, h2, h3, h⟩ := Rr.opn h
  simp only [ref03_Reader_Feed.E, NilCk_some, add_mk, Nat.zero_add]
  refine Ld.blk h _ rfl ?_
  cases e
  · refine IfB.f rfl (Ld.blk h s0 rfl ?_)
    have hsrc := h.drop.drop.tells hs
    have hlen2 := hsrc.1
    simp only [List.length_map, Nat.mul_one] at hlen2
    have ho := h.p1.ownLen
    simp only [List.length_map, Nat.mul_one] at ho
    rw [big_eq] at hbig
    refine run_append ty_bytes (by decide) (.inl ⟨5, by kernel_rfl⟩) h.p1 (.inl ⟨_, _, _, rfl, rfl, hsrc⟩) (by simpa using hlen2) vB_scalar (by omega) (by omega) fun s2 w2 h2' hs2 => ?_
    refine St.blk h2'.p1 (by simp) rfl fun w3 h3' => hK _ ?_
    refine Rr.shut (s := s2) (t := t0) ?_ ?_ ?_ ?_
    · simp; omega
    · intro y hy
      rcases List.mem_append.1 hy with hy | hy
      · exact h2 y hy
      · exact hb y hy
    · rw [big_eq]; simp; omega
    · rw [if_neg (by simp), List.map_append]; exact h3'
  · exact IfB.t rfl (hK _ h0)
theorem rleft_c {K : Int → World → Prop} (h : Hp E w (Rr p c u e :: F)) (hK : ∀ w', Hp E w' (Rr p c u e :: F) → w'.heap = w.heap → K ((8 * c.length - u : Nat) : Int) w') : Cl Try.prog [kI] n_ref03_Reader_Left ⟨[.pointer (some p)]⟩ w K := by
  obtain ⟨b, s, t, rfl, h1, h2, h3, h⟩ := Rr.opn h
  refine ref03_Reader_Left.ok _ _ _ ?_
  simp only [ref03_Reader_Left.E, NilCk_some, add_mk, Nat.zero_add]
  have hd : Hp E { w with drawn := w.drawn + 1 } _ := h.drew
  have hl := hd.p1.ownLen
  simp only [List.length_map, Nat.mul_one] at hl
  refine Ld.blk hd s rfl (Ld.blk hd _ rfl ?_)
  have hb := h3
  rw [big_eq] at hb
  have e2 : i64 (i64 (8 * (s.len : Int)) - (u : Int)) = ((8 * c.length - u : Nat) : Int) := by
    simp (disch := omega) only [i64_id]; omega
  rw [e2]
  exact hK _ (Rr.shut h1 h2 h3 hd) rfl
theorem rpeek_c {width : Int} {K : Int → Bool → World → Prop} (h : Hp E w (Rr p c u e :: F)) (hK : ∀ w', Hp E w' (Rr p c u e :: F) → K (peekV c u width) (peekB c u width) w') :
    Cl Try.prog [kInt .u32, kB] n_ref03_Reader_Peek ⟨[.pointer (some p), .int .i64 width]⟩ w K := by
  refine ref03_Reader_Peek.ok _ _ _ _ ?_
  simp only [ref03_Reader_Peek.E, Join_eq]
  refine IfB.mk (fun hlt => ?_) (fun h1 => IfB.mk (fun hlt => ?_) (fun h2 => rleft_c h fun w1 hh heq => IfB.mk (fun hlt => ?_) (fun h3 => ?_)))
  · have hlt := of_decide_eq_true hlt
    have := hK w h
    rwa [peekV, if_neg (by omega), peekB, decide_eq_false (by omega)] at this
  · have hlt := of_decide_eq_true hlt
    have := hK w h
    rwa [peekV, if_neg (by omega), peekB, decide_eq_false (by omega)] at this
  · have hlt := of_decide_eq_true hlt
    have := hK w1 hh
    rwa [peekV, if_neg (by omega), peekB, decide_eq_false (by omega)] at this
  · have h1 : 0 ≤ width := by have := of_decide_eq_false h1; omega
    have h2 : width ≤ 32 := by have := of_decide_eq_false h2; omega
    have h3 : width ≤ ((8 * c.length - u : Nat) : Int) := by have := of_decide_eq_false h3; omega
    rw [peekV, if_pos ⟨h1, h2, h3⟩, peekB, decide_eq_true ⟨h1, h2, h3⟩] at hK
    obtain ⟨n, rfl⟩ := Int.eq_ofNat_of_zero_le h1
    rw [Int.toNat_natCast] at hK
    refine ⟨fun v i w' => ∃ k : Nat, i = (k : Int) ∧ k ≤ n ∧ v = (val c u k : Int) ∧ Hp E w' (Rr p c u e :: F), fun _ i _ => n - i.toNat, ⟨0, rfl, by omega, rfl, hh⟩, ?_⟩
    rintro v i w' ⟨k, rfl, hk, rfl, hh⟩
    refine IfB.mk (fun hlt => ?_) (fun hge => ?_)
    · have hlt : k < n := by have := of_decide_eq_true hlt; omega
      obtain ⟨b, s, t, rfl, g1, g2, g3, hh⟩ := Rr.opn hh
      refine ⟨fun w' => Hp E w' (Blk b (.cells #[.slice s.base s.len s.cap, .int .i64 (u : Int), .bool e] t (0, 0)) :: OwnS 1 s (c.map vB) :: F), hh.drew, ?_⟩
      simp only [NilCk_some, add_mk, Nat.zero_add]
      refine ⟨s, fun w' h' => by rw [h'.cell]; rfl, (u : Int), fun w' h' => by rw [h'.cell]; rfl, ?_⟩
      dsimp only
      have g3' := g3
      rw [big_eq] at g3'
      have e1 : i64 ((u : Int) + (k : Int)) = ((u + k : Nat) : Int) := by rw [i64_id (by omega)]; rfl
      rw [e1]
      have hd : Hp E { w' with drawn := w'.drawn + 1 } _ := hh.drew
      refine bit_c (hd.drop.tells Tells.own) (by omega) g2 g3 ⟨hd, ?_⟩
      have hv := val_lt c u k
      have hp : 2 ^ k ≤ 2 ^ 31 := Nat.pow_le_pow_right (by decide) (by omega)
      have hb := bitAt_lt c (u + k)
      have e2 : u32 (u32 (2 * (val c u k : Int)) + u32 (bitAt c (u + k) : Int)) = (val c u (k + 1) : Int) := by
        simp (disch := omega) only [u32_id]
        simp only [val]; omega
      rw [e2, i64_id (by omega)]
      exact ⟨⟨k + 1, rfl, by omega, rfl, Rr.shut g1 g2 g3 hd⟩, by omega⟩
    · have hge : k = n := by have := of_decide_eq_false hge; omega
      subst hge
      exact hK _ hh
theorem rtake_c {width : Int} {K : Int → Bool → World → Prop} (h : Hp E w (Rr p c u e :: F)) (hK : ∀ w', Hp E w' (Rr p c (if peekB c u width then u + width.toNat else u) e :: F) → K (peekV c u width) (peekB c u width) w') :
    Cl Try.prog [kInt .u32, kB] n_ref03_Reader_Take ⟨[.pointer (some p), .int .i64 width]⟩ w K := by
  refine ref03_Reader_Take.ok _ _ _ _ ?_
  unfold ref03_Reader_Take.E
  refine rpeek_c h fun w1 h1 => ?_
  by_cases hb : peekB c u width = true
  · rw [hb, if_pos rfl] at hK
    rw [hb]
    refine IfB.t rfl ?_
    unfold peekB at hb
    obtain ⟨b0, b1, b2⟩ := of_decide_eq_true hb
    obtain ⟨n, rfl⟩ := Int.eq_ofNat_of_zero_le b0
    rw [Int.toNat_natCast] at hK
    obtain ⟨b, s, t, rfl, g1, g2, g3, h1⟩ := Rr.opn h1
    have g3' := g3
    rw [big_eq] at g3'
    simp only [NilCk_some, add_mk, Nat.zero_add]
    refine Ld.blk h1 _ rfl ?_
    rw [i64_id (by omega)]
    refine St.blk h1 (by simp) rfl fun w2 h2 => hK _ ?_
    exact Rr.shut (s := s) (t := t) (by omega) g2 g3 h2
  · have hb : peekB c u width = false := by simpa using hb
    rw [hb, if_neg (by simp)] at hK
    rw [hb]
    exact IfB.f rfl (hK _ h1)
theorem ralign_c {K : Int → Int → World → Prop} (h : Hp E w (Rr p c u e :: F)) (hK : ∀ w', Hp E w' (Rr p c (u + padN u) e :: F) → K (val c u (padN u) : Int) (padN u : Int) w') :
    Cl Try.prog [kInt .u32, kI] n_ref03_Reader_Align ⟨[.pointer (some p)]⟩ w K := by
  refine ref03_Reader_Align.ok _ _ _ ?_
  have h0 := h
  obtain ⟨b, s, t, rfl, g1, g2, g3, h⟩ := Rr.opn h
  have m8 : Int.tmod (u : Int) 8 = ((u % 8 : Nat) : Int) := rfl
  simp only [ref03_Reader_Align.E, NilCk_some, add_mk, Nat.zero_add]
  refine Ld.blk h _ rfl ⟨by decide, ?_⟩
  simp only [m8]
  by_cases hu : u % 8 = 0
  · have : padN u = 0 := by simp [padN, hu]
    rw [this] at hK
    exact IfB.t (by simp [hu]) (hK _ h0)
  · have hp : padN u = 8 - u % 8 := by simp [padN, hu]
    rw [hp] at hK
    refine IfB.f (by simp; omega) (Ld.blk h _ rfl ⟨by decide, ?_⟩)
    simp only [m8]
    rw [i64_id (by omega)]
    have hpk : peekB c u (8 - ((u % 8 : Nat) : Int)) = true := decide_eq_true (by omega)
    refine rtake_c h0 fun w1 h1 => ?_
    rw [hpk, if_pos rfl] at h1
    have e1 : (8 - ((u % 8 : Nat) : Int)).toNat = 8 - u % 8 := by omega
    have e2 : (8 - ((u % 8 : Nat) : Int)) = ((8 - u % 8 : Nat) : Int) := by omega
    have hv : peekV c u (8 - ((u % 8 : Nat) : Int)) = (val c u (8 - u % 8) : Int) := by
      unfold peekV; rw [if_pos (by omega), e1]
    rw [e1] at h1
    rw [hv, e2]
    exact hK _ h1
/-- the concatenation of chunks, in a slice of its own -/
theorem join_c {K : Sl → World → Prop} {s : Sl} {cs : List Sl} {bs : List (List Nat)} (h : Hp E w F)
    (hs : Tells F (SlT 1 s (cs.map fun x => .slice x.base x.len x.cap))) (hl : cs.length = bs.length) (hcl : cs.length ≤ big) (hc : ∀ i (h : i < cs.length), Tells F (SlT 1 cs[i] ((bs.getD i []).map vB)))
    (hbig : bs.flatten.length ≤ big)
    (hK : ∀ s' w', Hp E w' (OwnS 1 s' (bs.flatten.map vB) :: F) → K s' w') : Cl Try.prog [kS] n_ref03_Join ⟨[.slice s.base s.len s.cap]⟩ w K := by
  refine ref03_Join.ok _ _ _ ?_
  unfold ref03_Join.E
  have hlen : s.len = cs.length := by have := (h.tells hs).1; simpa using this.symm
  refine ⟨fun o i w' => ∃ k : Nat, i = (k : Int) ∧ k ≤ cs.length ∧ Hp E w' (OwnS 1 o ((bs.take k).flatten.map vB) :: F), fun _ i _ => cs.length - i.toNat, ⟨0, rfl, by omega, by simpa using h.ownNil 1⟩, ?_⟩
  rintro o i w' ⟨k, rfl, hk, hh⟩
  refine IfB.mk (fun hlt => ?_) (fun hge => ?_)
  · have hlt : k < cs.length := by have := of_decide_eq_true hlt; omega
    refine Idx.rd (hh.drop.tells hs) (by omega) (by omega) fun q hi hq => ?_
    have hq' : w'.cell? q = some (Sc.sl.enc cs[k]) := by simpa using hq
    refine Ld.sc _ hq' ?_
    have hsrc := hh.drop.tells (hc k hlt)
    have hlen2 := hsrc.1
    simp only [List.length_map, Nat.mul_one] at hlen2
    have hfl : (bs.take (k + 1)).flatten = (bs.take k).flatten ++ bs.getD k [] := by
      rw [List.take_add_one, List.flatten_append]
      congr 1
      have : k < bs.length := by omega
      simp [this]
    have hle : (bs.take (k + 1)).flatten.length ≤ bs.flatten.length := by
      have := congrArg (fun l => (List.flatten l).length) (List.take_append_drop (k + 1) bs)
      simp only [List.flatten_append, List.length_append] at this
      omega
    rw [hfl, List.length_append] at hle
    have ho := hh.ownLen
    simp only [List.length_map, Nat.mul_one] at ho
    rw [big_eq] at hbig hcl
    refine run_append ty_bytes (by decide) (.inl ⟨5, by kernel_rfl⟩) hh (.inl ⟨_, _, _, rfl, rfl, hsrc⟩) (by simpa using hlen2) vB_scalar (by omega) (by omega) fun s2 w2 h2' hs2 => ?_
    rw [i64_id (by omega)]
    exact ⟨⟨k + 1, rfl, by omega, by rw [hfl, List.map_append]; exact h2'⟩, by dsimp only; omega⟩
  · have hge : k = cs.length := by have := of_decide_eq_false hge; omega
    subst hge
    refine hK _ _ ?_
    rwa [hl, List.take_length] at hh
/-- the chunks are few and short, or too many -/
theorem great_c {K : Bool → World → Prop} {s : Sl} {cs : List Sl} (hs : SlT 1 s (cs.map fun x => .slice x.base x.len x.cap) w)
    (hK1 : K true w) (hK2 : cs.length ≤ 80 → (cs.map Sl.len).sum ≤ 3000 → K false w) : Cl Try.prog [kB] n_ref03_Great ⟨[.slice s.base s.len s.cap]⟩ w K := by
  refine ref03_Great.ok _ _ _ ?_
  unfold ref03_Great.E
  have hlen : s.len = cs.length := by have := hs.1; simpa using this.symm
  have last : ∀ (k n : Nat), k ≤ cs.length → (k = cs.length ∨ 80 < k ∨ 3000 < n) → n ≤ 7000 → (n ≤ 3000 → ((cs.take k).map Sl.len).sum = n) → IfB (decide ((s.len : Int) > 80)) (K true w) (K (decide ((n : Int) > 3000)) w) := by
    intro k n hk hcase hn hsum
    refine IfB.mk (fun _ => hK1) (fun h80 => ?_)
    have h80 := of_decide_eq_false h80
    by_cases h3 : 3000 < n
    · rw [decide_eq_true (by omega)]; exact hK1
    · rw [decide_eq_false (by omega)]
      have hkl : k = cs.length := by omega
      refine hK2 (by omega) ?_
      have := hsum (by omega)
      rw [hkl, List.take_length] at this
      omega
  refine ⟨fun n i w' => w' = w ∧ ∃ k m : Nat, i = (k : Int) ∧ k ≤ cs.length ∧ k ≤ 81 ∧ n = (m : Int) ∧ m ≤ 7000 ∧ (m ≤ 3000 → ((cs.take k).map Sl.len).sum = m), fun _ i _ => cs.length - i.toNat, ⟨rfl, 0, 0, rfl, by omega, by omega, rfl, by omega, by simp⟩, ?_⟩
  rintro n i w' ⟨rfl, k, m, rfl, hk, hk2, rfl, hm, hsum⟩
  refine IfB.mk (fun hlt => IfB.mk (fun h80 => IfB.mk (fun h3 => ?_) (fun h3 => ?_)) (fun h80 => ?_)) (fun hge => ?_)
  · have hlt : k < cs.length := by have := of_decide_eq_true hlt; omega
    have h80 := of_decide_eq_true h80
    have h3 := of_decide_eq_true h3
    refine Idx.rd hs (by omega) (by omega) fun q hi hq => ?_
    have hq' : w'.cell? q = some (Sc.sl.enc cs[k]) := by simpa using hq
    refine Ld.sc _ hq' ?_
    have hs2 : ((cs.take (k + 1)).map Sl.len).sum = ((cs.take k).map Sl.len).sum + cs[k].len := by
      rw [List.take_add_one, List.map_append, List.sum_append, List.getElem?_eq_getElem hlt]; simp only [Option.toList, List.map_cons, List.map_nil, List.sum_cons, List.sum_nil, Nat.add_zero]
    have := hsum (by omega)
    by_cases hb : 4000 < cs[k].len
    · rw [if_pos (by omega)]
      simp (disch := omega) only [i64_id]
      exact ⟨⟨trivial, k + 1, m + 4000, rfl, by omega, by omega, rfl, by omega, by omega⟩, by omega⟩
    · rw [if_neg (by omega)]
      simp (disch := omega) only [i64_id]
      exact ⟨⟨trivial, k + 1, m + cs[k].len, rfl, by omega, by omega, rfl, by omega, by omega⟩, by omega⟩
  · have h3 := of_decide_eq_false h3
    exact last k m hk (.inr (.inr (by omega))) hm hsum
  · have h80 := of_decide_eq_false h80
    exact last k m hk (.inr (.inl (by omega))) hm hsum
  · have hge := of_decide_eq_false hge
    exact last k m hk (.inl (by omega)) hm hsum
end
end Go.Proofs.Ytmpoijocebbenaa
