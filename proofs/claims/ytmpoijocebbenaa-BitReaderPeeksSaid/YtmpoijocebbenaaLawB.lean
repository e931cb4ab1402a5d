/-
  The statements of winepresslaw03 about peeks, chunks and the reference. Conditions: as each theorem states.
-/
import Derived.Test.YtmpoijocebbenaaLawA
namespace Go.Proofs.Ytmpoijocebbenaa
open Go Go.Vc Go.Bits

section
variable {E w : World} {F : List HP}
theorem shl_or {a b m : Nat} (h : b < 2 ^ m) (hm : m ≤ 64) (h2 : a * 2 ^ m + b < 2 ^ 64) : ior .u64 (ishl .u64 (a : Int) (m : Int)) (b : Int) = ((a * 2 ^ m + b : Nat) : Int) := by
  have hmx : IntKind.max .u64 = 18446744073709551615 := rfl
  have e := Nat.two_pow_add_eq_or_of_lt (i := m) (b := b) h a
  rw [Nat.mul_comm] at e
  rw [ishl_nat (k := .u64) (a := a) (b := m) (by have : IntKind.bits .u64 = 64 := rfl; omega) (by rw [hmx]; omega), ior_nat (by rw [hmx]; omega) (by rw [hmx]; omega) (by rw [← e, hmx]; omega), ← e]
theorem peeks_law {s : Sl} {b : List Nat} {ahead one two : Int} {K : Bool → World → Prop} (h : Hp E w F) (hs : Tells F (SlT 1 s (b.map vB))) (hb : ∀ y ∈ b, y < 256) (hK : ∀ w', Hp E w' F → K true w') :
    Cl Try.prog [kB] n_law03_BitReaderPeeks ⟨[.slice s.base s.len s.cap, .int .i64 ahead, .int .i64 one, .int .i64 two]⟩ w K := by
  refine law03_BitReaderPeeks.ok _ _ _ _ _ _ ?_
  unfold law03_BitReaderPeeks.E
  have hl := (h.tells hs).1
  simp only [List.length_map, Nat.mul_one] at hl
  simp only [Join_eq]
  refine IfB.mk (fun _ => wakes_c h hK) (fun hlen => IfB.mk (fun _ => wakes_c h hK) (fun h0 => IfB.mk (fun _ => wakes_c h hK) (fun h8 => IfB.mk (fun _ => wakes_c h hK) (fun h1 => IfB.mk (fun _ => wakes_c h hK) (fun h12 => IfB.mk (fun _ => wakes_c h hK) (fun h32 => ?_))))))
  have hlen : b.length ≤ 100 := by have := of_decide_eq_false hlen; omega
  have h0 := of_decide_eq_false h0
  have h8 := of_decide_eq_false h8
  have h1 := of_decide_eq_false h1
  have h12 := of_decide_eq_false h12
  have h32 := of_decide_eq_false h32
  obtain ⟨n, rfl⟩ := Int.eq_ofNat_of_zero_le (a := ahead) (by omega)
  obtain ⟨x, rfl⟩ := Int.eq_ofNat_of_zero_le (a := one) (by omega)
  obtain ⟨y, rfl⟩ := Int.eq_ofNat_of_zero_le (a := two) (by omega)
  rw [i64_id (by omega)] at h8
  have hn : n ≤ 8 * b.length := by omega
  refine new_c h fun p w1 h1 => IfB.f rfl (Nw.mk h1 fun b15 w2 h2 => feed1_c h2 hs hb (by rw [big_eq]; simp; omega) fun w3 h3 => IfB.f rfl ?_)
  have h3 : Hp E w3 (Rd p b 0 false :: F) := h3
  refine ⟨fun i w' => ∃ k : Nat, i = (k : Int) ∧ k ≤ n ∧ Hp E w' (Rd p b k false :: F), fun i _ => n - i.toNat, ⟨0, rfl, by omega, h3⟩, ?_⟩
  rintro i w' ⟨k, rfl, hk, hh⟩
  refine IfB.mk (fun hlt => ?_) (fun hge => ?_)
  · have hlt : k < n := by have := of_decide_eq_true hlt; omega
    refine takeN_c (n := 1) hh (by decide) (by omega) fun w2 h2 => ?_
    rw [i64_id (by omega)]
    exact ⟨⟨k + 1, rfl, by omega, h2⟩, by dsimp only; omega⟩
  · have hge : k = n := by have := of_decide_eq_false hge; omega
    subst hge
    refine left_c hh fun w4 h4 _ => used_c h4 (peek_c h4 fun w5 h5 _ => peek_c h5 fun w6 h6 _ => left_c h6 fun w7 h7 _ => IfB.f (by simp) (used_c h7 (IfB.f (by simp) (IfB.f ?_ (IfB.f ?_ ?_)))))
    · unfold peekB
      by_cases hy : k + y ≤ 8 * b.length
      · rw [decide_eq_true (by omega), decide_eq_true (by omega)]; rfl
      · rw [decide_eq_false (by omega), decide_eq_false (by omega)]; rfl
    · unfold peekB
      by_cases hy : k + x ≤ 8 * b.length
      · rw [decide_eq_true (by omega), decide_eq_true (by omega)]; rfl
      · rw [decide_eq_false (by omega), decide_eq_false (by omega)]; rfl
    · by_cases hy : k + y ≤ 8 * b.length
      · rw [peekB_t (by omega) hy, peekV_t (by omega) hy, peekV_t (n := x) (by omega) (by omega)]
        refine IfB.f rfl (takeN_c h7 (by omega) (by omega) fun w8 h8 => ?_)
        have e1 : (y : Int) - (x : Int) = ((y - x : Nat) : Int) := by omega
        rw [e1, i64_id (by omega), u64_id (x := ((y - x : Nat) : Int)) (by omega)]
        refine takeN_c h8 (by omega) (by omega) fun w9 h9 => IfB.t (by simp) ⟨by omega, ?_⟩
        have v1 := val_lt b k x
        have v2 := val_lt b (k + x) (y - x)
        have v3 := val_lt b k y
        have p1 : 2 ^ x ≤ 2 ^ 32 := Nat.pow_le_pow_right (by decide) (by omega)
        have p2 : 2 ^ (y - x) ≤ 2 ^ 32 := Nat.pow_le_pow_right (by decide) (by omega)
        have p3 : 2 ^ y ≤ 2 ^ 32 := Nat.pow_le_pow_right (by decide) (by omega)
        have e2 := val_add b k x (y - x)
        rw [show x + (y - x) = y by omega] at e2
        have e3 := shl_or (a := val b k x) (m := y - x) v2 (by omega) (by rw [← e2]; omega)
        rw [u64_id (x := (val b k y : Int)) (by omega), u64_id (x := (val b k x : Int)) (by omega), u64_id (x := (val b (k + x) (y - x) : Int)) (by omega), e3, ← e2]
        refine IfB.t (by simp) (used_c h9 (IfB.t ?_ (wakes_c h9.drop hK)))
        rw [i64_id (by omega)]
        have : ((k + x + (y - x) : Nat) : Int) = (k : Int) + (y : Int) := by omega
        simp [this]
      · have : peekB b k (y : Int) = false := decide_eq_false (by omega)
        rw [this]
        exact IfB.t rfl (wakes_c h7.drop hK)

/-- rows of three cells -/
theorem flat3 {α : Type} (f g h : α → Value) : ∀ (l : List α) (i : Nat) (hi : i < l.length) (j : Nat) (hj : j < 3), (l.flatMap fun a => [f a, g a, h a])[i * 3 + j]? = some ([f l[i], g l[i], h l[i]][j])
  | [], i, hi, j, hj => absurd hi (by simp)
  | a :: l, 0, _, j, hj => by
    rw [List.flatMap_cons, List.getElem?_append_left (by simp; omega)]
    simp
  | a :: l, i + 1, hi, j, hj => by
    rw [List.flatMap_cons, List.getElem?_append_right (by simp; omega)]
    simp only [List.length_cons, List.length_nil]
    rw [show (i + 1) * 3 + j - (0 + 1 + 1 + 1) = i * 3 + j by omega, flat3 f g h l i (by simpa using hi) j hj]
    rfl
/-- an operation, with the bytes of its chunk -/
structure Op3 where
  doo : Int
  width : Int
  chunk : Sl
  bytes : List Nat
def opCells (l : List Op3) : List Value := l.flatMap fun a => [.int .i64 a.doo, .int .i64 a.width, .slice a.chunk.base a.chunk.len a.chunk.cap]
def opSum (l : List Op3) : Nat := (l.map fun a => a.bytes.length).sum
theorem opSum_succ {l : List Op3} {k : Nat} (hk : k < l.length) : opSum (l.take (k + 1)) = opSum (l.take k) + l[k].bytes.length := by
  unfold opSum
  rw [List.take_add_one, List.map_append, List.sum_append, List.getElem?_eq_getElem hk]
  simp only [Option.toList, List.map_cons, List.map_nil, List.sum_cons, List.sum_nil, Nat.add_zero]
theorem opSum_le {l : List Op3} {k : Nat} : opSum (l.take k) ≤ opSum l := by
  have := congrArg opSum (List.take_append_drop k l)
  unfold opSum at this ⊢
  rw [List.map_append, List.sum_append] at this
  omega
theorem op_cell {l : List Op3} {s : Sl} {i : Nat} {K : Addr → Prop} (hh : Hp E w F) (hs : Tells F (SlT 3 s (opCells l))) (hi : i < l.length) (hl : s.len = l.length)
    (h : ∀ p : Addr, Tells F (fun w => w.cell? (p.add 0) = some (.int .i64 l[i].doo)) → Tells F (fun w => w.cell? (p.add 1) = some (.int .i64 l[i].width)) → Tells F (fun w => w.cell? (p.add 2) = some (.slice l[i].chunk.base l[i].chunk.len l[i].chunk.cap)) → K p) : Idx s (i : Int) 3 K := by
  refine Idx.rdT hh hs (by decide) (by omega) (by omega) fun p hp => ?_
  simp only [Int.toNat_natCast] at hp
  have h1 := flat3 (fun a : Op3 => .int .i64 a.doo) (fun a => .int .i64 a.width) (fun a => .slice a.chunk.base a.chunk.len a.chunk.cap) l i hi
  have key : ∀ j (hj : j < 3), Tells F (fun w => w.cell? (p.add j) = some ([Value.int .i64 l[i].doo, .int .i64 l[i].width, .slice l[i].chunk.base l[i].chunk.len l[i].chunk.cap][j])) := by
    intro j hj
    refine (hp j hj).imp fun w' e => ?_
    rw [e]; exact h1 j hj
  exact h p (key 0 (by decide)) (key 1 (by decide)) (key 2 (by decide))
theorem small_c {s : Sl} {l : List Op3} {K : Bool → World → Prop} (h : Hp E w F) (hs : Tells F (SlT 3 s (opCells l))) (hl : s.len = l.length) (hc : ∀ a ∈ l, a.chunk.len = a.bytes.length)
    (hK1 : K false w) (hK2 : l.length ≤ 100 → opSum l ≤ 3000 → K true w) : Cl Try.prog [kB] n_law03_small ⟨[.slice s.base s.len s.cap]⟩ w K := by
  refine law03_small.ok _ _ _ ?_
  unfold law03_small.E
  have last : ∀ (k n : Nat), k ≤ l.length → (k = l.length ∨ 100 < k) → (n ≤ 3000 → opSum (l.take k) = n) → IfB (decide ((s.len : Int) ≤ 100)) (K (decide ((n : Int) ≤ 3000)) w) (K false w) := by
    intro k n hk hcase hsum
    refine IfB.mk (fun h100 => ?_) (fun _ => hK1)
    have h100 := of_decide_eq_true h100
    by_cases h3 : n ≤ 3000
    · rw [decide_eq_true (by omega)]
      have hkl : k = l.length := by omega
      refine hK2 (by omega) ?_
      have := hsum h3
      rw [hkl, List.take_length] at this
      omega
    · rw [decide_eq_false (by omega)]; exact hK1
  refine ⟨fun n i w' => w' = w ∧ ∃ k m : Nat, i = (k : Int) ∧ k ≤ l.length ∧ k ≤ 101 ∧ n = (m : Int) ∧ m ≤ 4000 * k ∧ (m ≤ 3000 → opSum (l.take k) = m), fun _ i _ => l.length - i.toNat, ⟨rfl, 0, 0, rfl, by omega, by omega, rfl, by omega, fun _ => rfl⟩, ?_⟩
  rintro n i w' ⟨rfl, k, m, rfl, hk, hk2, rfl, hm, hsum⟩
  refine IfB.mk (fun hlt => IfB.mk (fun h80 => ?_) (fun h80 => ?_)) (fun hge => ?_)
  · have hlt : k < l.length := by have := of_decide_eq_true hlt; omega
    have h80 := of_decide_eq_true h80
    refine op_cell h hs hlt hl fun q _ _ hq => Ld.sc (s := .sl) l[k].chunk (h.tells hq) ?_
    have hs2 := opSum_succ hlt
    have := hc _ (List.getElem_mem hlt)
    by_cases hb : 4000 < l[k].chunk.len
    · rw [if_pos (by omega)]
      simp (disch := omega) only [i64_id]
      exact ⟨⟨trivial, k + 1, m + 4000, rfl, by omega, by omega, rfl, by omega, by omega⟩, by omega⟩
    · rw [if_neg (by omega)]
      simp (disch := omega) only [i64_id]
      exact ⟨⟨trivial, k + 1, m + l[k].chunk.len, rfl, by omega, by omega, rfl, by omega, by omega⟩, by omega⟩
  · have h80 := of_decide_eq_false h80
    exact last k m hk (.inr (by omega)) hsum
  · have hge := of_decide_eq_false hge
    exact last k m hk (.inl (by omega)) hsum
theorem Rr.used {b : Nat} {c : List Nat} {u : Nat} {e : Bool} (h : Hp E w (Rr ⟨b, 0, none⟩ c u e :: F)) : w.cell? ((⟨b, 0, none⟩ : Addr).add 1) = some (.int .i64 (u : Int)) := by
  obtain ⟨b, s, t, hp, g1, g2, g3, h⟩ := Rr.opn h
  cases hp
  rw [add_mk, h.cell]; rfl
theorem Rr.ended {b : Nat} {c : List Nat} {u : Nat} {e : Bool} (h : Hp E w (Rr ⟨b, 0, none⟩ c u e :: F)) : w.cell? ((⟨b, 0, none⟩ : Addr).add 2) = some (.bool e) := by
  obtain ⟨b, s, t, hp, g1, g2, g3, h⟩ := Rr.opn h
  cases hp
  rw [add_mk, h.cell]; rfl
theorem matches_law {s : Sl} {l : List Op3} {K : Bool → World → Prop} (h : Hp E w F) (hs : Tells F (SlT 3 s (opCells l))) (hl : s.len = l.length) (hc : ∀ a ∈ l, Tells F (SlT 1 a.chunk (a.bytes.map vB))) (hb : ∀ a ∈ l, ∀ y ∈ a.bytes, y < 256) (hK : ∀ w', Hp E w' F → K true w') :
    Cl Try.prog [kB] n_law03_BitReaderMatches ⟨[.slice s.base s.len s.cap]⟩ w K := by
  refine law03_BitReaderMatches.ok _ _ _ ?_
  unfold law03_BitReaderMatches.E
  simp only [Join_eq]
  refine small_c h hs hl (fun a ha => by have := (h.tells (hc a ha)).1; simpa using this.symm) (IfB.t rfl (wakes_c h hK)) fun h100 h3 => IfB.f rfl ?_
  refine new_c h fun p w1 h1 => Nw.mk h1 fun b9 w2 h2 => IfB.f rfl ?_
  have h2 : Hp E w2 (Rd p [] 0 false :: Rr ⟨b9, 0, none⟩ [] 0 false :: F) := (Rr.shut (s := ⟨none, 0, 0⟩) (by simp) (by simp) (by simp) ((h2.ownNil 1).p1)).p1
  refine ⟨fun i w' => ∃ (k : Nat) (c : List Nat) (u : Nat) (e : Bool), i = (k : Int) ∧ k ≤ l.length ∧ c.length ≤ opSum (l.take k) ∧ Hp E w' (Rd p c u e :: Rr ⟨b9, 0, none⟩ c u e :: F), fun i _ => l.length - i.toNat, ⟨0, [], 0, false, rfl, by omega, by simp, h2⟩, ?_⟩
  rintro i w' ⟨k, c, u, e, rfl, hk, hcl, hh⟩
  refine IfB.mk (fun hlt => ?_) (fun _ => wakes_c hh.drop.drop hK)
  have hlt : k < l.length := by have := of_decide_eq_true hlt; omega
  have hle := opSum_le (l := l) (k := k + 1)
  have hs2 := opSum_succ hlt
  have fin : ∀ (ok : Bool) (w1 : World) (c : List Nat) (u : Nat) (e : Bool), ok = true → c.length ≤ opSum (l.take (k + 1)) → Hp E w1 (Rd p c u e :: Rr ⟨b9, 0, none⟩ c u e :: F) →
      Held w1 fun S64 w_65 => IfB (!ok) (K false w_65) (Cl Try.prog [kI] n_bitreader_Reader_Left ⟨[.pointer (some p)]⟩ w_65 fun r67 w_66 =>
        S64 w_66 ∧ Cl Try.prog [kI] n_ref03_Reader_Left ⟨[.pointer (some (⟨b9, 0, none⟩ : Addr))]⟩ w_66 fun r69 w_68 => S64 w_68 ∧
        IfB (r67 != r69) (K false w_68) (LdS kI ((⟨b9, 0, none⟩ : Addr).add 1) S64 fun Used70 =>
          Cl Try.prog [kI] n_bitreader_Reader_Used ⟨[.pointer (some p)]⟩ w_68 fun r72 w_71 => S64 w_71 ∧ IfB (r72 != Used70) (K false w_71)
          (LdS kB ((⟨b9, 0, none⟩ : Addr).add 2) S64 fun Ended73 => Cl Try.prog [kB] n_bitreader_Reader_Ended ⟨[.pointer (some p)]⟩ w_71 fun r75 w_74 => S64 w_74 ∧
            IfB (!(r75 == Ended73)) (K false w_74) ((∃ (k_1 : Nat) (c : List Nat) (u : Nat) (e : Bool), i64 ((k : Int) + 1) = (k_1 : Int) ∧ k_1 ≤ l.length ∧ c.length ≤ opSum (l.take k_1) ∧ Hp E w_74 (Rd p c u e :: Rr ⟨b9, 0, none⟩ c u e :: F)) ∧ l.length - (i64 ((k : Int) + 1)).toNat < l.length - ((k : Int)).toNat)))) := by
    rintro ok w1 c u e rfl hcl hh
    refine ⟨fun w' => Hp E w' (Rd p c u e :: Rr ⟨b9, 0, none⟩ c u e :: F), hh.drew, IfB.f rfl (left_c hh.drew fun w2 h2 _ => ⟨h2, rleft_c h2.p1 fun w3 h3 _ => ⟨h3.p1, IfB.f (by simp) ⟨_, fun w' h' => Rr.used h'.p1, used_c h3.p1 ⟨h3.p1, IfB.f (by simp) ⟨_, fun w' h' => Rr.ended h'.p1, ended_c h3.p1 ⟨h3.p1, IfB.f (by simp) ?_⟩⟩⟩⟩⟩⟩)⟩
    rw [i64_id (by omega)]
    exact ⟨⟨k + 1, c, u, e, rfl, by omega, hcl, h3.p1⟩, by omega⟩
  have hF := hh.drop.drop
  refine op_cell hF hs hlt hl fun q hq0 hq1 hq2 => Ld.sc (s := .int .i64) l[k].doo (hF.tells hq0) ?_
  have hin := List.getElem_mem hlt
  refine IfB.mk (fun _ => ?_) (fun d0 => IfB.mk (fun _ => ?_) (fun d1 => IfB.mk (fun _ => ?_) (fun d2 => IfB.mk (fun _ => ?_) (fun d3 => ?_))))
  · have hd : Hp E { w' with drawn := w'.drawn + 1 } _ := hh.drew
    refine ⟨fun w' => Hp E w' F, hd.drop.drop, ?_⟩
    refine op_cell hF hs hlt hl fun q' _ _ hq' => ⟨l[k].chunk, fun w' h' => h'.tells hq', ?_⟩
    refine op_cell hF hs hlt hl fun q'' _ _ hq'' => ⟨l[k].chunk, fun w' h' => h'.tells hq'', ?_⟩
    refine Nw.mk hd fun b25 w3 h3 => ⟨h3.drop.drop.drop, feed1_c h3 (hc _ hin).cons (hb _ hin) (by rw [big_eq]; omega) fun w4 h4 => ⟨h4.drop.drop, rfeed_c h4.p1 (hc _ hin).cons (hb _ hin) (by rw [big_eq]; omega) fun w5 h5 => ⟨h5.drop.drop, ?_⟩⟩⟩
    refine fin _ _ _ u e (by simp) ?_ h5.p1
    split
    · omega
    · rw [List.length_append]; omega
  · refine op_cell hF hs hlt hl fun q' _ hq1 _ => Ld.sc (s := .int .i64) l[k].width (hF.tells hq1) ?_
    refine peek_c hh fun w1 h1 _ => ?_
    refine op_cell h1.drop.drop hs hlt hl fun q' _ hq1' _ => Ld.sc (s := .int .i64) l[k].width (h1.drop.drop.tells hq1') ?_
    exact (rpeek_c h1.p1 fun w2 h2 => IfB.t (by simp) (fin _ _ c u e (by simp) (by omega) h2.p1))
  · refine op_cell hF hs hlt hl fun q' _ hq1 _ => Ld.sc (s := .int .i64) l[k].width (hF.tells hq1) ?_
    refine take_c hh fun w1 h1 => ?_
    refine op_cell h1.drop.drop hs hlt hl fun q' _ hq1' _ => Ld.sc (s := .int .i64) l[k].width (h1.drop.drop.tells hq1') ?_
    exact (rtake_c h1.p1 fun w2 h2 => IfB.t (by simp) (fin _ _ c _ e (by simp) (by omega) h2.p1))
  · exact align_c hh fun w1 h1 => ralign_c h1.p1 fun w2 h2 => IfB.t (by simp) (fin _ _ c _ e (by simp) (by omega) h2.p1)
  · have hd : Hp E { w' with drawn := w'.drawn + 1 } _ := hh.drew
    refine ⟨fun w' => ∃ e', Hp E w' (Rd p c u e' :: Rr ⟨b9, 0, none⟩ c u e :: F), ⟨_, hd⟩, e, fun w' ⟨_, h'⟩ => Rr.ended h'.p1, end_c hd fun w2 h2 => ⟨⟨_, h2⟩, ?_⟩⟩
    obtain ⟨b, s0, t, hp, g1, g2, g3, h2⟩ := Rr.opn h2.p1
    cases hp
    refine St.mk (add_mk ..) h2 (by simp) rfl fun w3 h3 => ?_
    have h3 := (Rr.shut (s := s0) (t := t) g1 g2 g3 h3).p1
    exact fin _ _ c u true (by simp) (by omega) h3
end
end Go.Proofs.Ytmpoijocebbenaa
