/-
  The statement of winepresslaw03 about chunks and widths. Conditions: as each theorem states.
-/
import Derived.Test.YtmpoijocebbenaaLawB
namespace Go.Proofs.Ytmpoijocebbenaa
open Go Go.Vc Go.Bits

section
variable {E w : World} {F : List HP}
theorem clamp_nat (x : Int) : ∃ n : Nat, (if 32 < (if 0 > x then 0 else x) then 32 else (if 0 > x then 0 else x)) = (n : Int) ∧ n ≤ 32 := by
  by_cases h1 : 0 > x
  · exact ⟨0, by rw [if_pos h1]; rfl, by omega⟩
  · by_cases h2 : 32 < x
    · exact ⟨32, by rw [if_neg h1, if_pos h2]; rfl, by omega⟩
    · exact ⟨x.toNat, by rw [if_neg h1, if_neg h2]; omega, by omega⟩
theorem flat_take (bs : List (List Nat)) (k : Nat) : bs.flatten = (bs.take k).flatten ++ (bs.drop k).flatten := by
  rw [← List.flatten_append, List.take_append_drop]
theorem flat_succ {bs : List (List Nat)} {k : Nat} (h : k < bs.length) : (bs.take (k + 1)).flatten = (bs.take k).flatten ++ bs[k] := by
  rw [List.take_add_one, List.flatten_append, List.getElem?_eq_getElem h]
  simp
theorem all_law {s s2 : Sl} {cs : List Sl} {bs : List (List Nat)} {ws : List Int} {K : Bool → World → Prop} (h : Hp E w F) (hs : Tells F (SlT 1 s (cs.map fun x => .slice x.base x.len x.cap))) (hl : cs.length = bs.length)
    (hc : ∀ i (h : i < cs.length), Tells F (SlT 1 cs[i] ((bs.getD i []).map vB))) (hb : ∀ b ∈ bs, ∀ y ∈ b, y < 256) (hW : Tells F (SlT 1 s2 (ws.map vI))) (hK : ∀ w', Hp E w' F → K true w') :
    Cl Try.prog [kB] n_law03_BitReaderAll ⟨[.slice s.base s.len s.cap, .slice s2.base s2.len s2.cap]⟩ w K := by
  refine law03_BitReaderAll.ok _ _ _ _ ?_
  unfold law03_BitReaderAll.E
  simp only [Join_eq]
  have hsl := (h.tells hs).1
  have hwl := (h.tells hW).1
  simp only [List.length_map, Nat.mul_one] at hsl hwl
  have hcl : ∀ i (hi : i < cs.length), cs[i].len = (bs.getD i []).length := fun i hi => by have := (h.tells (hc i hi)).1; simpa using this.symm
  have hmap : cs.map Sl.len = bs.map List.length := by
    refine List.ext_getElem (by simpa using hl) fun i h1 h2 => ?_
    have hi : i < cs.length := by simpa using h1
    have hi2 : i < bs.length := by omega
    rw [List.getElem_map, List.getElem_map, hcl i hi, List.getD_eq_getElem?_getD, List.getElem?_eq_getElem hi2, Option.getD_some]
  refine great_c (h.tells hs) (IfB.t rfl (wakes_c h hK)) fun h80 h3000 => IfB.f rfl (IfB.mk (fun _ => wakes_c h hK) (fun h300 => ?_))
  have hsum : bs.flatten.length ≤ 3000 := by rw [List.length_flatten, ← hmap]; exact h3000
  have h300 : ws.length ≤ 300 := by have := of_decide_eq_false h300; omega
  refine join_c h hs hl (by rw [big_eq]; omega) hc (by rw [big_eq]; omega) fun sa w1 h1 => ?_
  have hal := h1.ownLen
  simp only [List.length_map, Nat.mul_one] at hal
  refine IfB.mk (fun _ => wakes_c h1.drop hK) (fun ha => ?_)
  have ha : bs.flatten.length ≤ 300 := by have := of_decide_eq_false ha; omega
  have hab : ∀ y ∈ bs.flatten, y < 256 := by
    intro y hy
    obtain ⟨b, hb1, hb2⟩ := List.mem_flatten.1 hy
    exact hb b hb1 y hb2
  generalize hA : bs.flatten = A at *
  refine new_c h1 fun p w2 h2 => new_c h2 fun p2 w3 h3 => IfB.f rfl (IfB.f rfl (Nw.mk h3 fun b21 w4 h4 => ?_))
  refine feed1_c (b := A) h4.p2.p1 (Tells.cons Tells.own) hab (by rw [big_eq]; simp; omega) fun w5 h5 => IfB.f rfl ?_
  have h5 : Hp E w5 (Rd p A 0 false :: Rd p2 [] 0 false :: OwnS 1 sa (A.map vB) :: F) := h5
  refine ⟨fun nx at_ i w' => ∃ k j a : Nat, i = (k : Int) ∧ nx = (j : Int) ∧ at_ = (a : Int) ∧ k ≤ ws.length ∧ j ≤ bs.length ∧ Hp E w' (Rd p A a false :: Rd p2 (bs.take j).flatten a false :: OwnS 1 sa (A.map vB) :: F),
    fun _ _ i _ => ws.length - i.toNat, ⟨0, 0, 0, rfl, rfl, rfl, by omega, by omega, h5⟩, ?_⟩
  rintro nx at_ i w' ⟨k, j, a, rfl, rfl, rfl, hk, hj, hh⟩
  refine IfB.mk (fun hlt => ?_) (fun _ => wakes_c hh.drop.drop.drop hK)
  have hlt : k < ws.length := by have := of_decide_eq_true hlt; omega
  refine Idx.rd (hh.drop.drop.drop.tells hW) (by omega) (by omega) fun q hi hq => ?_
  refine Ld.sc (s := .int .i64) ws[k] (by rw [hq]; simp [vI]) ?_
  obtain ⟨n, hn, hn32⟩ := clamp_nat ws[k]
  simp only [hn]
  refine ⟨fun nx w' => ∃ j : Nat, nx = (j : Int) ∧ j ≤ bs.length ∧ Hp E w' (Rd p A a false :: Rd p2 (bs.take j).flatten a false :: OwnS 1 sa (A.map vB) :: F), fun nx _ => bs.length - nx.toNat, ⟨j, rfl, hj, hh⟩, ?_⟩
  clear hh hj
  rintro nx w0 ⟨j, rfl, hj, hh⟩
  obtain ⟨_, _, _, _, ha1, _⟩ := Rd.opn hh
  obtain ⟨_, _, _, _, ha2, _⟩ := Rd.opn hh.p1
  have hfl := flat_take bs j
  rw [hA] at hfl
  have hAl : A.length = (bs.take j).flatten.length + (bs.drop j).flatten.length := by rw [hfl, List.length_append]
  have hbig : A.length ≤ big := by rw [big_eq]; omega
  refine IfB.mk (fun hlt2 => left_c hh.p1 fun w1 h1 _ => IfB.mk (fun hlt3 => ?_) (fun hge3 => have hcase : j = bs.length ∨ a + n ≤ 8 * (bs.take j).flatten.length := (by have := of_decide_eq_false hge3; omega); have hh := h1.p1; ?_)) (fun hge2 => have hcase : j = bs.length ∨ a + n ≤ 8 * (bs.take j).flatten.length := (by have := of_decide_eq_false hge2; omega); ?_)
  · have hj2 : j < bs.length := by have := of_decide_eq_true hlt2; omega
    have hfs := flat_succ hj2
    have hfl2 := flat_take bs (j + 1)
    rw [hA] at hfl2
    have hAl2 : A.length = (bs.take (j + 1)).flatten.length + (bs.drop (j + 1)).flatten.length := by rw [hfl2, List.length_append]
    have hAl3 : (bs.take (j + 1)).flatten.length = (bs.take j).flatten.length + bs[j].length := by rw [hfs, List.length_append]
    refine Idx.rd (h1.drop.drop.drop.tells hs) (by omega) (by omega) fun q hi hq => ?_
    have hj3 : j < cs.length := by omega
    have hq' : w1.cell? q = some (Sc.sl.enc cs[j]) := by simpa using hq
    refine Ld.sc (s := .sl) cs[j] hq' (Nw.mk h1 fun b44 w2 h2' => ?_)
    have hct := hc j hj3
    rw [List.getD_eq_getElem?_getD, List.getElem?_eq_getElem hj2, Option.getD_some] at hct
    refine feed1_c (b := bs[j]) h2' (Tells.cons (Tells.cons hct)) (hb _ (List.getElem_mem hj2)) (by rw [big_eq]; omega) fun w3 h3' => IfB.f rfl ?_
    rw [i64_id (by omega)]
    have h3' : Hp E w3 (Rd p2 ((bs.take j).flatten ++ bs[j]) a false :: Rd p A a false :: OwnS 1 sa (A.map vB) :: F) := h3'
    rw [← hfs] at h3'
    exact ⟨⟨j + 1, rfl, by omega, h3'.p1⟩, by dsimp only; omega⟩
  all_goals
    have hB : a + n ≤ 8 * A.length → a + n ≤ 8 * (bs.take j).flatten.length := by
      intro hok
      rcases hcase with rfl | h
      · rw [List.take_length, hA]; exact hok
      · exact h
    by_cases hok : a + n ≤ 8 * A.length
    · refine takeN_c hh hn32 hok fun w6 h6 => takeN_c h6.p1 hn32 (hB hok) fun w7 h7 => ?_
      have hv : val (bs.take j).flatten a n = val A a n := by rw [hfl, val_append _ _ _ _ (hB hok)]
      rw [hv]
      refine IfB.f ?_ (IfB.f rfl (IfB.f (by simp) (IfB.f rfl ?_)))
      · rw [i64_id (by omega), i64_id (by omega), decide_eq_true (by omega)]; rfl
      · refine ⟨fun i w' => ∃ m : Nat, i = (m : Int) ∧ m ≤ n ∧ Hp E w' (Rd p A (a + n) false :: Rd p2 (bs.take j).flatten (a + n) false :: OwnS 1 sa (A.map vB) :: F), fun i _ => n - i.toNat, ⟨0, rfl, by omega, h7.p1⟩, ?_⟩
        rintro i w' ⟨m, rfl, hm, hh⟩
        refine IfB.mk (fun hlt => ?_) (fun hge => ?_)
        · have hlt : m < n := by have := of_decide_eq_true hlt; omega
          refine ⟨by rw [u64_id]; all_goals (simp (disch := omega) only [i64_id]; omega), ?_⟩
          rw [i64_id (x := (a : Int) + (m : Int)) (by omega)]
          refine bit_c (i := a + m) (hh.drop.drop.tells Tells.own) (by omega) hab hbig ?_
          rw [bits_eq hn32 hlt, i64_id (by omega)]
          exact IfB.f (by simp) ⟨⟨m + 1, rfl, by omega, hh⟩, by dsimp only; omega⟩
        · have e1 : i64 ((a : Int) + (n : Int)) = ((a + n : Nat) : Int) := by rw [i64_id (by omega)]; rfl
          rw [e1]
          refine used_c hh (IfB.f (by simp) (used_c hh.p1 (IfB.f (by simp) (left_c hh fun w8 h8 _ => IfB.f ?_ ?_))))
          · simp (disch := omega) only [i64_id]
            simp; omega
          · rw [i64_id (by omega)]
            exact ⟨⟨k + 1, j, a + n, rfl, rfl, rfl, by omega, by omega, h8⟩, by omega⟩
    · have hp1 : peekB A a (n : Int) = false := decide_eq_false (by omega)
      have hp2 : peekB (bs.take j).flatten a (n : Int) = false := decide_eq_false (by omega)
      have hv1 : peekV A a (n : Int) = 0 := by unfold peekV; rw [if_neg (by omega)]
      have hv2 : peekV (bs.take j).flatten a (n : Int) = 0 := by unfold peekV; rw [if_neg (by omega)]
      refine take_c hh fun w6 h6 => take_c h6.p1 fun w7 h7 => ?_
      rw [hp1, hp2] at h7
      rw [hp1, hp2, hv1, hv2]
      refine IfB.f ?_ (IfB.f rfl (IfB.f rfl (IfB.t rfl ?_)))
      · rw [i64_id (by omega), i64_id (by omega), decide_eq_false (by omega)]; rfl
      · rw [i64_id (by omega)]
        exact ⟨⟨k + 1, j, a, rfl, rfl, rfl, by omega, by omega, h7.p1⟩, by omega⟩
end
end Go.Proofs.Ytmpoijocebbenaa
