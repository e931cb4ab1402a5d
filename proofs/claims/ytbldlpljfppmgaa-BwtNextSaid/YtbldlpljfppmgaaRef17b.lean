/-
  winepressref17: contracts of Turn, Next, After, Back, Valid. Conditions: as each theorem states.
-/
import Derived.Test.YtbldlpljfppmgaaRef17
namespace Go.Proofs.Ytbldlpljfppmgaa
open Go Go.Vc Go.Bw Go.Hs
section
variable {E w : World} {F : List HP}
set_option maxRecDepth 200000 in
theorem rTurn17_c {t : List Nat} {s : Sl} {K : Sl → Int → World → Prop} (h : Hp E w F) (hs : Tells F (SlT 1 s (t.map vB))) (hn : t.length ≤ 400000)
    (hK : ∀ s' w', Hp E w' (OwnS 1 s' ((lastB t).map vB) :: F) → K s' (idxB t : Int) w') : Cl Try.prog [kS, kI] n_ref17_Turn ⟨[.slice s.base s.len s.cap]⟩ w K := by
  refine ref17_Turn.ok _ _ _ ?_
  unfold ref17_Turn.E
  have hl := (h.tells hs).1
  simp only [List.length_map, Nat.mul_one] at hl
  refine rOrder17_c h hs hn fun s3 w1 h1 => ?_
  have hl3 := h1.ownLen
  rw [List.length_map, zl_len, ordB_len, Nat.mul_one] at hl3
  refine ⟨fun o ix i w' => ∃ k : Nat, i = (k : Int) ∧ k ≤ t.length + 1 ∧ ix = (if idxB t < k then (idxB t : Int) else 0) ∧ Hp E w' (OwnS 1 o (((((ordB t).take k).filter fun i => i != 0).map fun i => t.getD (i - 1) 0).map vB) :: OwnS 1 s3 ((zl (ordB t)).map vI) :: F),
    fun _ _ i _ => t.length + 1 - i.toNat, ⟨0, rfl, by omega, rfl, h1.ownNil 1⟩, ?_⟩
  rintro o ix i w2 ⟨k, rfl, hk, rfl, h2⟩
  refine IfB.mk (fun hlt => ?_) (fun hge => ?_)
  · have hlt : k < t.length + 1 := by have := of_decide_eq_true hlt; omega
    have hko : k < (ordB t).length := by rw [ordB_len]; exact hlt
    have hix := ordB_idx t hko
    have hle : (ordB t)[k] ≤ t.length := ordB_mem.1 (List.getElem_mem hko)
    have e0 : (zl (ordB t)).getD k 0 = ((ordB t)[k] : Int) := by simp [zl, List.getD, hko]
    refine Idx.nI (h2.tells (Tells.cons Tells.own)) rfl (by rw [zl_len]; exact hko) ?_
    rw [e0]
    have hf := filter_take_succ hko
    refine IfB.mk (fun hz => ?_) (fun hz => ?_)
    · have hz : (ordB t)[k] = 0 := by have := beq_iff_eq.1 hz; omega
      rw [if_pos hz, List.append_nil] at hf
      have hke := hix.1 hz
      refine ⟨⟨k + 1, by rw [i64_id (by omega)]; omega, by omega, by rw [if_pos (by omega)]; omega, by rw [hf]; exact h2⟩, by dsimp only; rw [i64_id (by omega)]; omega⟩
    · have hz : (ordB t)[k] ≠ 0 := by have := beq_eq_false_iff_ne.1 hz; omega
      rw [if_neg hz] at hf
      have hke : k ≠ idxB t := fun e => hz (hix.2 e)
      refine Idx.nI (h2.tells (Tells.cons Tells.own)) rfl (by rw [zl_len]; exact hko) ?_
      rw [e0]
      have e1 : i64 (((ordB t)[k] : Int) - 1) = (((ordB t)[k] - 1 : Nat) : Int) := by rw [i64_id (by omega)]; omega
      rw [e1]
      refine Idx.nB (h2.tells (Tells.cons (Tells.cons hs))) rfl (by omega) ?_
      refine app_b ty_bs rfl h2 (by rw [List.length_map, big_eq]; exact Nat.le_trans (List.length_filter_le ..) (by rw [List.length_take]; omega)) fun s' w3 h3 _ => ⟨⟨k + 1, by rw [i64_id (by omega)]; omega, by omega, ?_, ?_⟩, by dsimp only; rw [i64_id (x := (k : Int) + 1) (by omega)]; omega⟩
      · by_cases e : idxB t < k
        · rw [if_pos e, if_pos (by omega)]
        · rw [if_neg e, if_neg (by omega)]
      · rw [hf, List.map_append]
        exact h3
  · have hge : k = t.length + 1 := by have := of_decide_eq_false hge; omega
    subst hge
    have hil := idxB_le t
    rw [if_pos (by omega)]
    rw [List.take_of_length_le (by rw [ordB_len]; exact Nat.le_refl _)] at h2
    exact hK o w2 h2.p1.drop
theorem rNext17_c {last : List Nat} {s : Sl} {index row : Int} {K : Int → Int → Bool → World → Prop} (h : Hp E w F) (hs : Tells F (SlT 1 s (last.map vB))) (hbig : last.length ≤ big)
    (hK1 : inRow last.length index row → ∀ w', Hp E w' F → K (nx last (atB index.toNat row.toNat) : Int) (last.getD (atB index.toNat row.toNat) 0 : Int) true w') (hK2 : ¬ inRow last.length index row → ∀ w', Hp E w' F → K 0 0 false w') :
    Cl Try.prog [kI, kInt .u8, kB] n_ref17_Next ⟨[.slice s.base s.len s.cap, .int .i64 index, .int .i64 row]⟩ w K := by
  refine ref17_Next.ok _ _ _ _ _ ?_
  unfold ref17_Next.E
  simp only [Join_eq]
  have hl := (h.tells hs).1
  simp only [List.length_map, Nat.mul_one] at hl
  rw [big_eq] at hbig
  have no : ¬ inRow last.length index row → K 0 0 false w := fun hn => hK2 hn w h
  unfold inRow at hK1 no
  refine IfB.mk (fun g => no (by have := of_decide_eq_true g; omega)) (fun g1 => IfB.mk (fun g => no (by have := of_decide_eq_true g; omega)) (fun g2 => IfB.mk (fun g => no (by have := of_decide_eq_true g; omega)) (fun g3 => IfB.mk (fun g => no (by have := of_decide_eq_true g; omega)) (fun g4 => IfB.mk (fun g => no (by have := beq_iff_eq.1 g; omega)) (fun g5 => ?_)))))
  have g1 := of_decide_eq_false g1
  have g2 := of_decide_eq_false g2
  have g3 := of_decide_eq_false g3
  have g4 := of_decide_eq_false g4
  have g5 := beq_eq_false_iff_ne.1 g5
  have hK := hK1 (by omega)
  have hat : atB index.toNat row.toNat < last.length := by unfold atB; split <;> omega
  have he : (row > index → row - 1 = (atB index.toNat row.toNat : Int)) ∧ (¬ row > index → row = (atB index.toNat row.toNat : Int)) := by
    unfold atB; split <;> omega
  obtain ⟨a, ha⟩ : ∃ a, a = atB index.toNat row.toNat := ⟨_, rfl⟩
  rw [← ha] at hat hK he
  refine IfB.mk (fun g => ?_) (fun g => ?_)
  · rw [show i64 (row - 1) = (a : Int) by rw [i64_id (by omega)]; exact he.1 (of_decide_eq_true g)]
    refine ⟨fun n i w' => ∃ k : Nat, i = (k : Int) ∧ k ≤ last.length ∧ n = ((1 + plN last a k : Nat) : Int) ∧ Hp E w' F, fun _ i _ => last.length - i.toNat, ⟨0, rfl, by omega, rfl, h⟩, ?_⟩
    rintro n i w1 ⟨k, rfl, hk, rfl, h1⟩
    refine IfB.mk (fun hlt => ?_) (fun hge => ?_)
    · have hlt : k < last.length := by have := of_decide_eq_true hlt; omega
      refine Drw.mk h1 fun w2 h2 => ?_
      have hs2 := plN_succ last a k
      have hle := plN_le last a k
      have yes : pl last k a = true → (∃ k' : Nat, i64 ((k : Int) + 1) = (k' : Int) ∧ k' ≤ last.length ∧ i64 (((1 + plN last a k : Nat) : Int) + 1) = ((1 + plN last a k' : Nat) : Int) ∧ Hp E w2 F) ∧ last.length - (i64 ((k : Int) + 1)).toNat < last.length - (k : Int).toNat := fun hp =>
        ⟨⟨k + 1, by rw [i64_id (by omega)]; omega, by omega, by rw [i64_id (by omega), hs2, if_pos hp]; omega, h2⟩, by rw [i64_id (by omega)]; omega⟩
      have no : pl last k a = false → (∃ k' : Nat, i64 ((k : Int) + 1) = (k' : Int) ∧ k' ≤ last.length ∧ ((1 + plN last a k : Nat) : Int) = ((1 + plN last a k' : Nat) : Int) ∧ Hp E w2 F) ∧ last.length - (i64 ((k : Int) + 1)).toNat < last.length - (k : Int).toNat := fun hp =>
        ⟨⟨k + 1, by rw [i64_id (by omega)]; omega, by omega, by rw [hs2, hp]; simp, h2⟩, by rw [i64_id (by omega)]; omega⟩
      refine Idx.nB (h2.tells hs) rfl hlt (Idx.nB (h2.tells hs) rfl hat (IfB.mk (fun hc => yes (pl_iff.2 (.inl (by have := of_decide_eq_true hc; omega)))) (fun hc => Idx.nB (h2.tells hs) rfl hlt (Idx.nB (h2.tells hs) rfl hat (IfB.mk (fun he => IfB.mk (fun hd => yes (pl_iff.2 (.inr ⟨by have := beq_iff_eq.1 he; omega, by have := of_decide_eq_true hd; omega⟩))) (fun hd => no (pl_f.2 ?_))) (fun he => no (pl_f.2 ?_)))))))
      · have hc := of_decide_eq_false hc
        have hd := of_decide_eq_false hd
        omega
      · have hc := of_decide_eq_false hc
        have he := beq_eq_false_iff_ne.1 he
        omega
    · have hge : k = last.length := by have := of_decide_eq_false hge; omega
      subst hge
      exact Drw.mk h1 fun w2 h2 => Idx.nB (h2.tells hs) rfl hat (hK w2 h2)
  · rw [show row = (a : Int) from he.2 (of_decide_eq_false g)]
    refine ⟨fun n i w' => ∃ k : Nat, i = (k : Int) ∧ k ≤ last.length ∧ n = ((1 + plN last a k : Nat) : Int) ∧ Hp E w' F, fun _ i _ => last.length - i.toNat, ⟨0, rfl, by omega, rfl, h⟩, ?_⟩
    rintro n i w1 ⟨k, rfl, hk, rfl, h1⟩
    refine IfB.mk (fun hlt => ?_) (fun hge => ?_)
    · have hlt : k < last.length := by have := of_decide_eq_true hlt; omega
      refine Drw.mk h1 fun w2 h2 => ?_
      have hs2 := plN_succ last a k
      have hle := plN_le last a k
      have yes : pl last k a = true → (∃ k' : Nat, i64 ((k : Int) + 1) = (k' : Int) ∧ k' ≤ last.length ∧ i64 (((1 + plN last a k : Nat) : Int) + 1) = ((1 + plN last a k' : Nat) : Int) ∧ Hp E w2 F) ∧ last.length - (i64 ((k : Int) + 1)).toNat < last.length - (k : Int).toNat := fun hp =>
        ⟨⟨k + 1, by rw [i64_id (by omega)]; omega, by omega, by rw [i64_id (by omega), hs2, if_pos hp]; omega, h2⟩, by rw [i64_id (by omega)]; omega⟩
      have no : pl last k a = false → (∃ k' : Nat, i64 ((k : Int) + 1) = (k' : Int) ∧ k' ≤ last.length ∧ ((1 + plN last a k : Nat) : Int) = ((1 + plN last a k' : Nat) : Int) ∧ Hp E w2 F) ∧ last.length - (i64 ((k : Int) + 1)).toNat < last.length - (k : Int).toNat := fun hp =>
        ⟨⟨k + 1, by rw [i64_id (by omega)]; omega, by omega, by rw [hs2, hp]; simp, h2⟩, by rw [i64_id (by omega)]; omega⟩
      refine Idx.nB (h2.tells hs) rfl hlt (Idx.nB (h2.tells hs) rfl hat (IfB.mk (fun hc => yes (pl_iff.2 (.inl (by have := of_decide_eq_true hc; omega)))) (fun hc => Idx.nB (h2.tells hs) rfl hlt (Idx.nB (h2.tells hs) rfl hat (IfB.mk (fun he => IfB.mk (fun hd => yes (pl_iff.2 (.inr ⟨by have := beq_iff_eq.1 he; omega, by have := of_decide_eq_true hd; omega⟩))) (fun hd => no (pl_f.2 ?_))) (fun he => no (pl_f.2 ?_)))))))
      · have hc := of_decide_eq_false hc
        have hd := of_decide_eq_false hd
        omega
      · have hc := of_decide_eq_false hc
        have he := beq_eq_false_iff_ne.1 he
        omega
    · have hge : k = last.length := by have := of_decide_eq_false hge; omega
      subst hge
      exact Drw.mk h1 fun w2 h2 => Idx.nB (h2.tells hs) rfl hat (hK w2 h2)
def afterB (last : List Nat) : List Int := (List.range last.length).map fun i => (nx last i : Int)
theorem cntL_take {last : List Nat} {k c : Nat} (hk : k < last.length) : cntL (last.take (k + 1)) c = cntL (last.take k) c + if last.getD k 0 < c then 1 else 0 := by
  unfold cntL
  rw [List.take_add_one, List.getElem?_eq_getElem hk, List.countP_append]
  simp [List.getD, hk]
set_option maxRecDepth 20000 in
theorem rAfter17_c {last : List Nat} {s : Sl} {K : Sl → World → Prop} (h : Hp E w F) (hs : Tells F (SlT 1 s (last.map vB))) (hb : ∀ x ∈ last, x < 256) (hn : last.length ≤ 400000)
    (hK : ∀ s' w', Hp E w' (OwnS 1 s' ((afterB last).map vI) :: F) → K s' w') : Cl Try.prog [kS] n_ref17_After ⟨[.slice s.base s.len s.cap]⟩ w K := by
  refine ref17_After.ok _ _ _ ?_
  unfold ref17_After.E
  rw [aT_zero]
  have hl := (h.tells hs).1
  simp only [List.length_map, Nat.mul_one] at hl
  have hg : ∀ k, k < last.length → last.getD k 0 < 256 := fun k hk => by
    rw [List.getD, List.getElem?_eq_getElem hk]
    exact hb _ (List.getElem_mem hk)
  have hcb : ∀ (k c : Nat), cntL (last.take k) c ≤ last.length := fun k c => by
    refine Nat.le_trans List.countP_le_length ?_
    rw [List.length_take]; omega
  have hcl : ∀ (k c : Nat), (last.take k).count c ≤ last.length := fun k c => by
    refine Nat.le_trans List.count_le_length ?_
    rw [List.length_take]; omega
  refine Nw.mk h fun b3 w1 h1 => Nw.mk h1 fun b5 w2 h2 => ?_
  refine ⟨fun i w' => ∃ (k : Nat) (u : List Int), i = (k : Int) ∧ k ≤ last.length ∧ u.length = 256 ∧ (∀ c, c < 256 → u.getD c 0 = (cntL (last.take k) c : Int)) ∧ Hp E w' (Blk b3 (.cells (aT u) 53 (0, 0)) :: Blk b5 (.cells (aT (List.replicate 256 0)) 53 (0, 0)) :: F), fun i _ => last.length - i.toNat,
    ⟨0, _, rfl, by omega, List.length_replicate, fun c hc => by rw [rep_get]; simp [cntL], h2.p1⟩, ?_⟩
  rintro i w3 ⟨k, u, rfl, hk, hul, hu, h3⟩
  refine IfB.mk (fun hlt => ?_) (fun hge => ?_)
  · have hlt : k < last.length := by have := of_decide_eq_true hlt; omega
    have hx := hg k hlt
    refine Idx.nB (h3.tells (Tells.cons (Tells.cons hs))) rfl hlt ?_
    rw [i64_id (x := (last.getD k 0 : Int)) (by omega), i64_id (x := (last.getD k 0 : Int) + 1) (by omega)]
    refine ⟨fun c w' => ∃ (m : Nat) (v : List Int), c = (m : Int) ∧ last.getD k 0 < m ∧ m ≤ 256 ∧ v.length = 256 ∧ (∀ c, c < 256 → v.getD c 0 = (cntL (last.take k) c : Int) + if last.getD k 0 < c ∧ c < m then 1 else 0) ∧ Hp E w' (Blk b3 (.cells (aT v) 53 (0, 0)) :: Blk b5 (.cells (aT (List.replicate 256 0)) 53 (0, 0)) :: F), fun c _ => 256 - c.toNat,
      ⟨last.getD k 0 + 1, u, by omega, by omega, by omega, hul, fun c hc => by rw [hu c hc, if_neg (by omega)]; omega, h3⟩, ?_⟩
    rintro c w4 ⟨m, v, rfl, hm1, hm2, hvl, hv, h4⟩
    refine IfB.mk (fun hmlt => ?_) (fun hmge => ?_)
    · have hmlt : m < 256 := by have := of_decide_eq_true hmlt; omega
      have hvm := hv m hmlt
      rw [if_neg (by omega)] at hvm
      have hbm := hcb k m
      refine IdxP.aT (j := m) h4 rfl hvl hmlt (IdxP.aTset (j := m) h4 rfl hvl hmlt fun w5 h5 => ?_)
      rw [i64_id (x := (m : Int) + 1) (by omega)]
      refine ⟨⟨m + 1, _, by omega, by omega, by omega, by rw [List.length_set]; exact hvl, fun c hc => ?_, h5⟩, by dsimp only; omega⟩
      rw [getD_set (by omega)]
      by_cases e : c = m
      · subst e
        rw [if_pos rfl, hvm, if_pos (by omega), i64_id (by omega)]; omega
      · rw [if_neg e, hv c hc]
        by_cases e2 : last.getD k 0 < c ∧ c < m
        · rw [if_pos e2, if_pos (by omega)]
        · rw [if_neg e2, if_neg (by omega)]
    · have hme : m = 256 := by have := of_decide_eq_false hmge; omega
      subst hme
      rw [i64_id (x := (k : Int) + 1) (by omega)]
      refine ⟨⟨k + 1, v, by omega, by omega, hvl, fun c hc => ?_, h4⟩, by dsimp only; omega⟩
      rw [hv c hc, cntL_take hlt]
      by_cases e : last.getD k 0 < c
      · rw [if_pos ⟨e, hc⟩, if_pos e]; omega
      · rw [if_neg (by omega), if_neg e]; omega
  have hge : k = last.length := by have := of_decide_eq_false hge; omega
  subst hge
  rw [List.take_length] at hu
  refine ⟨fun o i w' => ∃ (k : Nat) (v : List Int), i = (k : Int) ∧ k ≤ last.length ∧ v.length = 256 ∧ (∀ c, c < 256 → v.getD c 0 = ((last.take k).count c : Int)) ∧ Hp E w' (OwnS 1 o (((List.range k).map fun i => (nx last i : Int)).map vI) :: Blk b3 (.cells (aT u) 53 (0, 0)) :: Blk b5 (.cells (aT v) 53 (0, 0)) :: F), fun _ i _ => last.length - i.toNat,
    ⟨0, _, rfl, by omega, List.length_replicate, fun c hc => by rw [rep_get]; simp, h3.ownNil 1⟩, ?_⟩
  rintro o i w4 ⟨k, v, rfl, hk, hvl, hv, h4⟩
  refine IfB.mk (fun hlt => ?_) (fun hge => ?_)
  · have hlt : k < last.length := by have := of_decide_eq_true hlt; omega
    have hx := hg k hlt
    have hvx := hv _ hx
    have hux := hu _ hx
    have hcx := hcl k (last.getD k 0)
    have hnx := nx_cnt hlt
    have hnl := nx_le hlt
    have hcb' : cntL last (last.getD k 0) ≤ last.length := List.countP_le_length
    refine Idx.nB (h4.tells (Tells.cons (Tells.cons (Tells.cons hs)))) rfl hlt ?_
    refine ⟨HasF E [Blk b3 (.cells (aT u) 53 (0, 0)), Blk b5 (.cells (aT v) 53 (0, 0))], ⟨OwnS 1 o (((List.range k).map fun i => (nx last i : Int)).map vI) :: F, (h4.drew (n := w4.drawn + 1)).perm (by
      simp only [List.cons_append]
      refine List.Perm.cons _ ?_
      exact List.perm_append_comm (l₁ := [_, _]) (l₂ := F))⟩, ?_⟩
    have m3 : ∀ w, HasF E [Blk b3 (.cells (aT u) 53 (0, 0)), Blk b5 (.cells (aT v) 53 (0, 0))] w → ∃ G, Hp E w (Blk b3 (.cells (aT u) 53 (0, 0)) :: G) := fun w h => h.front
    have m5 : ∀ w, HasF E [Blk b3 (.cells (aT u) 53 (0, 0)), Blk b5 (.cells (aT v) 53 (0, 0))] w → ∃ G, Hp E w (Blk b5 (.cells (aT v) 53 (0, 0)) :: G) := fun w h => h.front2
    refine IdxP.aTS m3 (j := last.getD k 0) rfl hul (by omega) (IdxP.aTS m5 (j := last.getD k 0) rfl hvl (by omega) ?_)
    have e1 : i64 (i64 (1 + u.getD (last.getD k 0) 0) + v.getD (last.getD k 0) 0) = (nx last k : Int) := by
      rw [hux, hvx, i64_id (x := 1 + (cntL last (last.getD k 0) : Int)) (by omega), i64_id (by omega)]; omega
    rw [e1]
    have has : ∀ {w' : World} {A : List HP}, Hp E w' (A ++ (Blk b3 (.cells (aT u) 53 (0, 0)) :: Blk b5 (.cells (aT v) 53 (0, 0)) :: F)) → HasF E [Blk b3 (.cells (aT u) 53 (0, 0)), Blk b5 (.cells (aT v) 53 (0, 0))] w' := fun {w' A} h' =>
      ⟨A ++ F, h'.perm (by rw [List.append_assoc]; exact List.Perm.append_left _ (List.perm_append_comm (l₁ := [_, _]) (l₂ := F)))⟩
    have h5 := h4.drew (n := w4.drawn + 1)
    refine Nw.mk h5 fun b34 w5 h6 => ⟨has (A := [_, _]) h6, ?_⟩
    have hol := h6.drop.ownLen
    rw [List.length_map, List.length_map, List.length_range, Nat.mul_one] at hol
    refine run_append (ys := [vI (nx last k : Int)]) (n := 1) ty_zsB (by decide) (.inl ⟨3, by kernel_rfl⟩) h6.p1 (.inl ⟨some ⟨b34, 0, none⟩, 1, 1, rfl, rfl, h6.tells (Tells.blk rfl rfl)⟩) rfl (fun y hy => by rw [List.mem_singleton] at hy; subst hy; rfl) (by omega) (by omega) fun s36 w6 h7 _ => ⟨has (A := [_, _]) h7, ?_⟩
    have h7 := h7.p1.drop
    refine IdxP.aT (j := last.getD k 0) h7.p2 rfl hvl (by omega) (IdxP.aTset (j := last.getD k 0) h7.p2 rfl hvl (by omega) fun w7 h8 => ?_)
    rw [i64_id (x := (k : Int) + 1) (by omega)]
    refine ⟨⟨k + 1, v.set (last.getD k 0) (i64 (v.getD (last.getD k 0) 0 + 1)), by omega, by omega, by rw [List.length_set]; exact hvl, fun c hc => ?_, ?_⟩, by dsimp only; omega⟩
    · rw [getD_set (by omega), List.take_add_one, List.getElem?_eq_getElem hlt, List.count_append]
      have e : last.getD k 0 = last[k] := by simp [List.getD, hlt]
      by_cases ec : c = last.getD k 0
      · subst ec
        rw [if_pos rfl, hvx, i64_id (by omega), e]; simp
      · rw [if_neg ec, hv c hc]
        have : List.count c (some last[k]).toList = 0 := by
          rw [List.count_eq_zero]
          simp only [Option.toList_some, List.mem_singleton]
          rw [← e]; exact ec
        rw [this]; simp
    · rw [List.range_succ, List.map_append, List.map_append]
      exact h8.q2
  · have hge : k = last.length := by have := of_decide_eq_false hge; omega
    subst hge
    exact hK o w4 h4.p1.drop.p1.drop
set_option maxRecDepth 200000 in
theorem rTurned17_c {b : List Nat} {s : Sl} {K : Sl → World → Prop} (h : Hp E w F) (hs : Tells F (SlT 1 s (b.map vB))) (hn : b.length ≤ 400000)
    (hK : ∀ s' w', Hp E w' (OwnS 1 s' (b.reverse.map vB) :: F) → K s' w') : Cl Try.prog [kS] n_ref17_Turned ⟨[.slice s.base s.len s.cap]⟩ w K := by
  refine ref17_Turned.ok _ _ _ ?_
  unfold ref17_Turned.E
  have hl := (h.tells hs).1
  simp only [List.length_map, Nat.mul_one] at hl
  refine ⟨fun o i w' => ∃ k : Nat, i = (b.length : Int) - 1 - (k : Int) ∧ k ≤ b.length ∧ Hp E w' (OwnS 1 o ((b.reverse.take k).map vB) :: F), fun _ i _ => (i + 1).toNat, ⟨0, by rw [i64_id (by omega)]; omega, by omega, h.ownNil 1⟩, ?_⟩
  rintro o i w1 ⟨k, rfl, hk, h1⟩
  refine IfB.mk (fun hge => ?_) (fun hlt => ?_)
  · have hge : k < b.length := by have := of_decide_eq_true hge; omega
    refine Idx.nB (j := b.length - 1 - k) (h1.tells (Tells.cons hs)) (by omega) (by omega) ?_
    refine app_b ty_bs rfl h1 (by rw [List.length_take, List.length_reverse, big_eq]; omega) fun s' w2 h2 _ => ⟨⟨k + 1, by rw [i64_id (by omega)]; omega, by omega, ?_⟩, by dsimp only; rw [i64_id (by omega)]; omega⟩
    have e : b.reverse.take (k + 1) = b.reverse.take k ++ [b.getD (b.length - 1 - k) 0] := by
      rw [List.take_add_one, List.getElem?_reverse hge]
      simp [List.getD, show b.length - 1 - k < b.length by omega]
    rw [e]; exact h2
  · have hke : k = b.length := by have := of_decide_eq_false hlt; omega
    subst hke
    rw [List.take_of_length_le (by rw [List.length_reverse]; exact Nat.le_refl _)] at h1
    exact hK o w1 h1
set_option maxRecDepth 20000 in
theorem rBack17_c {last : List Nat} {s : Sl} {index : Int} {K : Sl → Int → World → Prop} (h : Hp E w F) (hs : Tells F (SlT 1 s (last.map vB))) (hb : ∀ x ∈ last, x < 256) (hn : last.length ≤ 400000)
    (hK1 : okI last index → ∀ s' w', Hp E w' (OwnS 1 s' ((textB last index.toNat).map vB) :: F) → K s' 0 w') (hK2 : ¬ okI last index → ∀ w', Hp E w' F → K ⟨none, 0, 0⟩ 170 w') :
    Cl Try.prog [kS, kI] n_ref17_Back ⟨[.slice s.base s.len s.cap, .int .i64 index]⟩ w K := by
  refine ref17_Back.ok _ _ _ _ ?_
  unfold ref17_Back.E
  simp only [Join_eq]
  have hl := (h.tells hs).1
  simp only [List.length_map, Nat.mul_one] at hl
  refine IfB.mk (fun g => hK2 (fun hh => by have := of_decide_eq_true g; have := hh.1; omega) w h) (fun g1 => ?_)
  refine IfB.mk (fun g => hK2 (fun hh => by have := of_decide_eq_true g; have := hh.2.1; have := hh.1; omega) w h) (fun g2 => ?_)
  have g1 := of_decide_eq_false g1
  have g2 := of_decide_eq_false g2
  obtain ⟨ix, rfl⟩ := Int.eq_ofNat_of_zero_le (show 0 ≤ index by omega)
  rw [Int.toNat_natCast] at hK1
  have hix : ix ≤ last.length := by omega
  refine IfB.mk (fun g3 => IfB.mk (fun g4 => hK2 (fun hh => ?_) w h) (fun g4 => ?_)) (fun g3 => ?_)
  · have g3 := beq_iff_eq.1 g3
    have g4 := of_decide_eq_true g4
    have := hh.2
    rw [g3] at this
    exact okB_zero (by omega) this
  all_goals
    refine rAfter17_c h hs hb hn fun s6 w1 h1 => ?_
    have hag : ∀ a, a < last.length → (afterB last).getD a 0 = (nx last a : Int) := fun a ha => by
      unfold afterB
      rw [List.getD, List.getElem?_map, List.getElem?_range ha]; rfl
    have hal : (afterB last).length = last.length := by unfold afterB; rw [List.length_map, List.length_range]
    refine ⟨fun o row i w' => ∃ k : Nat, i = (k : Int) ∧ k ≤ last.length ∧ row = (wk last ix k : Int) ∧ (∀ j, j < k → wk last ix j ≠ ix) ∧
        Hp E w' (OwnS 1 o (((List.range k).map fun j => last.getD (atB ix (wk last ix j)) 0).map vB) :: OwnS 1 s6 ((afterB last).map vI) :: F), fun _ _ i _ => last.length - i.toNat, ⟨0, rfl, by omega, rfl, fun j hj => by omega, h1.ownNil 1⟩, ?_⟩
    rintro o row i w2 ⟨k, rfl, hk, rfl, hne, h2⟩
    have hwl := wk_le hix k hne
    refine IfB.mk (fun hlt => ?_) (fun hge => ?_)
    · have hlt : k < last.length := by have := of_decide_eq_true hlt; omega
      refine IfB.mk (fun he => hK2 (fun hh => ?_) w2 h2.drop.drop) (fun he => ?_)
      · have h5 := hh.2.2.1 k hlt
        rw [Int.toNat_natCast] at h5
        have := beq_iff_eq.1 he
        omega
      have he : wk last ix k ≠ ix := by have := beq_eq_false_iff_ne.1 he; omega
      have hat := atB_in hix hwl he
      have step : ∀ {w' : World} {s' : Sl}, Hp E w' (OwnS 1 s' ((((List.range k).map fun j => last.getD (atB ix (wk last ix j)) 0) ++ [last.getD (atB ix (wk last ix k)) 0]).map vB) :: OwnS 1 s6 ((afterB last).map vI) :: F) →
          (∃ k' : Nat, i64 ((k : Int) + 1) = (k' : Int) ∧ k' ≤ last.length ∧ (nx last (atB ix (wk last ix k)) : Int) = (wk last ix k' : Int) ∧ (∀ j, j < k' → wk last ix j ≠ ix) ∧
            Hp E w' (OwnS 1 s' (((List.range k').map fun j => last.getD (atB ix (wk last ix j)) 0).map vB) :: OwnS 1 s6 ((afterB last).map vI) :: F)) ∧ last.length - (i64 ((k : Int) + 1)).toNat < last.length - (k : Int).toNat := fun {w' s'} h' => by
        rw [i64_id (by omega)]
        refine ⟨⟨k + 1, by omega, by omega, rfl, fun j hj => ?_, ?_⟩, by omega⟩
        · by_cases e : j = k
          · subst e; exact he
          · exact hne j (by omega)
        · rw [List.range_succ, List.map_append]
          exact h'
      refine IfB.mk (fun hgt => ?_) (fun hgt => ?_)
      · have hgt : wk last ix k > ix := by have := of_decide_eq_true hgt; omega
        have e1 : i64 ((wk last ix k : Int) - 1) = (atB ix (wk last ix k) : Int) := by
          unfold atB
          rw [if_pos hgt, i64_id (by omega)]; omega
        rw [e1]
        refine Idx.nB (h2.tells (Tells.cons (Tells.cons hs))) rfl hat (app_b ty_bs rfl h2 (by rw [List.length_map, List.length_range, big_eq]; omega) fun s' w3 h3 _ => ?_)
        refine Idx.nI (h3.tells (Tells.cons Tells.own)) rfl (by rw [hal]; exact hat) ?_
        rw [hag _ hat]
        exact step h3
      · have hgt : ¬ wk last ix k > ix := by have := of_decide_eq_false hgt; omega
        have e1 : (wk last ix k : Int) = (atB ix (wk last ix k) : Int) := by
          unfold atB
          rw [if_neg hgt]
        refine Idx.nB (j := atB ix (wk last ix k)) (h2.tells (Tells.cons (Tells.cons hs))) e1 hat (app_b ty_bs rfl h2 (by rw [List.length_map, List.length_range, big_eq]; omega) fun s' w3 h3 _ => ?_)
        refine Idx.nI (j := atB ix (wk last ix k)) (h3.tells (Tells.cons Tells.own)) e1 (by rw [hal]; exact hat) ?_
        rw [hag _ hat]
        exact step h3
    · have hke : k = last.length := by have := of_decide_eq_false hge; omega
      subst hke
      refine IfB.mk (fun g => hK2 (fun hh => ?_) w2 h2.drop.drop) (fun g => ?_)
      · have := hh.2.2.2
        rw [Int.toNat_natCast] at this
        rw [this] at g
        simp at g
      · have hend : wk last ix last.length = ix := by
          have : (wk last ix last.length : Int) = (ix : Int) := by simpa using g
          omega
        have hok : okI last (ix : Int) := ⟨by omega, by rw [Int.toNat_natCast]; exact ⟨hix, hne, hend⟩⟩
        exact rTurned17_c h2 Tells.own (by rw [List.length_map, List.length_range]; exact hn) fun s' w3 h3 => hK1 hok s' w3 h3.p1.drop.p1.drop
theorem rValid17_c {last : List Nat} {s : Sl} {index : Int} {K : Bool → World → Prop} (h : Hp E w F) (hs : Tells F (SlT 1 s (last.map vB))) (hb : ∀ x ∈ last, x < 256) (hn : last.length ≤ 400000)
    (hK1 : okI last index → ∀ w', Hp E w' F → K true w') (hK2 : ¬ okI last index → ∀ w', Hp E w' F → K false w') : Cl Try.prog [kB] n_ref17_Valid ⟨[.slice s.base s.len s.cap, .int .i64 index]⟩ w K := by
  refine ref17_Valid.ok _ _ _ _ ?_
  unfold ref17_Valid.E
  exact rBack17_c h hs hb hn (fun ho s' w' h' => hK1 ho w' h'.drop) fun ho w' h' => hK2 ho w' h'
end
end Go.Proofs.Ytbldlpljfppmgaa
