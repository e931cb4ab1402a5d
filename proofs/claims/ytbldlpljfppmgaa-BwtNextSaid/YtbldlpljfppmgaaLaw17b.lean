/-
  The law BwtBack. Conditions: as each theorem states.
-/
import Derived.Test.YtbldlpljfppmgaaLaw17
import Derived.Test.YtbldlpljfppmgaaHist2
namespace Go.Bw
open Go Go.Vc Go.Rk
theorem lastB_perm (t : List Nat) : (lastB t).Perm t := by
  have h := (colE_perm t).map fun i => t.getD (i - 1) 0
  have e : ((List.range t.length).map (· + 1)).map (fun i => t.getD (i - 1) 0) = t := by
    apply List.ext_getElem
    · simp
    · intro i h1 h2
      simp [List.getD, h2]
  rw [e] at h
  exact h
theorem lastB_b {t : List Nat} (hb : ∀ x ∈ t, x < 256) : ∀ x ∈ lastB t, x < 256 := fun x hx => hb x ((lastB_perm t).mem_iff.1 hx)
theorem idxB_zero (t : List Nat) : idxB t = 0 ↔ t.length = 0 := by
  unfold idxB
  constructor
  · intro h
    have := rkB_inj (t := t) (i := 0) (k := t.length) (by omega) (by omega) (by rw [h, rkB_end])
    omega
  · intro h
    have := rkB_end t
    rwa [h] at this
theorem ok_idx {t : List Nat} {r : Nat} (h : okB (lastB t) r) (ht : textB (lastB t) r = t) : r = idxB t := by
  have := (turn_back h).2
  rw [ht] at this
  exact this.symm
/-- how often a byte stands in the beginning -/
def ctB (t : List Nat) (k c : Nat) : Int := ((t.take k).count c : Int)
theorem ctB_succ {t : List Nat} {k c : Nat} (hk : k < t.length) : ctB t (k + 1) c = ctB t k c + if t.getD k 0 = c then 1 else 0 := by
  have e : t.getD k 0 = t[k] := by simp [List.getD, hk]
  unfold ctB
  rw [← List.take_append_getElem hk, List.count_append, List.count_singleton, e]
  generalize t[k] = v
  by_cases h : v = c
  · subst h; simp
  · simp [h]
theorem ctB_le (t : List Nat) (k c : Nat) : 0 ≤ ctB t k c ∧ ctB t k c ≤ k := by
  unfold ctB
  have h1 : (t.take k).count c ≤ (t.take k).length := List.count_le_length
  have h2 : (t.take k).length ≤ k := by rw [List.length_take]; omega
  omega
theorem ctB_all (t : List Nat) (c : Nat) : ctB (lastB t) t.length c = ctB t t.length c := by
  unfold ctB
  rw [List.take_of_length_le (by rw [lastB_len]; omega), List.take_of_length_le (Nat.le_refl _), (lastB_perm t).count_eq]
end Go.Bw
namespace Go.Proofs.Ytbldlpljfppmgaa
open Go Go.Vc Go.Bw Go.Hs
section
variable {E w : World} {F : List HP}
theorem getD_b {t : List Nat} (hb : ∀ x ∈ t, x < 256) {k : Nat} (hk : k < t.length) : t.getD k 0 < 256 := by
  have := hb t[k] (List.getElem_mem hk)
  simpa [List.getD, hk] using this
set_option maxRecDepth 100000 in
theorem bwBack_law {t : List Nat} {s : Sl} {row : Int} {K : Bool → World → Prop} (h : Hp E w F) (hs : Tells F (SlT 1 s (t.map vB))) (hb : ∀ x ∈ t, x < 256) (hK : ∀ w', Hp E w' F → K true w') :
    Cl Try.prog [kB] n_law17_BwtBack ⟨[.slice s.base s.len s.cap, .int .i64 row]⟩ w K := by
  refine law17_BwtBack.ok _ _ _ _ ?_
  unfold law17_BwtBack.E
  simp only [Join_eq]
  have hl := (h.tells hs).1
  simp only [List.length_map, Nat.mul_one] at hl
  refine IfB.mk (fun _ => wakes17_c h fun w2 h2 => hK w2 h2) (fun g1 => ?_)
  have g1 := of_decide_eq_false g1
  refine bwTurn_c h hs hb (by omega) fun s6 w1 h1 => ?_
  have hl6 := h1.ownLen
  rw [List.length_map, lastB_len, Nat.mul_one] at hl6
  obtain ⟨ok, tx⟩ := back_turn t
  have oi : okI (lastB t) (idxB t) := ⟨by omega, by simpa using ok⟩
  have hi := idxB_le t
  have hz := idxB_zero t
  refine back1 h1 Tells.own (lastB_b hb) (by rw [lastB_len]; omega) fun s9 w2 h2 => ?_
  rw [backT, if_pos oi, Int.toNat_natCast, tx] at h2
  rw [backE, if_pos oi]
  refine IfB.f (by rw [bne_eq_false_iff_eq]; omega) (IfB.f (by decide) (str_c (b := t) (h2.tells Tells.own) (str_c (b := t) (h2.tells (Tells.cons (Tells.cons hs))) (IfB.f (by simp) ?_))))
  have h2 := h2.drop
  refine valid1 h2 Tells.own (lastB_b hb) (by rw [lastB_len]; omega) fun w3 h3 => IfB.f (by simp [oi]) (IfB.f (by rw [decide_eq_false_iff_not]; omega) (IfB.f (by rw [decide_eq_false_iff_not]; omega) (IfB.f ?_ ?_)))
  · rw [Bool.not_eq_false', beq_iff_eq, Bool.eq_iff_iff, beq_iff_eq, beq_iff_eq]; omega
  rw [aT_zero]
  refine Nw.mk h3 fun b20 w4 h4 => ?_
  refine ⟨fun k w' => ∃ (j : Nat) (A : List Int), k = (j : Int) ∧ j ≤ t.length ∧ A.length = 256 ∧ (∀ c, c < 256 → A.getD c 0 = ctB t j c - ctB (lastB t) j c) ∧ Hp E w' (Blk b20 (.cells (aT A) 53 (0, 0)) :: OwnS 1 s6 ((lastB t).map vB) :: F), fun k _ => t.length - k.toNat,
    ⟨0, _, rfl, by omega, List.length_replicate, fun c hc => by rw [List.getD, List.getElem?_replicate, if_pos hc]; simp [ctB], h4⟩, ?_⟩
  rintro k w5 ⟨j, A, rfl, hj, hA, hv, h5⟩
  refine IfB.mk (fun hlt => ?_) (fun hge => ?_)
  · have hlt : j < t.length := by have := of_decide_eq_true hlt; omega
    have ht := getD_b hb hlt
    have hlk : (lastB t).getD j 0 < 256 := getD_b (lastB_b hb) (by rw [lastB_len]; exact hlt)
    have ct := fun c => ctB_le t j c
    have cl := fun c => ctB_le (lastB t) j c
    refine Idx.nB (h5.tells (Tells.cons (Tells.cons hs))) rfl hlt (IdxP.aT h5 rfl hA ht (IdxP.aTset h5 rfl hA ht fun w6 h6 => ?_))
    refine Idx.nB (h6.tells (Tells.cons Tells.own)) rfl (by rw [lastB_len]; exact hlt) (IdxP.aT h6 rfl (by rw [List.length_set]; exact hA) hlk (IdxP.aTset h6 rfl (by rw [List.length_set]; exact hA) hlk fun w7 h7 => ?_))
    refine ⟨⟨j + 1, _, by rw [i64_id (by omega)]; omega, by omega, by rw [List.length_set, List.length_set]; exact hA, fun c hc => ?_, h7⟩, by dsimp only; rw [i64_id (by omega)]; omega⟩
    have e1 := hv _ ht
    have e2 := hv _ hlk
    have e3 := hv _ hc
    have c1 := ct (t.getD j 0)
    have c2 := cl (t.getD j 0)
    have c3 := ct ((lastB t).getD j 0)
    have c4 := cl ((lastB t).getD j 0)
    rw [getD_set (by rw [List.length_set]; omega), getD_set (by omega), getD_set (by omega), ctB_succ hlt, ctB_succ (by rw [lastB_len]; exact hlt), i64_id (x := A.getD (t.getD j 0) 0 + 1) (by omega)]
    have hx : (if (lastB t).getD j 0 = t.getD j 0 then A.getD (t.getD j 0) 0 + 1 else A.getD ((lastB t).getD j 0) 0) = A.getD ((lastB t).getD j 0) 0 + (if (lastB t).getD j 0 = t.getD j 0 then 1 else 0) := by
      split
      · rename_i e; rw [e]
      · omega
    rw [hx, i64_id (by split <;> omega)]
    by_cases q1 : c = (lastB t).getD j 0
    · have q1' : (lastB t).getD j 0 = c := q1.symm
      rw [if_pos q1, if_pos q1', e2, q1']
      by_cases q2 : c = t.getD j 0
      · have q2' : t.getD j 0 = c := q2.symm
        rw [if_pos q2, if_pos q2']; omega
      · have q2' : ¬ t.getD j 0 = c := fun e => q2 e.symm
        rw [if_neg q2, if_neg q2']; omega
    · have q1' : ¬ (lastB t).getD j 0 = c := fun e => q1 e.symm
      rw [if_neg q1, if_neg q1']
      by_cases q2 : c = t.getD j 0
      · have q2' : t.getD j 0 = c := q2.symm
        rw [if_pos q2, if_pos q2', e1, q2']; omega
      · have q2' : ¬ t.getD j 0 = c := fun e => q2 e.symm
        rw [if_neg q2, if_neg q2', e3]; omega
  · have hge : j = t.length := by have := of_decide_eq_false hge; omega
    subst hge
    have hA0 : A = List.replicate 256 0 := by
      apply List.ext_getElem (by rw [hA, List.length_replicate])
      intro c h1 h2
      have := hv c (by omega)
      rw [ctB_all, Int.sub_self] at this
      rw [List.getElem_replicate]
      simpa [List.getD, h1] using this
    subst hA0
    refine Ld.arrAt (cs := aT (List.replicate 256 0)) (by simp [aT]) (fun i hi => by rw [add_mk, Nat.zero_add]; exact h5.cell) ⟨aT (List.replicate 256 0), by kernel_rfl, EqA.aT List.length_replicate List.length_replicate (IfB.f (by simp) ?_)⟩
    have h6 := h5.drop
    refine back1 h6 Tells.own (lastB_b hb) (by rw [lastB_len]; omega) fun s41 w6 h7 => ?_
    have fin : ∀ {w' : World}, Hp E w' (OwnS 1 s41 ((backT (lastB t) row).map vB) :: OwnS 1 s6 ((lastB t).map vB) :: F) → Cl Try.prog [kB] n_law17_wakes ⟨[]⟩ w' K := fun h' => wakes17_c h' fun w2 h2 => hK w2 h2.drop.drop
    refine IfB.mk (fun _ => fin h7) (fun hne => IfB.mk (fun _ => fin h7) (fun h0 => ?_))
    have ho : okI (lastB t) row := by
      by_cases ho : okI (lastB t) row
      · exact ho
      · rw [backE, if_neg ho] at h0; exact absurd h0 (by decide)
    refine str_c (b := backT (lastB t) row) (h7.tells Tells.own) (str_c (b := t) (h7.tells (Tells.cons (Tells.cons hs))) (IfB.t ?_ (fin h7)))
    have hb2 : ∀ x ∈ backT (lastB t) row, x < 256 := fun x hx => by
      rw [backT, if_pos ho] at hx
      have := (lastB_perm (textB (lastB t) row.toNat)).mem_iff.2 hx
      rw [(turn_back ho.2).1] at this
      exact lastB_b hb x this
    rw [strOf_eq hb2 hb, Bool.not_eq_true', beq_eq_false_iff_ne]
    intro e
    rw [backT, if_pos ho] at e
    have := ok_idx ho.2 e
    have h1 := ho.1
    rw [beq_eq_false_iff_ne] at hne
    omega
end
end Go.Proofs.Ytbldlpljfppmgaa
