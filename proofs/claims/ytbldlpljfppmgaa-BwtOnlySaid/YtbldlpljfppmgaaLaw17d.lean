/-
  The law BwtOnly. Conditions: as each theorem states.
-/
import Derived.Test.YtbldlpljfppmgaaLaw17b
namespace Go.Proofs.Ytbldlpljfppmgaa
open Go Go.Vc Go.Bw Go.Hs Go.Rk
section
variable {E w : World} {F : List HP}
theorem pow_256 {n j : Nat} (hn : n ≤ 4) (hj : j ≤ n) : n ^ j ≤ 256 :=
  Nat.le_trans (Nat.pow_le_pow_left hn j) (Nat.le_trans (Nat.pow_le_pow_right (by decide) (show j ≤ 4 by omega)) (by decide))
set_option maxRecDepth 100000 in
theorem bwOnly_law {last : List Nat} {s : Sl} {index : Int} {K : Bool → World → Prop} (h : Hp E w F) (hs : Tells F (SlT 1 s (last.map vB))) (hb : ∀ x ∈ last, x < 256) (hK : ∀ w', Hp E w' F → K true w') :
    Cl Try.prog [kB] n_law17_BwtOnly ⟨[.slice s.base s.len s.cap, .int .i64 index]⟩ w K := by
  refine law17_BwtOnly.ok _ _ _ _ ?_
  unfold law17_BwtOnly.E
  simp only [Join_eq]
  have hl := (h.tells hs).1
  simp only [List.length_map, Nat.mul_one] at hl
  have fin : ∀ {w' : World}, Hp E w' F → Cl Try.prog [kB] n_law17_wakes ⟨[]⟩ w' K := fun h' => wakes17_c h' fun w2 h2 => hK w2 h2
  refine IfB.mk (fun _ => fin h) (fun g1 => ?_)
  have g1 := of_decide_eq_false g1
  refine back1 h hs hb (by omega) fun s6 w1 h1 => ?_
  by_cases ho : okI last index
  · rw [backE, if_pos ho]
    rw [backT, if_pos ho] at h1
    obtain ⟨e1, e2⟩ := turn_back ho.2
    have hb2 : ∀ x ∈ textB last index.toNat, x < 256 := fun x hx => by
      have := (lastB_perm (textB last index.toNat)).mem_iff.2 hx
      rw [e1] at this
      exact hb x this
    refine IfB.t rfl (bwTurn_c h1 Tells.own hb2 (by rw [textB_len]; omega) fun s9 w2 h2 => ?_)
    rw [e1] at h2
    rw [e2]
    have := ho.1
    exact str_c (h2.tells Tells.own) (str_c (h2.tells (Tells.cons (Tells.cons hs))) (IfB.t (by simp) (IfB.t (by rw [beq_iff_eq]; omega) (fin h2.drop.drop))))
  · rw [backE, if_neg ho]
    rw [backT, if_neg ho] at h1
    have hl6 := h1.ownLen
    rw [List.map_nil, List.length_nil, Nat.mul_one] at hl6
    have h1 := h1.drop
    refine IfB.f rfl (IfB.f (by rw [← hl6]; rfl) (IfB.f rfl (IfB.mk (fun _ => fin h1) (fun g2 => ?_))))
    have g2 := of_decide_eq_false g2
    have hn4 : last.length ≤ 4 := by omega
    refine ⟨fun a k w' => ∃ j : Nat, k = (j : Int) ∧ j ≤ last.length ∧ a = ((last.length ^ j : Nat) : Int) ∧ Hp E w' F, fun _ k _ => last.length - k.toNat, ⟨0, rfl, by omega, by simp, h1⟩, ?_⟩
    rintro a k w2 ⟨j, rfl, hj, rfl, h2⟩
    have hp := pow_256 hn4 hj
    refine IfB.mk (fun hlt => ?_) (fun hge => ?_)
    · have hlt : j < last.length := by have := of_decide_eq_true hlt; omega
      have hp2 := pow_256 hn4 (show j + 1 ≤ last.length from hlt)
      have e : ((last.length ^ j : Nat) : Int) * (s.len : Int) = ((last.length ^ (j + 1) : Nat) : Int) := by rw [← hl, Nat.pow_succ, Int.natCast_mul]
      refine ⟨⟨j + 1, by rw [i64_id (by omega)]; omega, by omega, by rw [e, i64_id (by omega)], h2⟩, by dsimp only; rw [i64_id (by omega)]; omega⟩
    · refine ⟨fun x w' => ∃ q : Nat, x = (q : Int) ∧ q ≤ last.length ^ j ∧ Hp E w' F, fun x _ => last.length ^ j - x.toNat, ⟨0, rfl, by omega, h2⟩, ?_⟩
      rintro x w3 ⟨q, rfl, hq, h3⟩
      refine IfB.mk (fun hlt => ?_) (fun _ => fin h3)
      have hlt : q < last.length ^ j := by have := of_decide_eq_true hlt; omega
      refine ⟨fun y T k w' => ∃ (y' i : Nat) (b : List Nat), y = (y' : Int) ∧ y' ≤ 256 ∧ k = (i : Int) ∧ i ≤ last.length ∧ b.length = i ∧ (∀ z ∈ b, z < 256) ∧ Hp E w' (OwnS 1 T (b.map vB) :: F), fun _ _ k _ => last.length - k.toNat,
        ⟨q, 0, [], rfl, by omega, rfl, by omega, rfl, by simp, h3.ownNil 1⟩, ?_⟩
      rintro y T k w4 ⟨y', i, b, rfl, hy, rfl, hi, hbl, hbb, h4⟩
      refine IfB.mk (fun hlt2 => ?_) (fun _ => ?_)
      · have hlt2 : i < last.length := by have := of_decide_eq_true hlt2; omega
        have hm : y' % last.length < last.length := Nat.mod_lt _ (by omega)
        have em : Int.tmod (y' : Int) (s.len : Int) = ((y' % last.length : Nat) : Int) := by rw [hl]; rfl
        have ed : Int.tdiv (y' : Int) (s.len : Int) = ((y' / last.length : Nat) : Int) := by rw [hl]; rfl
        have hd : y' / last.length ≤ y' := Nat.div_le_self _ _
        generalize y' / last.length = d at ed hd
        refine ⟨by omega, Idx.nB (h4.tells (Tells.cons hs)) em hm ?_⟩
        refine app_b ty_bs rfl h4 (by rw [hbl, big_eq]; omega) fun s41 w5 h5 _ => ⟨by omega, ?_⟩
        refine ⟨⟨d, i + 1, _, by rw [ed, i64_id (by omega)], by omega, by rw [i64_id (by omega)]; omega, by omega, by rw [List.length_append, hbl]; rfl, fun z hz => ?_, h5⟩, by dsimp only; rw [i64_id (by omega)]; omega⟩
        rcases List.mem_append.1 hz with hz | hz
        · exact hbb z hz
        · rw [List.mem_singleton] at hz; rw [hz]; exact getD_b hb hm
      · have next : ∀ {w' : World}, Hp E w' F → (∃ q' : Nat, i64 ((q : Int) + 1) = (q' : Int) ∧ q' ≤ last.length ^ j ∧ Hp E w' F) ∧ last.length ^ j - (i64 ((q : Int) + 1)).toNat < last.length ^ j - (q : Int).toNat := fun {w'} h' =>
          ⟨⟨q + 1, by rw [i64_id (by omega)]; omega, by omega, h'⟩, by rw [i64_id (by omega)]; omega⟩
        refine bwTurn_c h4 Tells.own hbb (by omega) fun s43 w5 h5 => ?_
        refine str_c (h5.tells Tells.own) (str_c (h5.tells (Tells.cons (Tells.cons hs))) (IfB.mk (fun e => IfB.mk (fun e2 => absurd ?_ ho) (fun _ => next h5.drop.drop)) (fun _ => next h5.drop.drop)))
        rw [strOf_eq (lastB_b hbb) hb, beq_iff_eq] at e
        rw [beq_iff_eq] at e2
        have := (back_turn b).1
        rw [e] at this
        rw [← e2]
        exact ⟨by omega, by simpa using this⟩
end
end Go.Proofs.Ytbldlpljfppmgaa
