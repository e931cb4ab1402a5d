/-
  What next and Lengths of packagemerge compute. Conditions: as each theorem states.
-/
import Derived.Test.YtcidpcahgkngjaaPm1
namespace Go.Srt
/-- numbers at the places of ys, 0 elsewhere -/
def plc (ys : List Nat) (f : Nat → Nat) : List Nat := (List.range 258).map fun s => if s ∈ ys then f (ys.idxOf s) else 0
theorem plc_len (ys : List Nat) (f : Nat → Nat) : (plc ys f).length = 258 := by simp [plc]
theorem plc_at {ys : List Nat} {f : Nat → Nat} {s : Nat} (hs : s < 258) : (plc ys f).getD s 0 = if s ∈ ys then f (ys.idxOf s) else 0 := by
  unfold plc
  rw [List.getD_eq_getElem?_getD, List.getElem?_map, List.getElem?_range hs]; rfl
theorem idx_at : ∀ {ys : List Nat} (_ : ys.Nodup) {i : Nat} (hi : i < ys.length), ys.idxOf ys[i] = i
  | y :: ys, h, 0, _ => by simp [List.idxOf_cons]
  | y :: ys, h, i + 1, hi => by
    obtain ⟨h1, h2⟩ := List.nodup_cons.1 h
    have hi' : i < ys.length := by simpa using hi
    have hne : ¬ y = ys[i] := fun e => h1 (e ▸ List.getElem_mem hi')
    have := idx_at h2 hi'
    have e : (y == ys[i]) = false := by simpa using hne
    simp only [List.getElem_cons_succ, List.idxOf_cons, this, e, cond_false]
theorem plc_get {ys : List Nat} {f : Nat → Nat} (hn : ys.Nodup) (hin : ∀ s ∈ ys, s < 258) {i : Nat} (hi : i < ys.length) : (plc ys f).getD ys[i] 0 = f i := by
  rw [plc_at (hin _ (List.getElem_mem hi)), if_pos (List.getElem_mem hi), idx_at hn hi]
theorem plc_congr {ys : List Nat} {f g : Nat → Nat} (h : ∀ i, i < ys.length → f i = g i) : plc ys f = plc ys g := by
  unfold plc
  refine List.map_congr_left fun s _ => ?_
  by_cases hs : s ∈ ys
  · rw [if_pos hs, if_pos hs, h _ (List.idxOf_lt_length_of_mem hs)]
  · rw [if_neg hs, if_neg hs]
theorem plc_set {ys : List Nat} {f : Nat → Nat} {i v : Nat} (hn : ys.Nodup) (hi : i < ys.length) : (plc ys f).set ys[i] v = plc ys (fun j => if j = i then v else f j) := by
  refine List.ext_getElem (by simp [plc]) fun s h1 h2 => ?_
  have hs : s < 258 := by rw [plc_len] at h2; exact h2
  rw [List.getElem_set]
  unfold plc
  simp only [List.getElem_map, List.getElem_range]
  by_cases e : ys[i] = s
  · rw [if_pos e]
    subst e
    rw [if_pos (List.getElem_mem hi), idx_at hn hi, if_pos rfl]
  · rw [if_neg e]
    by_cases hm : s ∈ ys
    · rw [if_pos hm, if_pos hm]
      have hlt := List.idxOf_lt_length_of_mem hm
      have : ys.idxOf s ≠ i := by
        intro e2
        apply e
        have := List.getElem_idxOf hlt
        rw [← this]
        simp only [e2]
      rw [if_neg this]
    · rw [if_neg hm, if_neg hm]
theorem plc_zero (ys : List Nat) : plc ys (fun _ => 0) = List.replicate 258 0 := by
  refine List.eq_replicate_iff.2 ⟨plc_len .., fun x hx => ?_⟩
  obtain ⟨s, _, rfl⟩ := List.mem_map.1 hx
  split <;> rfl
theorem ord_nodup {l ys : List Nat} (h : IsOrd l ys) : ys.Nodup := h.2.imp fun {a b} hab e => by subst e; omega
theorem ord_asc {l ys : List Nat} (h : IsOrd l ys) : Pm.Asc (wsOf l ys) := List.Pairwise.map _ (fun _ _ hab => hab) (h.2.imp fun {a b} hab => by omega)
end Go.Srt
namespace Go.Proofs.Ytcidpcahgkngjaa
open Go Go.Vc Go.Srt Go.Pm
section
variable {E w : World} {F : List HP}
theorem two_more {R : List It} {j : Nat} (h : 2 * j + 1 < R.length) : pairs (R.drop (2 * j)) = ((R[2 * j]'(by omega)).1 + R[2 * j + 1].1, false) :: pairs (R.drop (2 * (j + 1))) := by
  rw [List.drop_eq_getElem_cons (show 2 * j < R.length by omega), List.drop_eq_getElem_cons (show 2 * j + 1 < R.length by omega), pairs]
  rfl
theorem none_more {R : List It} {j : Nat} (h : ¬ 2 * j + 1 < R.length) : pairs (R.drop (2 * j)) = [] := by
  have : (pairs (R.drop (2 * j))).length = 0 := by rw [pairs_len, List.length_drop]; omega
  exact List.length_eq_zero_iff.1 this
set_option maxRecDepth 20000 in
theorem next_c {f1 f2 : Sl} {A R : List It} {K : Sl → World → Prop} (h : Hp E w F) (hA : Tells F (SlT 2 f1 (A.flatMap cIt))) (hR : Tells F (SlT 2 f2 (R.flatMap cIt))) (hcap : f1.len ≤ f1.cap)
    (hb : ∀ x ∈ R, x.1 ≤ 2 ^ 60) (hlA : A.length ≤ 2 ^ 20) (hlR : R.length ≤ 2 ^ 20)
    (hK : ∀ s' w', Hp E w' (OwnS 2 s' ((mrg A (pairs R)).flatMap cIt) :: F) → K s' w') : Cl Try.prog [kS] n_packagemerge_next ⟨[.slice f1.base f1.len f1.cap, .slice f2.base f2.len f2.cap]⟩ w K := by
  refine packagemerge_next.ok _ _ _ _ ?_
  unfold packagemerge_next.E
  have la := SlT.len cIt_len (by decide) (h.tells hA)
  have lr := SlT.len cIt_len (by decide) (h.tells hR)
  have hpl := pairs_len R
  have htl : (mrg A (pairs R)).length = A.length + R.length / 2 := by rw [mrg_len, hpl]
  have hsz : ∀ o X : List It, o ++ X = mrg A (pairs R) → o.length ≤ 2 ^ 21 := fun o X e => by
    have := congrArg List.length e
    rw [List.length_append, htl] at this
    omega
  refine ⟨fun o k i w' => ∃ (a j : Nat) (l : List It), k = (a : Int) ∧ i = ((2 * j : Nat) : Int) ∧ a ≤ A.length ∧ 2 * j ≤ R.length ∧ l ++ mrg (A.drop a) (pairs (R.drop (2 * j))) = mrg A (pairs R) ∧ Hp E w' (OwnS 2 o (l.flatMap cIt) :: F),
    fun _ _ i _ => R.length - i.toNat, ⟨0, 0, [], rfl, rfl, by omega, by omega, by simp, h.ownNil 2⟩, ?_⟩
  rintro o k i w' ⟨a, j, l, rfl, rfl, ha, hj, heq, hh⟩
  have hll := hsz _ _ heq
  rw [i64_id (x := ((2 * j : Nat) : Int) + 1) (by omega)]
  refine IfB.mk (fun hlt => ?_) (fun hge => ?_)
  · have hlt : 2 * j + 1 < R.length := by have := of_decide_eq_true hlt; omega
    rw [two_more hlt] at heq
    have hx1 := hb _ (List.getElem_mem (show 2 * j < R.length by omega))
    have hx2 := hb _ (List.getElem_mem hlt)
    have hd : Hp E { w' with drawn := w'.drawn + 1 } (OwnS 2 o (l.flatMap cIt) :: F) := hh.drew
    refine ⟨HasF E F, HasF.mk1 hd, ?_⟩
    refine Idx.elT (n := 2 * j) cIt_len (by decide) hd.drop hR rfl (by omega) fun p hp => ?_
    refine LdS.sc (s := .int .i64) ((R[2 * j]'(by omega)).1 : Int) (fun w2 h2 => (h2.tells (hp 0 (by decide))).trans (by simp [cIt])) ?_
    refine Idx.elT (n := 2 * j + 1) cIt_len (by decide) hd.drop hR (by omega) hlt fun q hq => ?_
    refine LdS.sc (s := .int .i64) (R[2 * j + 1].1 : Int) (fun w2 h2 => (h2.tells (hq 0 (by decide))).trans (by simp [cIt])) ?_
    rw [i64_id (x := ((R[2 * j]'(by omega)).1 : Int) + (R[2 * j + 1].1 : Int)) (by omega)]
    generalize hp1 : (R[2 * j]'(by omega)).1 + R[2 * j + 1].1 = p1 at heq
    have hp1' : ((R[2 * j]'(by omega)).1 : Int) + (R[2 * j + 1].1 : Int) = (p1 : Int) := by omega
    rw [hp1']
    refine Nw.mk hd fun b w3 h3 => ⟨HasF.mk2 h3, ?_⟩
    refine StC.blk h3 rfl (cIt_sc (p1, false)) fun w4 h4 => ⟨HasF.mk2 h4, ?_⟩
    refine ⟨fun o k w' => ∃ (a : Nat) (l : List It), k = (a : Int) ∧ a ≤ A.length ∧ l ++ mrg (A.drop a) ((p1, false) :: pairs (R.drop (2 * (j + 1)))) = mrg A (pairs R) ∧ Hp E w' (OwnS 2 o (l.flatMap cIt) :: Blk b (.cells ⟨cIt (p1, false)⟩ 65 (0, 0)) :: F),
      fun _ k _ => A.length - k.toNat, ⟨a, l, rfl, ha, heq, h4.p1⟩, ?_⟩
    rintro o k w5 ⟨a, l, rfl, ha, heq, hh⟩
    have hll := hsz _ _ heq
    refine Drw.mk hh fun w6 h6 => ?_
    rw [i64_id (x := ((2 * j : Nat) : Int) + 2) (by omega)]
    have last : A.drop a = [] ∨ (∃ (_ : a < A.length), ¬ A[a].1 ≤ p1) → (l ++ [(p1, false)]) ++ mrg (A.drop a) (pairs (R.drop (2 * (j + 1)))) = mrg A (pairs R) := by
      rintro (e | ⟨hal, hgt⟩)
      · rw [e, nil_mrg] at heq
        rw [e, nil_mrg, ← heq]; simp
      · rw [List.drop_eq_getElem_cons hal, mrg_gt hgt] at heq
        rw [List.drop_eq_getElem_cons hal, ← heq]; simp
    refine IfB.mk (fun hka => ?_) (fun hka => ?_)
    · have hka : a < A.length := by have := of_decide_eq_true hka; omega
      refine Idx.el (n := a) cIt_len (by decide) (h6.drop.drop.tells hA) rfl hka fun p hp => ?_
      refine Ld.sc (s := .int .i64) (A[a].1 : Int) (by rw [hp 0 (by decide)]; simp [cIt]) ?_
      rw [add_mk]
      refine Ld.blk h6.p1 (p1 : Int) (by simp [cIt]) ?_
      refine IfB.mk (fun hle => ?_) (fun hgt => ?_)
      · have hle : A[a].1 ≤ p1 := by have := of_decide_eq_true hle; omega
        rw [List.drop_eq_getElem_cons hka, mrg_le hle] at heq
        refine Idx.el (n := a) cIt_len (by decide) (h6.drop.drop.tells hA) rfl hka fun p hp => ?_
        refine Ld.st (ks := [.int .i64, .bool]) ((A[a].1 : Int), A[a].2, ()) (fun j hj => hp j hj) ?_
        refine app1 (g := cIt) (x := A[a]) ty_things cIt_len (by decide) rfl (cIt_sc _) h6 (by omega) (by omega) fun s' w7 h7 _ => ?_
        rw [i64_id (by omega)]
        refine ⟨⟨a + 1, l ++ [A[a]], rfl, by omega, ?_, h7⟩, by dsimp only; omega⟩
        rw [← heq]; simp
      · have hgt : ¬ A[a].1 ≤ p1 := by have := of_decide_eq_false hgt; omega
        refine Ld.stBlk (ks := [.int .i64, .bool]) h6.p1 ((p1 : Int), false, ()) rfl ?_
        refine app1 (g := cIt) (x := (p1, false)) ty_things cIt_len (by decide) rfl (cIt_sc _) h6 (by omega) (by omega) fun s' w7 h7 _ => ?_
        exact ⟨⟨a, j + 1, l ++ [(p1, false)], rfl, by omega, ha, by omega, last (.inr ⟨hka, hgt⟩), h7.p1.drop⟩, by dsimp only; omega⟩
    · have hka : A.drop a = [] := by
        have := of_decide_eq_false hka
        exact List.drop_eq_nil_of_le (by omega)
      refine Ld.stBlk (ks := [.int .i64, .bool]) h6.p1 ((p1 : Int), false, ()) rfl ?_
      refine app1 (g := cIt) (x := (p1, false)) ty_things cIt_len (by decide) rfl (cIt_sc _) h6 (by omega) (by omega) fun s' w7 h7 _ => ?_
      exact ⟨⟨a, j + 1, l ++ [(p1, false)], rfl, by omega, ha, by omega, last (.inl hka), h7.p1.drop⟩, by dsimp only; omega⟩
  · have hge : ¬ 2 * j + 1 < R.length := by have := of_decide_eq_false hge; omega
    rw [none_more hge, mrg_nil] at heq
    refine Slc.el (a := a) (b := A.length) (l := A) cIt_len la rfl (by rw [la]) ha (Nat.le_refl _) (by omega) (Int.le_refl _) fun s' hs' hl' _ => ?_
    have hd := hs' w' (hh.drop.tells hA)
    rw [List.take_of_length_le (by rw [List.length_drop]; omega)] at hd
    have hdl : (A.drop a).length ≤ 2 ^ 20 := by rw [List.length_drop]; omega
    refine appN (g := cIt) ty_things cIt_len (by decide) cIt_sc hh hd (by omega) (by omega) fun s2 w2 h2 _ => hK s2 w2 ?_
    rw [← heq]; exact h2
end
end Go.Proofs.Ytcidpcahgkngjaa
