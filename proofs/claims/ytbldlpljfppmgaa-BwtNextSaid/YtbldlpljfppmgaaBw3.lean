/-
  Package bwt: contracts of Order and Turn. Conditions: as each theorem states.
-/
import Derived.Test.YtbldlpljfppmgaaBw2
namespace Go.Proofs.Ytbldlpljfppmgaa
open Go Go.Vc Go.Bw Go.Hs
section
variable {E w : World} {F : List HP}
def rowF (t : List Nat) (f : Nat → Int × Int) : List (Int × Int) := (List.range (t.length + 1)).map f
theorem rowF_len (t : List Nat) (f : Nat → Int × Int) : (rowF t f).length = t.length + 1 := by simp [rowF]
theorem rowF_get {t : List Nat} {f : Nat → Int × Int} {i : Nat} (hi : i < (rowF t f).length) : (rowF t f)[i] = f i := by simp [rowF]
theorem rowF_ext {t : List Nat} {f g : Nat → Int × Int} (h : ∀ i, i ≤ t.length → f i = g i) : rowF t f = rowF t g := by
  unfold rowF
  refine List.map_congr_left fun i hi => ?_
  rw [List.mem_range] at hi
  exact h i (by omega)
set_option maxRecDepth 200000 in
theorem ranks_c {t : List Nat} {s : Sl} {K : Sl → World → Prop} (h : Hp E w F) (hs : Tells F (SlT 1 s (t.map vB))) (hb : ∀ x ∈ t, x < 256) (hn : t.length ≤ 400000)
    (hK : ∀ s' w', Hp E w' (OwnS 1 s' (((List.range (t.length + 1)).map fun i => (rkB t i : Int)).map vI) :: F) → K s' w') : Cl Try.prog [kS] n_bwt_ranks ⟨[.slice s.base s.len s.cap]⟩ w K := by
  refine bwt_ranks.ok _ _ _ ?_
  unfold bwt_ranks.E
  have hl := (h.tells hs).1
  simp only [List.length_map, Nat.mul_one] at hl
  rw [show i64 ((s.len : Int) + 1) = ((t.length + 1 : Nat) : Int) by rw [i64_id (by omega)]; omega]
  refine run_mkK (g := enc2) (x := ((0, 0) : Int × Int)) (by kernel_rfl) infoPair rfl enc2_len (by decide) (by omega) (by decide) h fun s3 w1 hs3 h1 => ?_
  have e0 : List.replicate (t.length + 1) ((0, 0) : Int × Int) = rowF t fun _ => (0, 0) := by
    apply List.ext_getElem (by rw [rowF_len, List.length_replicate])
    intro i h1 h2
    rw [rowF_get, List.getElem_replicate]
  rw [e0] at h1
  refine ⟨fun i w' => ∃ k : Nat, i = (k : Int) ∧ k ≤ t.length ∧ Hp E w' (OwnS 2 s3 ((rowF t fun j => if j < k then Bw.initF t j else (0, 0)).flatMap enc2) :: F), fun i _ => t.length - i.toNat, ⟨0, rfl, by omega, by simpa using h1⟩, ?_⟩
  rintro i w2 ⟨k, rfl, hk, h2⟩
  refine IfB.mk (fun hlt => ?_) (fun hge => ?_)
  · have hlt : k < t.length := by have := of_decide_eq_true hlt; omega
    have hx : t.getD k 0 < 256 := by
      rw [List.getD, List.getElem?_eq_getElem hlt]
      exact hb _ (List.getElem_mem hlt)
    refine Idx.nB (h2.tells (Tells.cons hs)) rfl hlt ?_
    rw [i64_id (x := (t.getD k 0 : Int)) (by omega), i64_id (x := 1 + (t.getD k 0 : Int)) (by omega), i64_id (x := (k : Int) + 1) (by omega)]
    refine Idx.setCell (j := k) (k := 0) (x := Bw.initF t k) enc2_len (by decide) h2 rfl (by rw [rowF_len]; omega) rfl ?_ fun w3 h3 => ⟨⟨k + 1, by omega, by omega, ?_⟩, by dsimp only; omega⟩
    · rw [rowF_get]
      unfold Bw.initF
      rw [if_neg (Nat.lt_irrefl k), if_pos hlt]; rfl
    · have : (rowF t fun j => if j < k then Bw.initF t j else (0, 0)).set k (Bw.initF t k) = rowF t fun j => if j < k + 1 then Bw.initF t j else (0, 0) := by
        unfold rowF
        rw [set_map]
        refine List.map_congr_left fun j _ => ?_
        by_cases e : j = k
        · subst e; rw [if_pos rfl, if_pos (by omega)]
        · rw [if_neg e]
          by_cases e2 : j < k
          · rw [if_pos e2, if_pos (by omega)]
          · rw [if_neg e2, if_neg (by omega)]
      rw [← this]; exact h3
  have hge : k = t.length := by have := of_decide_eq_false hge; omega
  subst hge
  have e1 : (rowF t fun j => if j < t.length then Bw.initF t j else (0, 0)) = pairs t (Bw.initF t) := rowF_ext fun i hi => by
    by_cases e : i < t.length
    · rw [if_pos e]
    · rw [if_neg e]; unfold Bw.initF; rw [if_neg e]
  rw [e1] at h2
  have rk1 : ∀ {w : World} {f : Nat → Int × Int} {K : Sl → Int → World → Prop}, Hp E w (OwnS 2 s3 ((pairs t f).flatMap enc2) :: F) → (∀ s' w', Hp E w' (OwnS 1 s' (((List.range (t.length + 1)).map fun i => (rkP (pairs t f) (f i) : Int)).map vI) :: OwnS 2 s3 ((pairs t f).flatMap enc2) :: F) → K s' ((dd (pairs t f)).length : Int) w') →
      Cl Try.prog [kS, kI] n_bwt_ranked ⟨[.slice s3.base s3.len s3.cap]⟩ w K := fun {w f K} h hK =>
    ranked_c (l := pairs t f) h Tells.own (by rw [Bw.pairs_len]; omega) fun s' w' h' => hK s' w' (by
      have e : (pairs t f).map (fun p => (rkP (pairs t f) p : Int)) = (List.range (t.length + 1)).map fun i => (rkP (pairs t f) (f i) : Int) := by
        conv => lhs; rw [show (pairs t f).map (fun p => (rkP (pairs t f) p : Int)) = ((List.range (t.length + 1)).map f).map (fun p => (rkP (pairs t f) p : Int)) from rfl]
        rw [List.map_map]; rfl
      rw [← e]; exact h')
  refine rk1 h2 fun s13 w3 h3 => ?_
  have hl3 := SlT.len enc2_len (by decide) (h3.tells (Tells.cons Tells.own))
  rw [Bw.pairs_len] at hl3
  refine ⟨fun r a wd w' => ∃ (hh : Nat) (f : Nat → Int × Int), wd = (hh : Int) ∧ 1 ≤ hh ∧ hh ≤ 2 * t.length + 1 ∧ PairOk t hh f ∧ a = ((dd (pairs t f)).length : Int) ∧ Hp E w' (OwnS 1 r (((List.range (t.length + 1)).map fun i => (rkP (pairs t f) (f i) : Int)).map vI) :: OwnS 2 s3 ((pairs t f).flatMap enc2) :: F),
    fun _ _ wd _ => 2 * t.length + 2 - wd.toNat, ⟨1, Bw.initF t, rfl, by omega, by omega, init_ok t, rfl, h3⟩, ?_⟩
  rintro r a wd w4 ⟨hh, f, rfl, h1', hle, hf, rfl, h4⟩
  refine IfB.mk (fun hlt => ?_) (fun hge => ?_)
  · have hlt : (dd (pairs t f)).length < t.length + 1 := by have := of_decide_eq_true hlt; omega
    have hht := not_done hf hlt
    have hrl : ((List.range (t.length + 1)).map fun i => (rkP (pairs t f) (f i) : Int)).length = t.length + 1 := by simp
    have hrg : ∀ i, i ≤ t.length → ((List.range (t.length + 1)).map fun i => (rkP (pairs t f) (f i) : Int)).getD i 0 = (rkP (pairs t f) (f i) : Int) := fun i hi => by
      rw [List.getD, List.getElem?_map, List.getElem?_range (by omega)]; rfl
    obtain ⟨rr, hrr⟩ : ∃ rr : Nat → Int, rr = fun i => (rkP (pairs t f) (f i) : Int) := ⟨_, rfl⟩
    have hQ := rank_ok hf
    rw [← hrr] at h4 hrl hrg hQ
    have hrg : ∀ i, i ≤ t.length → ((List.range (t.length + 1)).map rr).getD i 0 = rr i := fun i hi => by rw [hrg i hi, hrr]
    refine ⟨fun i w' => ∃ k : Nat, i = (k : Int) ∧ k ≤ t.length + 1 ∧ Hp E w' (OwnS 2 s3 ((rowF t fun j => if j < k then stepF t hh rr j else f j).flatMap enc2) :: OwnS 1 r (((List.range (t.length + 1)).map rr).map vI) :: F), fun i _ => t.length + 1 - i.toNat, ⟨0, rfl, by omega, ?_⟩, ?_⟩
    · have : (rowF t fun j => if j < 0 then stepF t hh rr j else f j) = pairs t f := rowF_ext fun i _ => by rw [if_neg (by omega)]
      rw [this]; exact h4.p1
    rintro i w5 ⟨k, rfl, hk, h5⟩
    refine IfB.mk (fun hklt => ?_) (fun hkge => ?_)
    · have hklt : k < t.length + 1 := by have := of_decide_eq_true hklt; omega
      refine Idx.nI (h5.tells (Tells.cons Tells.own)) rfl (by rw [hrl]; exact hklt) ?_
      rw [hrg k (by omega)]
      refine Idx.setEl (g := enc2) (j := k) (x := ((rr k, -1) : Int × Int)) enc2_len (by decide) h5 rfl (by rw [rowF_len]; exact hklt) pair_scalar fun w6 h6 => ?_
      have fin : ∀ {w' : World}, Hp E w' (OwnS 2 s3 (((rowF t fun j => if j < k then stepF t hh rr j else f j).set k (stepF t hh rr k)).flatMap enc2) :: OwnS 1 r (((List.range (t.length + 1)).map rr).map vI) :: F) →
          (∃ k' : Nat, i64 ((k : Int) + 1) = (k' : Int) ∧ k' ≤ t.length + 1 ∧ Hp E w' (OwnS 2 s3 ((rowF t fun j => if j < k' then stepF t hh rr j else f j).flatMap enc2) :: OwnS 1 r (((List.range (t.length + 1)).map rr).map vI) :: F)) ∧ t.length + 1 - (i64 ((k : Int) + 1)).toNat < t.length + 1 - (k : Int).toNat := fun {w'} h' => by
        rw [i64_id (by omega)]
        refine ⟨⟨k + 1, by omega, by omega, ?_⟩, by omega⟩
        have : (rowF t fun j => if j < k then stepF t hh rr j else f j).set k (stepF t hh rr k) = rowF t fun j => if j < k + 1 then stepF t hh rr j else f j := by
          unfold rowF
          rw [set_map]
          refine List.map_congr_left fun j _ => ?_
          by_cases e : j = k
          · subst e; rw [if_pos rfl, if_pos (by omega)]
          · rw [if_neg e]
            by_cases e2 : j < k
            · rw [if_pos e2, if_pos (by omega)]
            · rw [if_neg e2, if_neg (by omega)]
        rw [← this]; exact h'
      rw [i64_id (x := (k : Int) + (hh : Int)) (by omega)]
      refine IfB.mk (fun hin => ?_) (fun hin => ?_)
      · have hin : k + hh ≤ t.length := by have := of_decide_eq_true hin; omega
        refine Idx.nI (j := k + hh) (h6.tells (Tells.cons Tells.own)) (by omega) (by rw [hrl]; omega) ?_
        rw [hrg (k + hh) hin]
        refine Idx.setCell (j := k) (k := 1) (x := stepF t hh rr k) enc2_len (by decide) h6 rfl (by rw [List.length_set, rowF_len]; exact hklt) rfl ?_ fun w7 h7 => fin ?_
        · rw [List.getElem_set_self]
          unfold stepF
          rw [if_pos hin]; rfl
        · rw [List.set_set] at h7
          exact h7
      · have hin : ¬ k + hh ≤ t.length := by have := of_decide_eq_false hin; omega
        have e : ((rr k, -1) : Int × Int) = stepF t hh rr k := by unfold stepF; rw [if_neg hin]
        rw [e] at h6
        exact fin h6
    · have hke : k = t.length + 1 := by have := of_decide_eq_false hkge; omega
      subst hke
      have e2 : (rowF t fun j => if j < t.length + 1 then stepF t hh rr j else f j) = pairs t (stepF t hh rr) := rowF_ext fun i hi => by rw [if_pos (by omega)]
      rw [e2] at h5
      have h5 := h5.p1.drop
      refine rk1 h5 fun s34 w6 h6 => ⟨by decide, ?_⟩
      have e3 : ishl .i64 (hh : Int) 1 = ((hh + hh : Nat) : Int) := by
        have hmx : IntKind.max .i64 = 9223372036854775807 := rfl
        have := ishl_nat (k := .i64) (a := hh) (b := 1) (by decide) (by omega)
        rw [show ((1 : Nat) : Int) = 1 from rfl] at this
        rw [this]; omega
      rw [e3]
      exact ⟨⟨hh + hh, stepF t hh rr, rfl, by omega, by omega, step_ok hQ, rfl, h6⟩, by dsimp only; omega⟩
  · have hge : t.length + 1 ≤ (dd (pairs t f)).length := by have := of_decide_eq_false hge; omega
    have e4 : (List.range (t.length + 1)).map (fun i => (rkP (pairs t f) (f i) : Int)) = (List.range (t.length + 1)).map fun i => (rkB t i : Int) := List.map_congr_left fun i hi => by
      rw [List.mem_range] at hi
      rw [done hf hge (by omega)]
    rw [e4] at h4
    exact hK r w4 h4.p1.drop
set_option maxRecDepth 200000 in
theorem bwOrder_c {t : List Nat} {s : Sl} {K : Sl → World → Prop} (h : Hp E w F) (hs : Tells F (SlT 1 s (t.map vB))) (hb : ∀ x ∈ t, x < 256) (hn : t.length ≤ 400000)
    (hK : ∀ s' w', Hp E w' (OwnS 1 s' ((zl (ordB t)).map vI) :: F) → K s' w') : Cl Try.prog [kS] n_bwt_Order ⟨[.slice s.base s.len s.cap]⟩ w K := by
  refine bwt_Order.ok _ _ _ ?_
  unfold bwt_Order.E
  refine ranks_c h hs hb hn fun s3 w1 h1 => ?_
  have hl3 := h1.ownLen
  rw [List.length_map, List.length_map, List.length_range, Nat.mul_one] at hl3
  refine run_mk1 (by kernel_rfl) infoI64 rfl (by omega) (by decide) h1 fun s5 w2 hs5 h2 => ?_
  rw [rep_vI] at h2
  have hrg : ∀ i, i ≤ t.length → ((List.range (t.length + 1)).map fun i => (rkB t i : Int)).getD i 0 = (rkB t i : Int) := fun i hi => by
    rw [List.getD, List.getElem?_map, List.getElem?_range (by omega)]; rfl
  refine ⟨fun i w' => ∃ (k : Nat) (out : List Int), i = (k : Int) ∧ k ≤ t.length + 1 ∧ out.length = t.length + 1 ∧ (∀ j, j < k → out.getD (rkB t j) 0 = (j : Int)) ∧ Hp E w' (OwnS 1 s5 (out.map vI) :: OwnS 1 s3 (((List.range (t.length + 1)).map fun i => (rkB t i : Int)).map vI) :: F),
    fun i _ => t.length + 1 - i.toNat, ⟨0, _, rfl, by omega, by rw [List.length_replicate]; omega, fun j hj => by omega, h2⟩, ?_⟩
  rintro i w3 ⟨k, out, rfl, hk, hol, ho, h3⟩
  refine IfB.mk (fun hlt => ?_) (fun hge => ?_)
  · have hlt : k < t.length + 1 := by have := of_decide_eq_true hlt; omega
    have hrk := rkB_lt (t := t) (i := k) (by omega)
    refine Idx.nI (h3.tells (Tells.cons Tells.own)) rfl (by simp; omega) ?_
    rw [hrg k (by omega)]
    refine Idx.setI h3 rfl (by omega) fun w4 h4 => ⟨⟨k + 1, _, by rw [i64_id (by omega)]; omega, by omega, by rw [List.length_set]; exact hol, fun j hj => ?_, h4⟩, by dsimp only; rw [i64_id (by omega)]; omega⟩
    rw [getD_set (by omega)]
    by_cases e : j = k
    · subst e; rw [if_pos rfl]
    · rw [if_neg (fun e2 => e (rkB_inj (by omega) (by omega) e2))]
      exact ho j (by omega)
  · have hge : k = t.length + 1 := by have := of_decide_eq_false hge; omega
    subst hge
    have : out = zl (ordB t) := by
      apply List.ext_getElem (by rw [hol, zl_len, ordB_len])
      intro r h1 h2
      have hr : r < (ordB t).length := by rw [ordB_len]; omega
      have hm : (ordB t)[r] ≤ t.length := ordB_mem.1 (List.getElem_mem hr)
      have := ho (ordB t)[r] (by omega)
      rw [rk_ordB hr] at this
      have e : out.getD r 0 = out[r] := by simp [List.getD, h1]
      rw [← e, this]
      simp [zl]
    rw [this] at h3
    exact hK s5 w3 h3.p1.drop
/-- the column's part and the index from the first k rows -/
theorem filter_take_succ {l : List Nat} {k : Nat} (hk : k < l.length) : ((l.take (k + 1)).filter fun i => i != 0) = ((l.take k).filter fun i => i != 0) ++ if l[k] = 0 then [] else [l[k]] := by
  rw [List.take_add_one, List.getElem?_eq_getElem hk, List.filter_append]
  congr 1
  by_cases e : l[k] = 0
  · rw [if_pos e]; simp [e]
  · rw [if_neg e]; simp [e]
set_option maxRecDepth 200000 in
theorem bwTurn_c {t : List Nat} {s : Sl} {K : Sl → Int → World → Prop} (h : Hp E w F) (hs : Tells F (SlT 1 s (t.map vB))) (hb : ∀ x ∈ t, x < 256) (hn : t.length ≤ 400000)
    (hK : ∀ s' w', Hp E w' (OwnS 1 s' ((lastB t).map vB) :: F) → K s' (idxB t : Int) w') : Cl Try.prog [kS, kI] n_bwt_Turn ⟨[.slice s.base s.len s.cap]⟩ w K := by
  refine bwt_Turn.ok _ _ _ ?_
  unfold bwt_Turn.E
  have hl := (h.tells hs).1
  simp only [List.length_map, Nat.mul_one] at hl
  refine bwOrder_c h hs hb hn fun s3 w1 h1 => ?_
  have hl3 := h1.ownLen
  rw [List.length_map, zl_len, ordB_len, Nat.mul_one] at hl3
  refine ⟨fun o ix i w' => ∃ k : Nat, i = (k : Int) ∧ k ≤ t.length + 1 ∧ ix = (if idxB t < k then (idxB t : Int) else 0) ∧ Hp E w' (OwnS 1 o (((((ordB t).take k).filter fun i => i != 0).map fun i => t.getD (i - 1) 0).map vB) :: OwnS 1 s3 ((zl (ordB t)).map vI) :: F),
    fun _ _ i _ => t.length + 1 - i.toNat, ⟨0, rfl, by omega, rfl, h1.ownNil 1⟩, ?_⟩
  rintro o ix i w2 ⟨k, rfl, hk, rfl, h2⟩
  refine IfB.mk (fun hlt => ?_) (fun hge => ?_)
  · have hlt : k < t.length + 1 := by have := of_decide_eq_true hlt; omega
    have hko : k < (ordB t).length := by rw [ordB_len]; exact hlt
    have hix := ordB_idx t hko
    have hle : (ordB t)[k] ≤ t.length := ordB_mem.1 (List.getElem_mem hko)
    refine Idx.nI (h2.tells (Tells.cons Tells.own)) rfl (by rw [zl_len]; exact hko) ?_
    have e0 : (zl (ordB t)).getD k 0 = ((ordB t)[k] : Int) := by simp [zl, List.getD, hko]
    rw [e0]
    have hf := filter_take_succ hko
    refine IfB.mk (fun hz => ?_) (fun hz => ?_)
    · have hz : (ordB t)[k] = 0 := by have := beq_iff_eq.1 hz; omega
      rw [if_pos hz, List.append_nil] at hf
      have hke := hix.1 hz
      refine ⟨⟨k + 1, by rw [i64_id (by omega)]; omega, by omega, by rw [if_pos (by omega)]; omega, by rw [hf]; exact h2⟩, by dsimp only; rw [i64_id (by omega)]; omega⟩
    · have hz : (ordB t)[k] ≠ 0 := by have := beq_eq_false_iff_ne.1 hz; omega
      rw [if_neg hz] at hf
      have hke : k ≠ idxB t := fun e => hz (hix.2 e)
      have e1 : i64 (((ordB t)[k] : Int) - 1) = (((ordB t)[k] - 1 : Nat) : Int) := by rw [i64_id (by omega)]; omega
      rw [e1]
      refine Idx.nB (h2.tells (Tells.cons (Tells.cons hs))) rfl (by omega) ?_
      refine app_b ty_bs rfl h2 (by rw [List.length_map, big_eq]; exact Nat.le_trans (List.length_filter_le ..) (by rw [List.length_take]; omega)) fun s' w3 h3 _ => ⟨⟨k + 1, by rw [i64_id (by omega)]; omega, by omega, ?_, ?_⟩, by dsimp only; rw [i64_id (x := (k : Int) + 1) (by omega)]; omega⟩
      · by_cases e : idxB t < k
        · rw [if_pos e, if_pos (by omega)]
        · rw [if_neg e, if_neg (by omega)]
      · rw [hf, List.map_append]
        exact h3
  · have hge : k = t.length + 1 := by have := of_decide_eq_false hge; omega
    subst hge
    have hil := idxB_le t
    rw [if_pos (by omega)]
    rw [List.take_of_length_le (by rw [ordB_len]; exact Nat.le_refl _)] at h2
    exact hK o w2 h2.p1.drop
end
end Go.Proofs.Ytbldlpljfppmgaa
