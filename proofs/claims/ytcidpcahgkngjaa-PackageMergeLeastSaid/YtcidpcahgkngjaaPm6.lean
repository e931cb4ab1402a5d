/-
  What put, rows, count and Lengths of the reference winepressref07 compute. Conditions: as each theorem states.
-/
import Derived.Test.YtcidpcahgkngjaaPm5
namespace Go.Proofs.Ytcidpcahgkngjaa
open Go Go.Vc Go.Srt Go.Pm
section
variable {E w : World} {F : List HP}
def cR (x : RIt) : List Value := [.int .i64 (x.w : Int), .int .i64 x.sym, .int .i64 (x.one : Int), .int .i64 (x.two : Int)]
theorem cR_len : ∀ x, (cR x).length = 4 := fun _ => rfl
theorem cR_sc : ∀ x, ∀ y ∈ cR x, scalarB y = true := by
  intro x y hy
  simp only [cR, List.mem_cons, List.not_mem_nil, or_false] at hy
  rcases hy with rfl | rfl | rfl | rfl <;> rfl
theorem ty_rt : ElemT Try.prog 76 78 4 32 := ElemT.of (by kernel_rfl) (by kernel_rfl)
theorem ty_rts : ElemT Try.prog 66 76 1 24 := ElemT.of (by kernel_rfl) (by kernel_rfl)
abbrev RK : List Sc := [.int .i64, .int .i64, .int .i64, .int .i64]
def tR (x : RIt) : TT RK := ((x.w : Int), x.sym, (x.one : Int), (x.two : Int), ())
set_option maxRecDepth 20000 in
theorem put_c {s : Sl} {l : List RIt} {x : RIt} {K : Sl → World → Prop} (h : Hp E w F) (hs : Tells F (SlT 4 s (l.flatMap cR))) (hcap : s.len ≤ s.cap) (hlen : l.length ≤ 2 ^ 20)
    (hK : ∀ k s' w', k ≤ l.length → (∀ j (hj : j < l.length), k ≤ j → x.w < l[j].w) → (k = 0 ∨ ∃ h : k - 1 < l.length, l[k - 1].w ≤ x.w) → Hp E w' (OwnS 4 s' ((l.take k ++ x :: l.drop k).flatMap cR) :: F) → K s' w') :
    Cl Try.prog [kS] n_ref07_put ⟨[.slice s.base s.len s.cap, .agg ⟨encs RK (tR x)⟩]⟩ w K := by
  refine ref07_put.ok s (tR x) _ _ ?_
  unfold ref07_put.E
  have hl := SlT.len cR_len (by decide) (h.tells hs)
  refine Nw.mk h fun b w1 h1 => ?_
  refine ⟨fun i w' => ∃ n : Nat, i = (n : Int) ∧ n ≤ l.length ∧ (∀ j (hj : j < l.length), n ≤ j → x.w < l[j].w) ∧ Hp E w' (Blk b (.cells ⟨cR x⟩ 78 (0, 0)) :: F), fun i _ => i.toNat, ⟨l.length, by rw [hl], Nat.le_refl _, fun j hj hn => by omega, h1⟩, ?_⟩
  rintro i w2 ⟨n, rfl, hn, hgt, hh⟩
  refine Drw.mk hh fun w3 h3 => ?_
  refine IfB.mk (fun hpos => ?_) (fun hpos => ?_)
  · have hpos : 0 < n := by have := of_decide_eq_true hpos; omega
    have hn1 : n - 1 < l.length := by omega
    rw [show i64 ((n : Int) - 1) = ((n - 1 : Nat) : Int) by rw [i64_id (by omega)]; omega]
    refine Idx.el (n := n - 1) cR_len (by decide) (h3.drop.tells hs) rfl hn1 fun p hp => ?_
    refine Ld.sc (s := .int .i64) (l[n - 1].w : Int) (by rw [hp 0 (by decide)]; simp [cR]) ?_
    rw [add_mk]
    refine Ld.blk h3 (x.w : Int) (by simp [cR]) ?_
    refine IfB.mk (fun hc => ?_) (fun hc => ?_)
    · have hc : x.w < l[n - 1].w := by have := of_decide_eq_true hc; omega
      refine ⟨⟨n - 1, rfl, by omega, fun j hj hnj => ?_, h3⟩, by dsimp only; omega⟩
      by_cases e : j = n - 1
      · subst e; exact hc
      · exact hgt j hj (by omega)
    · have hc : l[n - 1].w ≤ x.w := by have := of_decide_eq_false hc; omega
      refine Slc.el (a := 0) (b := n) (l := l) cR_len hl rfl rfl (by omega) hn (by omega) (Int.le_refl _) fun s1 hs1 hl1 _ => ?_
      have q1 := hs1 w3 (h3.drop.tells hs)
      simp only [List.drop_zero, Nat.sub_zero] at q1
      refine appN (s := ⟨none, 0, 0⟩) (l := []) ty_rt cR_len (by decide) cR_sc (h3.ownNil 4) q1 (by simp; omega) (by simp; omega) fun s2 w4 h4 _ => ?_
      rw [List.nil_append] at h4
      refine Ld.stBlk (ks := RK) h4.p1 (tR x) rfl ?_
      refine app1 (g := cR) (x := x) ty_rt cR_len (by decide) rfl (cR_sc x) h4 (by simp; omega) (by simp; omega) fun s3 w5 h5 _ => ?_
      refine Slc.el (a := n) (b := l.length) (l := l) cR_len hl rfl (by rw [hl]) hn (Nat.le_refl _) (by omega) (Int.le_refl _) fun s4 hs4 hl4 _ => ?_
      have q4 := hs4 w5 (h5.drop.drop.tells hs)
      rw [List.take_of_length_le (by rw [List.length_drop]; omega)] at q4
      refine appN ty_rt cR_len (by decide) cR_sc h5 q4 (by simp; omega) (by simp; omega) fun s5 w6 h6 _ => hK n s5 w6 hn hgt (.inr ⟨hn1, hc⟩) ?_
      rw [List.append_assoc] at h6
      exact h6.p1.drop
  · have hpos : n = 0 := by have := of_decide_eq_false hpos; omega
    refine Slc.el (a := 0) (b := n) (l := l) cR_len hl rfl rfl (by omega) hn (by omega) (Int.le_refl _) fun s1 hs1 hl1 _ => ?_
    have q1 := hs1 w3 (h3.drop.tells hs)
    simp only [List.drop_zero, Nat.sub_zero] at q1
    refine appN (s := ⟨none, 0, 0⟩) (l := []) ty_rt cR_len (by decide) cR_sc (h3.ownNil 4) q1 (by simp; omega) (by simp; omega) fun s2 w4 h4 _ => ?_
    rw [List.nil_append] at h4
    refine Ld.stBlk (ks := RK) h4.p1 (tR x) rfl ?_
    refine app1 (g := cR) (x := x) ty_rt cR_len (by decide) rfl (cR_sc x) h4 (by simp; omega) (by simp; omega) fun s3 w5 h5 _ => ?_
    refine Slc.el (a := n) (b := l.length) (l := l) cR_len hl rfl (by rw [hl]) hn (Nat.le_refl _) (by omega) (Int.le_refl _) fun s4 hs4 hl4 _ => ?_
    have q4 := hs4 w5 (h5.drop.drop.tells hs)
    rw [List.take_of_length_le (by rw [List.length_drop]; omega)] at q4
    refine appN ty_rt cR_len (by decide) cR_sc h5 q4 (by simp; omega) (by simp; omega) fun s5 w6 h6 _ => hK n s5 w6 hn hgt (.inl hpos) ?_
    rw [List.append_assoc] at h6
    exact h6.p1.drop
def RowsOkR (ys ws : List Nat) (rs : List Sl) (G : List HP) : Prop := ∀ j (hj : j < rs.length), Tells G (SlT 4 rs[j] ((lab ys (row ws j) 0 0).flatMap cR)) ∧ rs[j].len ≤ rs[j].cap
theorem RowsOkR.more {ys ws : List Nat} {rs : List Sl} {G : List HP} {s : Sl} (h : RowsOkR ys ws rs G) (hc : s.len ≤ s.cap) : RowsOkR ys ws (rs ++ [s]) (OwnS 4 s ((lab ys (row ws rs.length) 0 0).flatMap cR) :: G) := by
  intro j hj
  rcases Nat.lt_or_ge j rs.length with hlt | hge
  · rw [List.getElem_append_left hlt]
    exact ⟨(h j hlt).1.cons, (h j hlt).2⟩
  · have : j = rs.length := by simp at hj; omega
    subst this
    simp only [List.getElem_append_right (Nat.le_refl _), Nat.sub_self, List.getElem_cons_zero]
    exact ⟨Tells.own, hc⟩
theorem RowsOkR.imp {ys ws : List Nat} {rs : List Sl} {G G' : List HP} (h : RowsOkR ys ws rs G) (hG : ∀ φ, Tells G φ → Tells G' φ) : RowsOkR ys ws rs G' := fun j hj => ⟨hG _ (h j hj).1, (h j hj).2⟩
/-- a package is put into a row -/
theorem lab_put {ys ws : List Nat} {P : List It} {p : It} {k : Nat} (hw : Asc ws) (hu : Up P) (hP : ∀ q ∈ P, q.1 ≤ p.1) (hf : ∀ q ∈ P, q.2 = false) (hp : p.2 = false) (hk : k ≤ (lab ys (mrg (lv0 ws) P) 0 0).length)
    (h1 : ∀ j (hj : j < (lab ys (mrg (lv0 ws) P) 0 0).length), k ≤ j → p.1 < (lab ys (mrg (lv0 ws) P) 0 0)[j].w) (h2 : k = 0 ∨ ∃ h : k - 1 < (lab ys (mrg (lv0 ws) P) 0 0).length, (lab ys (mrg (lv0 ws) P) 0 0)[k - 1].w ≤ p.1) :
    (lab ys (mrg (lv0 ws) P) 0 0).take k ++ ⟨p.1, -1, 2 * P.length, 2 * P.length + 1⟩ :: (lab ys (mrg (lv0 ws) P) 0 0).drop k = lab ys (mrg (lv0 ws) (P ++ [p])) 0 0 := by
  rw [lab_len] at hk
  have h1' : ∀ j (hj : j < (mrg (lv0 ws) P).length), k ≤ j → p.1 < (mrg (lv0 ws) P)[j].1 := fun j hj hkj => by
    have := h1 j (by rw [lab_len]; exact hj) hkj
    rwa [lab_w ys _ hj] at this
  have h2' : k = 0 ∨ ∃ h : k - 1 < (mrg (lv0 ws) P).length, (mrg (lv0 ws) P)[k - 1].1 ≤ p.1 := by
    rcases h2 with h2 | ⟨h3, h2⟩
    · exact .inl h2
    · rw [lab_len] at h3
      refine .inr ⟨h3, ?_⟩
      rwa [lab_w ys _ h3] at h2
  have hins := insW_at (p := p) (mrg_up _ _ (lv0_up hw) hu) hk h1' h2'
  rw [insW_mrg p _ _ hP] at hins
  have hleaf : ∀ x ∈ (mrg (lv0 ws) P).drop k, x.2 = true := by
    intro x hx
    obtain ⟨i, hi, rfl⟩ := List.getElem_of_mem hx
    rw [List.length_drop] at hi
    rw [List.getElem_drop]
    have hgt := h1' (k + i) (by omega) (by omega)
    rcases List.mem_append.1 ((mrg_perm _ _).mem_iff.1 (List.getElem_mem (show k + i < (mrg (lv0 ws) P).length by omega))) with hm | hm
    · obtain ⟨y, _, e⟩ := List.mem_map.1 hm
      rw [← e]
    · have := hP _ hm
      omega
  have hpk : packs ((mrg (lv0 ws) P).take k) = P.length := by
    have e1 : packs (mrg (lv0 ws) P) = P.length := by
      have hperm := mrg_perm (lv0 ws) P
      have : packs (mrg (lv0 ws) P) = packs (lv0 ws ++ P) := (hperm.filter _).length_eq
      rw [this]
      unfold packs
      rw [List.filter_append, List.length_append, List.filter_eq_nil_iff.2, List.filter_eq_self.2]
      · simp
      · intro x hx; simp [hf x hx]
      · intro x hx; obtain ⟨y, _, rfl⟩ := List.mem_map.1 hx; simp
    have e2 : packs ((mrg (lv0 ws) P).drop k) = 0 := by
      unfold packs
      rw [List.length_eq_zero_iff, List.filter_eq_nil_iff]
      intro x hx; simp [hleaf x hx]
    have e3 : packs (mrg (lv0 ws) P) = packs ((mrg (lv0 ws) P).take k) + packs ((mrg (lv0 ws) P).drop k) := by
      conv => lhs; rw [← List.take_append_drop k (mrg (lv0 ws) P)]
      unfold packs
      rw [List.filter_append, List.length_append]
    omega
  rw [hins]
  generalize hX : (mrg (lv0 ws) P).take k = X at hpk
  generalize hY : (mrg (lv0 ws) P).drop k = Y at hleaf
  have hXY : mrg (lv0 ws) P = X ++ Y := by rw [← hX, ← hY, List.take_append_drop]
  have hXl : (lab ys X 0 0).length = k := by rw [lab_len, ← hX, List.length_take]; omega
  rw [hXY, lab_app, lab_app, ← hXl, List.take_left, List.drop_left]
  obtain ⟨pw, pb⟩ := p
  simp only at hp
  subst hp
  rw [lab, Nat.zero_add, Nat.zero_add, hpk, lab_leaves ys Y _ P.length (P.length + 1) hleaf]
theorem pairs_snoc {R : List It} {j : Nat} (h : 2 * j + 1 < R.length) : (pairs R).take (j + 1) = (pairs R).take j ++ [((R[2 * j]'(by omega)).1 + R[2 * j + 1].1, false)] := by
  have key : ∀ (j : Nat) (R : List It) (h : 2 * j + 1 < R.length), (pairs R)[j]? = some ((R[2 * j]'(by omega)).1 + R[2 * j + 1].1, false) := by
    intro j
    induction j with
    | zero =>
      intro R h
      match R, h with
      | a :: b :: R, _ => rfl
    | succ j ih =>
      intro R h
      match R, h with
      | a :: b :: R, h =>
        rw [pairs, List.getElem?_cons_succ, ih R (by simp at h; omega)]
        rfl
  rw [List.take_add_one, key j R h]; rfl
end
end Go.Proofs.Ytcidpcahgkngjaa
