/-
  What the merging step of the stable sort does to a slice of integers. Conditions: as each theorem states.
-/
import Derived.Test.YtajpnkioigcejaaSort
namespace Go.Proofs.Ytajpnkioigcejaa
open Go Go.Vc Go.Srt
section
variable {E w : World} {F : List HP}
theorem rdI {s : Sl} {xs : List Int} {i : Int} {x : Int} {K : Int → Prop} (h : Hp E w (OwnS 1 s (xs.map vI) :: F)) (h0 : 0 ≤ i) (hx : xs[i.toNat]? = some x) (hK : K x) : Idx s i 1 fun q => Ld kI q w K := by
  have hl := h.ownLen
  simp only [List.length_map, Nat.mul_one] at hl
  have hi := (List.getElem?_eq_some_iff.1 hx).1
  refine Idx.rd (h.tells Tells.own) h0 (by omega) fun q hq hc => ?_
  refine Ld.sc (s := .int .i64) x (by rw [hc, ← List.getElem?_eq_getElem, List.getElem?_map, hx]; rfl) hK
theorem ifs {c1 c2 : Bool} {X Y : Prop} (h1 : c1 = true → c2 = true → Y) (h2 : c1 = false ∨ c2 = false → X) : IfB c1 (IfB c2 Y X) X := by
  cases c1 <;> cases c2 <;> simp [IfB] <;> first | exact h1 rfl rfl | exact h2 (.inl rfl) | exact h2 (.inr rfl)
theorem Join_use {α : Type} {r : α} {k : α → Prop} (C : α → Prop) (h1 : C r) (h2 : ∀ K, C K → k K) : Join r k := h2 r h1
theorem half {a b : Int} {k : Nat} (h : a + b = (k : Int)) (hk : k ≤ 4 * big) : i64 (ishr .u64 (u64 (i64 (a + b))) 1) = ((k / 2 : Nat) : Int) := by
  rw [big_eq] at hk
  rw [h, i64_id (x := (k : Int)) (by omega), u64_id (x := (k : Int)) (by omega)]
  have := ishr_nat (k := .u64) (a := k) (b := 1) (by decide)
  rw [show (1 : Int) = ((1 : Nat) : Int) from rfl, this, i64_id (by omega)]
/-- in a sorted list, what holds of one element holds of those before it -/
theorem sd_le {key : Int → Int} {R : List Int} (h : Sd key R) {t u : Nat} (hu : u < R.length) (ht : t ≤ u) {x : Int} (hx : Ky key R[u] x) : Ky key (R[t]'(by omega)) x := by
  by_cases e : t = u
  · subst e; exact hx
  · exact ((List.pairwise_iff_getElem.1 h) t u (by omega) hu (by omega)).trans hx
theorem sd_ge {key : Int → Int} {R : List Int} (h : Sd key R) {t u : Nat} (hu : u < R.length) (ht : t ≤ u) {x : Int} (hx : Ky key x (R[t]'(by omega))) : Ky key x R[u] := by
  by_cases e : t = u
  · subst e; exact hx
  · exact hx.trans ((List.pairwise_iff_getElem.1 h) t u (by omega) hu (by omega))
theorem sd_mid {key : Int → Int} {A B : List Int} {x : Int} (h : Sd key (A ++ B)) (h1 : ∀ y ∈ A, Ky key y x) (h2 : ∀ y ∈ B, Ky key x y) : Sd key (A ++ x :: B) := by
  obtain ⟨p1, p2, p3⟩ := List.pairwise_append.1 h
  refine List.pairwise_append.2 ⟨p1, List.pairwise_cons.2 ⟨h2, p2⟩, fun y hy z hz => ?_⟩
  rcases List.mem_cons.1 hz with rfl | hz
  · exact h1 y hy
  · exact p3 y hy z hz
theorem symmerge_c {s : Sl} {fv : Value} {key : Int → Int} {D : Int → Prop} (hc : CmpOk E F fv key D) :
    ∀ (N : Nat) {P L R Q : List Int} {w : World} {a m b : Int} {K : World → Prop}, L.length + R.length ≤ N → Hp E w (OwnS 1 s ((P ++ L ++ R ++ Q).map vI) :: F) → (P ++ L ++ R ++ Q).length ≤ big →
    L ≠ [] → R ≠ [] → Sd key L → Sd key R → (∀ x ∈ L, ∀ y ∈ R, x < y) → (∀ x ∈ L, D x) → (∀ x ∈ R, D x) → a = (P.length : Int) → m = ((P.length + L.length : Nat) : Int) → b = ((P.length + L.length + R.length : Nat) : Int) →
    (∀ M w', M.Perm (L ++ R) → Sd key M → Hp E w' (OwnS 1 s ((P ++ M ++ Q).map vI) :: F) → K w') →
    Cl Try.prog [] n_slices_symMergeCmpFunc_int ⟨[.slice s.base s.len s.cap, .int .i64 a, .int .i64 m, .int .i64 b, fv]⟩ w K
  | 0, P, L, R, Q, w, a, m, b, K, hN, _, _, hL, _, _, _, _, _, _, _, _, _, _ => absurd (List.length_eq_zero_iff.1 (by omega : L.length = 0)) hL
  | N + 1, P, L, R, Q, w, a, m, b, K, hN, h, hbig, hL, hR, hsL, hsR, hLR, hDL, hDR, ha, hm, hb, hK => by
    subst ha; subst hm; subst hb
    refine slices_symMergeCmpFunc_int.ok _ _ _ _ _ _ _ ?_
    unfold slices_symMergeCmpFunc_int.E
    have hbg := hbig
    rw [big_eq] at hbig
    simp only [List.length_append] at hbig
    have hL1 := List.length_pos_iff.2 hL
    have hR1 := List.length_pos_iff.2 hR
    refine IfB.mk (fun h1 => ?_) (fun h1 => IfB.mk (fun h2 => ?_) (fun h2 => ?_))
    · have h1 : L.length = 1 := by
        rw [i64_id (by omega)] at h1
        have := of_decide_eq_true h1; omega
      obtain ⟨x, rfl⟩ := List.length_eq_one_iff.1 h1
      simp only [List.length_cons, List.length_nil, Nat.zero_add] at hbig ⊢
      have gR : ∀ t (ht : t < R.length), (P ++ [x] ++ R ++ Q)[P.length + 1 + t]? = some R[t] := by
        intro t ht
        rw [List.append_assoc (P ++ [x]), List.getElem?_append_right (by simp <;> omega), List.getElem?_append_left (by simp <;> omega)]
        simp only [List.length_append, List.length_cons, List.length_nil]
        rw [show P.length + 1 + t - (P.length + (0 + 1)) = t by omega, List.getElem?_eq_getElem ht]
      have gx : (P ++ [x] ++ R ++ Q)[P.length]? = some x := by
        rw [show P ++ [x] ++ R ++ Q = P ++ x :: (R ++ Q) by simp, List.getElem?_append_right (Nat.le_refl _)]; simp
      refine ⟨fun i j w' => ∃ u v : Nat, i = ((P.length + 1 + u : Nat) : Int) ∧ j = ((P.length + 1 + v : Nat) : Int) ∧ u ≤ v ∧ v ≤ R.length ∧ (∀ t (_ : t < u) (h : t < R.length), Ky key R[t] x) ∧ (∀ t (_ : v ≤ t) (h : t < R.length), Ky key x R[t]) ∧ Hp E w' (OwnS 1 s ((P ++ [x] ++ R ++ Q).map vI) :: F),
        fun i j _ => j.toNat - i.toNat, ⟨0, R.length, rfl, by omega, by omega, Nat.le_refl _, fun t ht => by omega, fun t ht h => by omega, h⟩, ?_⟩
      rintro i j w' ⟨u, v, rfl, rfl, huv, hv, hlo, hhi, hh⟩
      refine IfB.mk (fun hlt => ?_) (fun hge => ?_)
      · have hlt := of_decide_eq_true hlt
        have hlt : u < v := by omega
        refine ⟨by decide, Drw.mk hh fun w1 h1 => ?_⟩
        rw [half (k := P.length + 1 + u + (P.length + 1 + v)) (by omega) (by rw [big_eq]; omega)]
        obtain ⟨t, ht⟩ : ∃ t, (P.length + 1 + u + (P.length + 1 + v)) / 2 = P.length + 1 + t := ⟨(u + v) / 2, by omega⟩
        rw [ht]
        have htu : u ≤ t := by omega
        have htv : t < v := by omega
        have htR : t < R.length := by omega
        refine rdI h1 (by omega) (x := R[t]) (by rw [Int.toNat_natCast]; exact gR t htR) ?_
        refine rdI h1 (by omega) (x := x) (by rw [Int.toNat_natCast]; exact gx) ?_
        have hxy := hLR x (by simp) R[t] (List.getElem_mem htR)
        have hyx := ord_of (key := key) hxy
        refine hc [_] w1 R[t] x _ h1 (hDL x (by simp)) (hDR _ (List.getElem_mem htR)) fun z w2 hz h2 => ?_
        refine IfB.mk (fun hneg => ?_) (fun hpos => ?_)
        · have hneg := hyx.1.1 (hz.1 (of_decide_eq_true hneg))
          rw [i64_id (by omega)]
          exact ⟨⟨t + 1, v, by omega, rfl, by omega, hv, fun t' h' hl => sd_le hsR htR (by omega) hneg, hhi, h2⟩, by dsimp only; omega⟩
        · have hpos := hyx.2.1 (fun hk => (of_decide_eq_false hpos) (hz.2 hk))
          exact ⟨⟨u, t, rfl, rfl, htu, by omega, hlo, fun t' h' hl => sd_ge hsR hl h' hpos, h2⟩, by dsimp only; omega⟩
      · have hge : u = v := by have := of_decide_eq_false hge; omega
        subst hge
        refine ⟨fun k w' => ∃ t : Nat, k = ((P.length + t : Nat) : Int) ∧ t ≤ u ∧ Hp E w' (OwnS 1 s ((P ++ R.take t ++ x :: R.drop t ++ Q).map vI) :: F), fun k _ => P.length + u - k.toNat, ⟨0, rfl, by omega, by simpa using hh⟩, ?_⟩
        rintro k w' ⟨t, rfl, htu, hh⟩
        rw [i64_id (by omega)]
        refine IfB.mk (fun hlt => ?_) (fun hge => ?_)
        · have hlt : t < u := by have := of_decide_eq_true hlt; omega
          have htR : t < R.length := by omega
          have dR : R.drop t = R[t] :: R.drop (t + 1) := List.drop_eq_getElem_cons htR
          have tR : R.take (t + 1) = R.take t ++ [R[t]] := by rw [List.take_add_one, List.getElem?_eq_getElem htR]; rfl
          refine Drw.mk hh fun w1 h1 => ?_
          rw [i64_id (x := ((P.length + t : Nat) : Int) + 1) (by omega)]
          refine exch_up (P := P ++ R.take t) (Q := R.drop (t + 1) ++ Q) (x := x) (y := R[t]) (by rw [dR] at h1; simpa only [List.append_assoc, List.cons_append] using h1) (by simp; omega) (by simp; omega) fun w2 h2 => ?_
          exact ⟨⟨t + 1, by omega, by omega, by rw [tR]; simpa only [List.append_assoc, List.cons_append, List.nil_append] using h2⟩, by dsimp only; omega⟩
        · have hge : t = u := by have := of_decide_eq_false hge; omega
          subst hge
          refine hK (R.take t ++ x :: R.drop t) _ ?_ ?_ (by simpa only [List.append_assoc, List.cons_append] using hh)
          · refine List.perm_middle.trans ?_
            rw [List.take_append_drop]; exact List.Perm.refl _
          · refine sd_mid (by rw [List.take_append_drop]; exact hsR) (fun y hy => ?_) (fun y hy => ?_)
            · obtain ⟨i, hi, rfl⟩ := List.getElem_of_mem hy
              rw [List.getElem_take]
              exact hlo i (by simp at hi; omega) _
            · obtain ⟨i, hi, rfl⟩ := List.getElem_of_mem hy
              rw [List.getElem_drop]
              exact hhi _ (by omega) _
    · have h2 : R.length = 1 := by
        rw [i64_id (by omega)] at h2
        have := of_decide_eq_true h2; omega
      obtain ⟨y, rfl⟩ := List.length_eq_one_iff.1 h2
      simp only [List.length_cons, List.length_nil, Nat.zero_add] at hbig ⊢
      have gL : ∀ t (ht : t < L.length), (P ++ L ++ [y] ++ Q)[P.length + t]? = some L[t] := by
        intro t ht
        rw [List.append_assoc (P ++ L), List.append_assoc P, List.getElem?_append_right (by omega), List.getElem?_append_left (by omega)]
        rw [show P.length + t - P.length = t by omega, List.getElem?_eq_getElem ht]
      have gy : (P ++ L ++ [y] ++ Q)[P.length + L.length]? = some y := by
        rw [show P ++ L ++ [y] ++ Q = (P ++ L) ++ y :: Q by simp, List.getElem?_append_right (by simp)]; simp
      refine ⟨fun i j w' => ∃ u v : Nat, i = ((P.length + u : Nat) : Int) ∧ j = ((P.length + v : Nat) : Int) ∧ u ≤ v ∧ v ≤ L.length ∧ (∀ t (_ : t < u) (h : t < L.length), Ky key L[t] y) ∧ (∀ t (_ : v ≤ t) (h : t < L.length), Ky key y L[t]) ∧ Hp E w' (OwnS 1 s ((P ++ L ++ [y] ++ Q).map vI) :: F),
        fun i j _ => j.toNat - i.toNat, ⟨0, L.length, rfl, rfl, by omega, Nat.le_refl _, fun t ht => by omega, fun t ht h => by omega, h⟩, ?_⟩
      rintro i j w' ⟨u, v, rfl, rfl, huv, hv, hlo, hhi, hh⟩
      refine IfB.mk (fun hlt => ?_) (fun hge => ?_)
      · have hlt := of_decide_eq_true hlt
        have hlt : u < v := by omega
        refine ⟨by decide, Drw.mk hh fun w1 h1 => ?_⟩
        rw [half (k := P.length + u + (P.length + v)) (by omega) (by rw [big_eq]; omega)]
        obtain ⟨t, ht⟩ : ∃ t, (P.length + u + (P.length + v)) / 2 = P.length + t := ⟨(u + v) / 2, by omega⟩
        rw [ht]
        have htu : u ≤ t := by omega
        have htv : t < v := by omega
        have htL : t < L.length := by omega
        refine rdI h1 (by omega) (x := y) (by rw [Int.toNat_natCast]; exact gy) ?_
        refine rdI h1 (by omega) (x := L[t]) (by rw [Int.toNat_natCast]; exact gL t htL) ?_
        have hxy := hLR L[t] (List.getElem_mem htL) y (by simp)
        have hyx := ord_of (key := key) hxy
        refine hc [_] w1 y L[t] _ h1 (hDL _ (List.getElem_mem htL)) (hDR y (by simp)) fun z w2 hz h2 => ?_
        refine IfB.mk (fun hneg => ?_) (fun hpos => ?_)
        · have hneg : ¬ z < 0 := by simpa using hneg
          have hneg := hyx.2.1 (fun hk => hneg (hz.2 hk))
          rw [i64_id (by omega)]
          exact ⟨⟨t + 1, v, by omega, rfl, by omega, hv, fun t' h' hl => sd_le hsL htL (by omega) hneg, hhi, h2⟩, by dsimp only; omega⟩
        · have hpos : z < 0 := by simpa using hpos
          have hpos := hyx.1.1 (hz.1 hpos)
          exact ⟨⟨u, t, rfl, rfl, htu, by omega, hlo, fun t' h' hl => sd_ge hsL hl h' hpos, h2⟩, by dsimp only; omega⟩
      · have hge : u = v := by have := of_decide_eq_false hge; omega
        subst hge
        refine ⟨fun k w' => ∃ t : Nat, k = ((P.length + t : Nat) : Int) ∧ u ≤ t ∧ t ≤ L.length ∧ Hp E w' (OwnS 1 s ((P ++ L.take t ++ y :: L.drop t ++ Q).map vI) :: F), fun k _ => k.toNat, ⟨L.length, rfl, by omega, Nat.le_refl _, by simpa using hh⟩, ?_⟩
        rintro k w' ⟨t, rfl, htu, htl, hh⟩
        refine IfB.mk (fun hlt => ?_) (fun hge => ?_)
        · have hlt : u < t := by have := of_decide_eq_true hlt; omega
          obtain ⟨t, rfl⟩ : ∃ t', t = t' + 1 := ⟨t - 1, by omega⟩
          have htL : t < L.length := by omega
          have dL : L.drop t = L[t] :: L.drop (t + 1) := List.drop_eq_getElem_cons htL
          have tL : L.take (t + 1) = L.take t ++ [L[t]] := by rw [List.take_add_one, List.getElem?_eq_getElem htL]; rfl
          refine Drw.mk hh fun w1 h1 => ?_
          rw [i64_id (x := ((P.length + (t + 1) : Nat) : Int) - 1) (by omega)]
          refine exch_dn (P := P ++ L.take t) (Q := L.drop (t + 1) ++ Q) (x := L[t]) (y := y) (by rw [tL] at h1; simpa only [List.append_assoc, List.cons_append, List.nil_append] using h1) (by simp; omega) (by simp; omega) fun w2 h2 => ?_
          exact ⟨⟨t, by omega, by omega, by omega, by rw [dL]; simpa only [List.append_assoc, List.cons_append, List.nil_append] using h2⟩, by dsimp only; omega⟩
        · have hge : t = u := by have := of_decide_eq_false hge; omega
          subst hge
          refine hK (L.take t ++ y :: L.drop t) _ ?_ ?_ (by simpa only [List.append_assoc, List.cons_append] using hh)
          · refine List.perm_middle.trans ?_
            rw [List.take_append_drop]; exact List.perm_append_comm (l₁ := [y])
          · refine sd_mid (by rw [List.take_append_drop]; exact hsL) (fun y hy => ?_) (fun y hy => ?_)
            · obtain ⟨i, hi, rfl⟩ := List.getElem_of_mem hy
              rw [List.getElem_take]
              exact hlo i (by simp at hi; omega) _
            · obtain ⟨i, hi, rfl⟩ := List.getElem_of_mem hy
              rw [List.getElem_drop]
              exact hhi _ (by omega) _
    · have h1 : L.length ≠ 1 := by
        intro h0
        rw [i64_id (by omega)] at h1
        have h1 := of_decide_eq_false h1; omega
      have h2 : R.length ≠ 1 := by
        intro h0
        rw [i64_id (by omega)] at h2
        have h2 := of_decide_eq_false h2; omega
      have hmid : i64 (ishr .u64 (u64 (i64 ((P.length : Int) + ((P.length + L.length + R.length : Nat) : Int)))) 1) = ((P.length + (L.length + R.length) / 2 : Nat) : Int) := by
        rw [half (k := P.length + (P.length + L.length + R.length)) (by omega) (by rw [big_eq]; omega)]
        omega
      simp only [hmid]
      refine ⟨by decide, ?_⟩
      obtain ⟨hf, hfe⟩ : ∃ hf, (L.length + R.length) / 2 = hf := ⟨_, rfl⟩
      rw [hfe]
      have gL : ∀ t (ht : t < L.length), (P ++ L ++ R ++ Q)[P.length + t]? = some L[t] := by
        intro t ht
        rw [List.append_assoc (P ++ L), List.append_assoc P, List.getElem?_append_right (by omega), List.getElem?_append_left (by omega)]
        rw [show P.length + t - P.length = t by omega, List.getElem?_eq_getElem ht]
      have gR : ∀ t (ht : t < R.length), (P ++ L ++ R ++ Q)[P.length + L.length + t]? = some R[t] := by
        intro t ht
        rw [List.append_assoc (P ++ L), List.getElem?_append_right (by simp), List.getElem?_append_left (by simp; omega)]
        rw [List.length_append, show P.length + L.length + t - (P.length + L.length) = t by omega, List.getElem?_eq_getElem ht]
      refine Join_use (fun K2 => ∀ (u0 v0 : Nat) (i j : Int), i = ((P.length + u0 : Nat) : Int) → j = ((P.length + v0 : Nat) : Int) → u0 ≤ v0 → v0 ≤ hf → v0 ≤ L.length → hf ≤ u0 + R.length → (u0 = 0 ∨ hf = u0 + R.length) → (v0 = hf ∨ v0 = L.length) → K2 i j w) ?_ fun K2 hK2 => ?_
      · rintro u0 v0 i j rfl rfl huv0 hv1 hv2 hu1 hu2 hv3
        refine ⟨fun i j w' => ∃ u v : Nat, i = ((P.length + u : Nat) : Int) ∧ j = ((P.length + v : Nat) : Int) ∧ u0 ≤ u ∧ u ≤ v ∧ v ≤ v0 ∧ (u = u0 ∨ ∃ x y, L[u - 1]? = some x ∧ R[hf - u]? = some y ∧ Ky key x y) ∧ (v = v0 ∨ ∃ x y, L[v]? = some x ∧ R[hf - 1 - v]? = some y ∧ Ky key y x) ∧ Hp E w' (OwnS 1 s ((P ++ L ++ R ++ Q).map vI) :: F),
          fun i j _ => j.toNat - i.toNat, ⟨u0, v0, rfl, rfl, by omega, huv0, by omega, .inl rfl, .inl rfl, h⟩, ?_⟩
        rintro i j w' ⟨u, v, rfl, rfl, hu0, huv, hv0, hlo, hhi, hh⟩
        refine IfB.mk (fun hlt => ?_) (fun hge => ?_)
        · have hlt := of_decide_eq_true hlt
          have hlt : u < v := by omega
          refine ⟨by decide, Drw.mk hh fun w1 h1 => ?_⟩
          rw [half (k := P.length + u + (P.length + v)) (by omega) (by rw [big_eq]; omega)]
          obtain ⟨t, ht⟩ : ∃ t, (P.length + u + (P.length + v)) / 2 = P.length + t := ⟨(u + v) / 2, by omega⟩
          rw [ht]
          have htu : u ≤ t := by omega
          have htv : t < v := by omega
          have htL : t < L.length := by omega
          have htR : hf - 1 - t < R.length := by omega
          simp (disch := omega) only [i64_id]
          refine rdI h1 (by omega) (x := R[hf - 1 - t]) (by
            rw [show (((P.length + hf : Nat) : Int) + ((P.length + L.length : Nat) : Int) - 1 - ((P.length + t : Nat) : Int)).toNat = P.length + L.length + (hf - 1 - t) by omega]; exact gR _ htR) ?_
          refine rdI h1 (by omega) (x := L[t]) (by rw [Int.toNat_natCast]; exact gL t htL) ?_
          have hxy := hLR L[t] (List.getElem_mem htL) _ (List.getElem_mem htR)
          have hyx := ord_of (key := key) hxy
          refine hc [_] w1 _ L[t] _ h1 (hDL _ (List.getElem_mem htL)) (hDR _ (List.getElem_mem htR)) fun z w2 hz h2 => ?_
          refine IfB.mk (fun hneg => ?_) (fun hpos => ?_)
          · have hneg : ¬ z < 0 := by simpa using hneg
            have hneg := hyx.2.1 (fun hk => hneg (hz.2 hk))
            refine ⟨⟨t + 1, v, by omega, rfl, by omega, by omega, hv0, .inr ⟨L[t], R[hf - 1 - t], ?_, ?_, hneg⟩, hhi, h2⟩, by omega⟩
            · simp [htL]
            · rw [show hf - (t + 1) = hf - 1 - t by omega]; exact List.getElem?_eq_getElem htR
          · have hpos : z < 0 := by simpa using hpos
            have hpos := hyx.1.1 (hz.1 hpos)
            exact ⟨⟨u, t, rfl, rfl, hu0, htu, by omega, hlo, .inr ⟨L[t], R[hf - 1 - t], List.getElem?_eq_getElem htL, List.getElem?_eq_getElem htR, hpos⟩, h2⟩, by omega⟩
        · have hge : u = v := by have := of_decide_eq_false hge; omega
          subst hge
          have huL : u ≤ L.length := by omega
          have huR : hf - u ≤ R.length := by omega
          have hend : i64 (i64 (((P.length + hf : Nat) : Int) + ((P.length + L.length : Nat) : Int)) - ((P.length + u : Nat) : Int)) = ((P.length + L.length + (hf - u) : Nat) : Int) := by
            simp (disch := omega) only [i64_id]; omega
          simp only [hend]
          -- what stands before what
          have c1 : ∀ x ∈ L.take u, ∀ y ∈ R.drop (hf - u), Ky key x y := by
            intro x hx y hy
            obtain ⟨i, hi, rfl⟩ := List.getElem_of_mem hx
            obtain ⟨j, hj, rfl⟩ := List.getElem_of_mem hy
            simp only [List.length_take, List.length_drop] at hi hj
            rw [List.getElem_take, List.getElem_drop]
            rcases hlo with h0 | ⟨x, y, hx, hy, hk⟩
            · rcases hu2 with h0' | h0' <;> omega
            · obtain ⟨q1, q2⟩ := List.getElem?_eq_some_iff.1 hx
              obtain ⟨q3, q4⟩ := List.getElem?_eq_some_iff.1 hy
              subst q2; subst q4
              exact sd_ge hsR (by omega) (by omega) (sd_le hsL q1 (by omega) hk)
          have c2 : ∀ y ∈ R.take (hf - u), ∀ x ∈ L.drop u, Ky key y x := by
            intro y hy x hx
            obtain ⟨i, hi, rfl⟩ := List.getElem_of_mem hy
            obtain ⟨j, hj, rfl⟩ := List.getElem_of_mem hx
            simp only [List.length_take, List.length_drop] at hi hj
            rw [List.getElem_take, List.getElem_drop]
            rcases hhi with h0 | ⟨x, y, hx, hy, hk⟩
            · rcases hv3 with h0' | h0' <;> omega
            · obtain ⟨q1, q2⟩ := List.getElem?_eq_some_iff.1 hx
              obtain ⟨q3, q4⟩ := List.getElem?_eq_some_iff.1 hy
              subst q2; subst q4
              exact sd_ge hsL (by omega) (by omega) (sd_le hsR q3 (by omega) hk)
          have eL : L.take u ++ L.drop u = L := List.take_append_drop _ _
          have eR : R.take (hf - u) ++ R.drop (hf - u) = R := List.take_append_drop _ _
          have lL1 : (L.take u).length = u := by simp; omega
          have lL2 : (L.drop u).length = L.length - u := by simp
          have lR1 : (R.take (hf - u)).length = hf - u := by simp; omega
          have lR2 : (R.drop (hf - u)).length = R.length - (hf - u) := by simp
          clear hlo hhi gL gR
          generalize L.take u = L1 at *
          generalize L.drop u = L2 at *
          generalize R.take (hf - u) = R1 at *
          generalize R.drop (hf - u) = R2 at *
          obtain ⟨sL1, sL2, sL3⟩ := List.pairwise_append.1 (eL ▸ hsL)
          obtain ⟨sR1, sR2, sR3⟩ := List.pairwise_append.1 (eR ▸ hsR)
          have mL1 : ∀ x ∈ L1, x ∈ L := fun x hx => by rw [← eL]; exact List.mem_append_left _ hx
          have mL2 : ∀ x ∈ L2, x ∈ L := fun x hx => by rw [← eL]; exact List.mem_append_right _ hx
          have mR1 : ∀ x ∈ R1, x ∈ R := fun x hx => by rw [← eR]; exact List.mem_append_left _ hx
          have mR2 : ∀ x ∈ R2, x ∈ R := fun x hx => by rw [← eR]; exact List.mem_append_right _ hx
          have last : ∀ (M1 M2 : List Int) (w' : World), M1.Perm (L1 ++ R1) → M2.Perm (L2 ++ R2) → Sd key M1 → Sd key M2 → Hp E w' (OwnS 1 s ((P ++ M1 ++ M2 ++ Q).map vI) :: F) → K w' := by
            intro M1 M2 w' p1 p2 s1 s2 hh
            refine hK (M1 ++ M2) w' ?_ ?_ (by simpa only [List.append_assoc] using hh)
            · refine (List.Perm.append p1 p2).trans ?_
              rw [← eL, ← eR]
              simp only [List.append_assoc]
              refine List.Perm.append_left _ ?_
              rw [← List.append_assoc, ← List.append_assoc]
              exact List.Perm.append_right _ List.perm_append_comm
            · refine List.pairwise_append.2 ⟨s1, s2, fun x hx y hy => ?_⟩
              rcases List.mem_append.1 (p1.mem_iff.1 hx) with hx | hx <;> rcases List.mem_append.1 (p2.mem_iff.1 hy) with hy | hy
              · exact sL3 x hx y hy
              · exact c1 x hx y hy
              · exact c2 x hx y hy
              · exact sR3 x hx y hy
          refine Join_use (fun K3 => ∀ w', Hp E w' (OwnS 1 s ((P ++ L1 ++ R1 ++ L2 ++ R2 ++ Q).map vI) :: F) → K3 w') ?_ fun K3 hK3 => ?_
          · intro w3 h3
            have second : ∀ (M1 : List Int) (w4 : World), M1.Perm (L1 ++ R1) → Sd key M1 → Hp E w4 (OwnS 1 s ((P ++ M1 ++ L2 ++ R2 ++ Q).map vI) :: F) →
                IfB (decide (((P.length + hf : Nat) : Int) < ((P.length + L.length + (hf - u) : Nat) : Int))) (IfB (decide (((P.length + L.length + (hf - u) : Nat) : Int) < ((P.length + L.length + R.length : Nat) : Int)))
                  (Cl Try.prog [] n_slices_symMergeCmpFunc_int ⟨[.slice s.base s.len s.cap, .int .i64 ((P.length + hf : Nat) : Int), .int .i64 ((P.length + L.length + (hf - u) : Nat) : Int), .int .i64 ((P.length + L.length + R.length : Nat) : Int), fv]⟩ w4 fun w5 => K w5) (K w4)) (K w4) := by
              intro M1 w4 p1 s1 h4
              have lM := p1.length_eq
              rw [List.length_append] at lM
              refine ifs (fun q1 q2 => ?_) (fun q => ?_)
              · have q1 := of_decide_eq_true q1
                have q2 := of_decide_eq_true q2
                refine symmerge_c hc N (P := P ++ M1) (L := L2) (R := R2) (Q := Q) (by omega) h4 (by rw [big_eq]; simp only [List.length_append]; omega) (fun e => by rw [e] at lL2; simp at lL2; omega) (fun e => by rw [e] at lR2; simp at lR2; omega) sL2 sR2
                  (fun x hx y hy => hLR x (mL2 x hx) y (mR2 y hy)) (fun x hx => hDL x (mL2 x hx)) (fun x hx => hDR x (mR2 x hx)) (by simp only [List.length_append]; omega) (by simp only [List.length_append]; omega) (by simp only [List.length_append]; omega) fun M2 w5 p2 s2 h5 => ?_
                exact last M1 M2 w5 p1 p2 s1 s2 h5
              · have hor : L2 = [] ∨ R2 = [] := by
                  rcases q with q | q
                  · have q := of_decide_eq_false q; exact .inl (List.length_eq_zero_iff.1 (by omega))
                  · have q := of_decide_eq_false q; exact .inr (List.length_eq_zero_iff.1 (by omega))
                rcases hor with e | e
                · subst e
                  exact last M1 R2 w4 p1 (List.Perm.refl _) s1 sR2 (by simpa using h4)
                · subst e
                  exact last M1 L2 w4 p1 (by simp) s1 sL2 (by simpa using h4)
            refine ifs (fun q1 q2 => ?_) (fun q => ?_)
            · have q1 := of_decide_eq_true q1
              have q2 := of_decide_eq_true q2
              refine symmerge_c hc N (P := P) (L := L1) (R := R1) (Q := L2 ++ R2 ++ Q) (by omega) (by simpa only [List.append_assoc] using h3) (by rw [big_eq]; simp only [List.length_append]; omega) (fun e => by rw [e] at lL1; simp at lL1; omega) (fun e => by rw [e] at lR1; simp at lR1; omega) sL1 sR1
                (fun x hx y hy => hLR x (mL1 x hx) y (mR1 y hy)) (fun x hx => hDL x (mL1 x hx)) (fun x hx => hDR x (mR1 x hx)) rfl (by omega) (by omega) fun M1 w5 p1 s1 h5 => ?_
              exact second M1 w5 p1 s1 (by simpa only [List.append_assoc] using h5)
            · have hor : L1 = [] ∨ R1 = [] := by
                rcases q with q | q
                · have q := of_decide_eq_false q; exact .inl (List.length_eq_zero_iff.1 (by omega))
                · have q := of_decide_eq_false q; exact .inr (List.length_eq_zero_iff.1 (by omega))
              rcases hor with e | e
              · subst e
                exact second R1 w3 (List.Perm.refl _) sR1 (by simpa using h3)
              · subst e
                exact second L1 w3 (by simp) sL1 (by simpa using h3)
          · have hh' : Hp E w' (OwnS 1 s ((P ++ L1 ++ L2 ++ R1 ++ R2 ++ Q).map vI) :: F) := by
              rw [← eL, ← eR] at hh; simpa only [List.append_assoc] using hh
            refine ifs (fun q1 q2 => ?_) (fun q => ?_)
            · have q1 := of_decide_eq_true q1
              have q2 := of_decide_eq_true q2
              refine rotate_c (P := P ++ L1) (A := L2) (B := R1) (Q := R2 ++ Q) (by simpa only [List.append_assoc] using hh') (fun e => by rw [e] at lL2; simp at lL2; omega) (fun e => by rw [e] at lR1; simp at lR1; omega) (by rw [big_eq]; simp only [List.length_append]; omega)
                (by simp only [List.length_append]; omega) (by simp only [List.length_append]; omega) (by simp only [List.length_append]; omega) fun w5 h5 => hK3 w5 (by simpa only [List.append_assoc] using h5)
            · have hor : L2 = [] ∨ R1 = [] := by
                rcases q with q | q
                · have q := of_decide_eq_false q; exact .inl (List.length_eq_zero_iff.1 (by omega))
                · have q := of_decide_eq_false q; exact .inr (List.length_eq_zero_iff.1 (by omega))
              refine hK3 _ ?_
              rcases hor with e | e
              · subst e; simpa using hh'
              · subst e; simpa using hh'
      · refine IfB.mk (fun q => ?_) (fun q => ?_)
        · have q := of_decide_eq_true q
          refine hK2 (hf - R.length) hf _ _ ?_ rfl (by omega) (Nat.le_refl _) (by omega) (by omega) (.inr (by omega)) (.inl rfl)
          simp (disch := omega) only [i64_id]; omega
        · have q := of_decide_eq_false q
          exact hK2 0 L.length _ _ rfl rfl (by omega) (by omega) (Nat.le_refl _) (by omega) (.inl rfl) (.inr rfl)
end
end Go.Proofs.Ytajpnkioigcejaa
