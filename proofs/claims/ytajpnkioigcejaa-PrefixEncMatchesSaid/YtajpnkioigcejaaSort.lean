/-
  What the stable sort of package slices does to a slice of integers, for a comparison that compares keys. Conditions: as each theorem states.
-/
import Derived.Test.YtajpnkioigcejaaF
import Derived.Test.YtajpnkioigcejaaLib
namespace Go.Srt
/-- by key, and among equal keys by the number itself -/
def Ky (key : Int → Int) (x y : Int) : Prop := key x < key y ∨ (key x = key y ∧ x < y)
theorem Ky.trans {key : Int → Int} {x y z : Int} (h : Ky key x y) (h2 : Ky key y z) : Ky key x z := by
  unfold Ky at *; omega
theorem Ky.total {key : Int → Int} {x y : Int} (h : x ≠ y) : Ky key x y ∨ Ky key y x := by
  unfold Ky; omega
theorem Ky.asymm {key : Int → Int} {x y : Int} (h : Ky key x y) : ¬ Ky key y x := by
  unfold Ky at *; omega
abbrev Sd (key : Int → Int) (l : List Int) : Prop := l.Pairwise (Ky key)
theorem set_at {α : Type} (P Q : List α) (x y : α) : (P ++ x :: Q).set P.length y = P ++ y :: Q := by
  rw [List.set_append_right _ _ (Nat.le_refl _)]; simp
theorem gat {α : Type} (P Q : List α) (x : α) (h : P.length < (P ++ x :: Q).length) : (P ++ x :: Q)[P.length] = x := by
  rw [List.getElem_append_right (Nat.le_refl _)]; simp
end Go.Srt
namespace Go.Proofs.Ytajpnkioigcejaa
open Go Go.Vc Go.Srt
section
variable {E w : World} {F : List HP}
/-- two elements are exchanged -/
theorem exch {s : Sl} {xs : List Int} {i j : Int} {K : World → Prop} (h : Hp E w (OwnS 1 s (xs.map vI) :: F)) (hi0 : 0 ≤ i) (hi : i.toNat < xs.length) (hj0 : 0 ≤ j) (hj : j.toNat < xs.length)
    (hK : ∀ w', Hp E w' (OwnS 1 s (((xs.set i.toNat xs[j.toNat]).set j.toNat xs[i.toNat]).map vI) :: F) → K w') :
    Idx s j 1 fun q => Ld kI q w fun x => Idx s i 1 fun q' => Ld kI q' w fun y => Idx s i 1 fun q2 => St q2 (.int .i64 x) w fun w1 => Idx s j 1 fun q3 => St q3 (.int .i64 y) w1 K := by
  have hl := h.ownLen
  simp only [List.length_map, Nat.mul_one] at hl
  refine Idx.rd (h.tells Tells.own) hj0 (by omega) fun q hq hc => ?_
  refine Ld.sc (s := .int .i64) xs[j.toNat] (by rw [hc]; simp [vI]) ?_
  refine Idx.rd (h.tells Tells.own) hi0 (by omega) fun q' hq' hc' => ?_
  refine Ld.sc (s := .int .i64) xs[i.toNat] (by rw [hc']; simp [vI]) ?_
  refine St.own h hi0 (by omega) rfl fun w1 h1 => ?_
  refine St.own h1 hj0 (by omega) rfl fun w2 h2 => hK _ ?_
  rw [List.map_set, List.map_set]
  exact h2
/-- two neighbours are exchanged -/
theorem exch_up {s : Sl} {P Q : List Int} {x y : Int} {i j : Int} {K : World → Prop} (h : Hp E w (OwnS 1 s ((P ++ x :: y :: Q).map vI) :: F)) (hi : i = (P.length : Int)) (hj : j = (P.length : Int) + 1)
    (hK : ∀ w', Hp E w' (OwnS 1 s ((P ++ y :: x :: Q).map vI) :: F) → K w') :
    Idx s j 1 fun q => Ld kI q w fun x => Idx s i 1 fun q' => Ld kI q' w fun y => Idx s i 1 fun q2 => St q2 (.int .i64 x) w fun w1 => Idx s j 1 fun q3 => St q3 (.int .i64 y) w1 K := by
  refine exch h (by omega) (by simp; omega) (by omega) (by simp; omega) fun w' h' => hK _ ?_
  have e1 : i.toNat = P.length := by omega
  have e2 : j.toNat = (P ++ [x]).length := by simp; omega
  have g1 : (P ++ x :: y :: Q)[i.toNat]'(by simp; omega) = x := by simp only [e1]; exact gat _ _ _ _
  have g2 : (P ++ x :: y :: Q)[j.toNat]'(by simp; omega) = y := by
    have := gat (P ++ [x]) Q y (by simp)
    simp only [e2]; simp
  rw [g1, g2, e1, set_at, e2, show (P ++ y :: y :: Q) = (P ++ [y]) ++ y :: Q by simp, show (P ++ [x]).length = (P ++ [y]).length by simp, set_at] at h'
  simpa using h'
theorem exch_dn {s : Sl} {P Q : List Int} {x y : Int} {i j : Int} {K : World → Prop} (h : Hp E w (OwnS 1 s ((P ++ x :: y :: Q).map vI) :: F)) (hi : i = (P.length : Int)) (hj : j = (P.length : Int) + 1)
    (hK : ∀ w', Hp E w' (OwnS 1 s ((P ++ y :: x :: Q).map vI) :: F) → K w') :
    Idx s i 1 fun q => Ld kI q w fun x => Idx s j 1 fun q' => Ld kI q' w fun y => Idx s j 1 fun q2 => St q2 (.int .i64 x) w fun w1 => Idx s i 1 fun q3 => St q3 (.int .i64 y) w1 K := by
  refine exch h (by omega) (by simp; omega) (by omega) (by simp; omega) fun w' h' => hK _ ?_
  have e1 : i.toNat = P.length := by omega
  have e2 : j.toNat = (P ++ [x]).length := by simp; omega
  have g1 : (P ++ x :: y :: Q)[i.toNat]'(by simp; omega) = x := by simp only [e1]; exact gat _ _ _ _
  have g2 : (P ++ x :: y :: Q)[j.toNat]'(by simp; omega) = y := by
    have := gat (P ++ [x]) Q y (by simp)
    simp only [e2]; simp
  rw [g1, g2, e2, show (P ++ x :: y :: Q) = (P ++ [x]) ++ y :: Q by simp, set_at, e1, show (P ++ [x]) ++ x :: Q = P ++ x :: x :: Q by simp, set_at] at h'
  simpa using h'
theorem swap_c {s : Sl} {P A C B Q : List Int} {fv : Value} {a b n : Int} {K : World → Prop} (h : Hp E w (OwnS 1 s ((P ++ A ++ C ++ B ++ Q).map vI) :: F)) (hab : A.length = B.length) (hbig : (P ++ A ++ C ++ B ++ Q).length ≤ big)
    (ha : a = (P.length : Int)) (hb : b = ((P ++ A ++ C).length : Int)) (hn : n = (A.length : Int)) (hK : ∀ w', Hp E w' (OwnS 1 s ((P ++ B ++ C ++ A ++ Q).map vI) :: F) → K w') :
    Cl Try.prog [] n_slices_swapRangeCmpFunc_int ⟨[.slice s.base s.len s.cap, .int .i64 a, .int .i64 b, .int .i64 n, fv]⟩ w K := by
  subst ha; subst hb; subst hn
  refine slices_swapRangeCmpFunc_int.ok _ _ _ _ _ _ _ ?_
  unfold slices_swapRangeCmpFunc_int.E
  rw [big_eq] at hbig
  simp only [List.length_append] at hbig
  refine ⟨fun i w' => ∃ k : Nat, i = (k : Int) ∧ k ≤ A.length ∧ Hp E w' (OwnS 1 s ((P ++ (B.take k ++ A.drop k) ++ C ++ (A.take k ++ B.drop k) ++ Q).map vI) :: F), fun i _ => A.length - i.toNat, ⟨0, rfl, by omega, by simpa using h⟩, ?_⟩
  rintro i w' ⟨k, rfl, hk, hh⟩
  refine IfB.mk (fun hlt => ?_) (fun hge => ?_)
  · have hlt : k < A.length := by have := of_decide_eq_true hlt; omega
    refine Drw.mk hh fun w1 h1 => ?_
    simp only [List.length_append]
    rw [i64_id (x := ((P.length + A.length + C.length : Nat) : Int) + (k : Int)) (by omega), i64_id (x := (P.length : Int) + (k : Int)) (by omega)]
    have hkB : k < B.length := by omega
    refine exch h1 (by omega) (by simp; omega) (by omega) (by simp; omega) fun w2 h2 => ?_
    rw [i64_id (by omega)]
    refine ⟨⟨k + 1, rfl, by omega, ?_⟩, by omega⟩
    have e1 : ((P.length : Int) + (k : Int)).toNat = P.length + k := by omega
    have e2 : (((P.length + A.length + C.length : Nat) : Int) + (k : Int)).toNat = P.length + A.length + C.length + k := by omega
    have dA : A.drop k = A[k] :: A.drop (k + 1) := (List.drop_eq_getElem_cons hlt)
    have dB : B.drop k = B[k] :: B.drop (k + 1) := (List.drop_eq_getElem_cons hkB)
    have tA : A.take (k + 1) = A.take k ++ [A[k]] := by rw [List.take_add_one, List.getElem?_eq_getElem hlt]; rfl
    have tB : B.take (k + 1) = B.take k ++ [B[k]] := by rw [List.take_add_one, List.getElem?_eq_getElem hkB]; rfl
    have X : P ++ (B.take k ++ A.drop k) ++ C ++ (A.take k ++ B.drop k) ++ Q = (P ++ B.take k) ++ A[k] :: (A.drop (k + 1) ++ C ++ A.take k ++ B[k] :: (B.drop (k + 1) ++ Q)) := by rw [dA, dB]; simp only [List.append_assoc, List.cons_append, List.nil_append]
    have l1 : (P ++ B.take k).length = P.length + k := by simp; omega
    have X2 : ∀ z, (P ++ B.take k) ++ z :: (A.drop (k + 1) ++ C ++ A.take k ++ B[k] :: (B.drop (k + 1) ++ Q)) = (P ++ B.take k ++ z :: (A.drop (k + 1) ++ C ++ A.take k)) ++ B[k] :: (B.drop (k + 1) ++ Q) := by intro z; simp only [List.append_assoc, List.cons_append, List.nil_append]
    have l2 : ∀ z : Int, (P ++ B.take k ++ z :: (A.drop (k + 1) ++ C ++ A.take k)).length = P.length + A.length + C.length + k := by intro z; simp; omega
    have g1 : (P ++ (B.take k ++ A.drop k) ++ C ++ (A.take k ++ B.drop k) ++ Q)[((P.length : Int) + (k : Int)).toNat]? = some A[k] := by
      rw [X, e1, ← l1, List.getElem?_append_right (Nat.le_refl _)]; simp
    have g2 : (P ++ (B.take k ++ A.drop k) ++ C ++ (A.take k ++ B.drop k) ++ Q)[(((P.length + A.length + C.length : Nat) : Int) + (k : Int)).toNat]? = some B[k] := by
      rw [X, X2, e2, ← l2 A[k], List.getElem?_append_right (Nat.le_refl _)]; simp
    have g1' := (List.getElem?_eq_some_iff.1 g1).2
    have g2' := (List.getElem?_eq_some_iff.1 g2).2
    rw [g1', g2', e1, e2, X] at h2
    rw [← l1, set_at, X2, ← l2 B[k], set_at] at h2
    have Y : P ++ B.take k ++ B[k] :: (A.drop (k + 1) ++ C ++ A.take k) ++ A[k] :: (B.drop (k + 1) ++ Q) = P ++ (B.take (k + 1) ++ A.drop (k + 1)) ++ C ++ (A.take (k + 1) ++ B.drop (k + 1)) ++ Q := by rw [tA, tB]; simp only [List.append_assoc, List.cons_append, List.nil_append]
    rw [Y] at h2
    exact h2
  · have hge : k = A.length := by have := of_decide_eq_false hge; omega
    subst hge
    refine hK _ ?_
    rw [List.drop_eq_nil_of_le (Nat.le_refl _), List.take_length, List.take_of_length_le (by omega), List.drop_eq_nil_of_le (by omega)] at hh
    simpa using hh
theorem rotate_c {s : Sl} {P A B Q : List Int} {fv : Value} {a m b : Int} {K : World → Prop} (h : Hp E w (OwnS 1 s ((P ++ A ++ B ++ Q).map vI) :: F)) (hA : A ≠ []) (hB : B ≠ []) (hbig : (P ++ A ++ B ++ Q).length ≤ big)
    (ha : a = (P.length : Int)) (hm : m = ((P ++ A).length : Int)) (hb : b = ((P ++ A ++ B).length : Int)) (hK : ∀ w', Hp E w' (OwnS 1 s ((P ++ B ++ A ++ Q).map vI) :: F) → K w') :
    Cl Try.prog [] n_slices_rotateCmpFunc_int ⟨[.slice s.base s.len s.cap, .int .i64 a, .int .i64 m, .int .i64 b, fv]⟩ w K := by
  subst ha; subst hm; subst hb
  refine slices_rotateCmpFunc_int.ok _ _ _ _ _ _ _ ?_
  unfold slices_rotateCmpFunc_int.E
  have hbg := hbig
  rw [big_eq] at hbig
  simp only [List.length_append] at hbig
  have hA1 := List.length_pos_iff.2 hA
  have hB1 := List.length_pos_iff.2 hB
  refine ⟨fun i j w' => ∃ P' A' B' Q' : List Int, i = (A'.length : Int) ∧ j = (B'.length : Int) ∧ A' ≠ [] ∧ B' ≠ [] ∧ (P' ++ A').length = (P ++ A).length ∧ P' ++ B' ++ A' ++ Q' = P ++ B ++ A ++ Q ∧ Hp E w' (OwnS 1 s ((P' ++ A' ++ B' ++ Q').map vI) :: F),
    fun i j _ => i.toNat + j.toNat, ⟨P, A, B, Q, ?_, ?_, hA, hB, rfl, rfl, h⟩, ?_⟩
  · simp only [List.length_append]; rw [i64_id (by omega)]; omega
  · simp only [List.length_append]; rw [i64_id (by omega)]; omega
  · rintro i j w' ⟨P', A', B', Q', rfl, rfl, hA', hB', hm', htot, hh⟩
    have hA2 := List.length_pos_iff.2 hA'
    have hB2 := List.length_pos_iff.2 hB'
    have hlen := congrArg List.length htot
    simp only [List.length_append] at hlen hm' ⊢
    refine IfB.mk (fun hne => IfB.mk (fun hgt => ?_) (fun hle => ?_)) (fun heq => ?_)
    · have hgt := of_decide_eq_true hgt
      have hsp : A'.take B'.length ++ A'.drop B'.length = A' := List.take_append_drop _ _
      have ht : (A'.take B'.length).length = B'.length := by simp; omega
      generalize A'.take B'.length = A1 at hsp ht
      generalize A'.drop B'.length = A2 at hsp
      subst hsp
      simp only [List.length_append] at hgt hlen hm' hA2 ⊢
      rw [i64_id (by omega), i64_id (by omega)]
      refine swap_c (P := P') (A := A1) (C := A2) (B := B') (Q := Q') (by simpa using hh) ht (by rw [big_eq]; simp only [List.length_append]; omega) (by omega) (by simp only [List.length_append]; omega) (by omega) fun w2 h2 => ?_
      refine ⟨⟨P' ++ B', A2, A1, Q', by omega, by omega, ?_, ?_, by simp only [List.length_append]; omega, by rw [← htot]; simp only [List.append_assoc], by simpa using h2⟩, by omega⟩
      · intro h0; rw [h0] at hgt; simp at hgt; omega
      · intro h0; rw [h0] at ht; simp at ht; omega
    · have hle := of_decide_eq_false hle
      have hne : ¬ (A'.length : Int) = (B'.length : Int) := by simpa using hne
      have hsp : B'.take (B'.length - A'.length) ++ B'.drop (B'.length - A'.length) = B' := List.take_append_drop _ _
      have ht : (B'.drop (B'.length - A'.length)).length = A'.length := by simp; omega
      generalize B'.take (B'.length - A'.length) = B1 at hsp
      generalize B'.drop (B'.length - A'.length) = B2 at hsp ht
      subst hsp
      simp only [List.length_append] at hle hlen hne hB2 ⊢
      simp (disch := omega) only [i64_id]
      refine swap_c (P := P') (A := A') (C := B1) (B := B2) (Q := Q') (by simpa using hh) ht.symm (by rw [big_eq]; simp only [List.length_append]; omega) (by omega) (by simp only [List.length_append]; omega) rfl fun w2 h2 => ?_
      refine ⟨⟨P', B2, B1, A' ++ Q', by omega, by omega, ?_, ?_, by omega, by rw [← htot]; simp only [List.append_assoc], by simpa using h2⟩, by omega⟩
      · intro h0; rw [h0] at ht; simp at ht; omega
      · intro h0; rw [h0] at hne; simp at hne; omega
    · have heq : (A'.length : Int) = (B'.length : Int) := by simpa using heq
      rw [i64_id (by omega)]
      refine swap_c (P := P') (A := A') (C := []) (B := B') (Q := Q') (by simpa using hh) (by omega) (by rw [big_eq]; simp; omega) (by omega) (by simp; omega) rfl fun w2 h2 => hK _ ?_
      rw [← htot]
      simpa using h2
/-- a comparison that compares keys, where the second number is the smaller one -/
def CmpOk (E : World) (F : List HP) (fv : Value) (key : Int → Int) (D : Int → Prop) : Prop :=
  ∀ (A : List HP) (w : World) (y x : Int) (K : Int → World → Prop), Hp E w (A ++ F) → D x → D y → (∀ z w', (z < 0 ↔ key y < key x) → Hp E w' (A ++ F) → K z w') → ClV Try.prog fv [kI] [.int .i64 y, .int .i64 x] w K
theorem ord_of {key : Int → Int} {x y : Int} (h : x < y) : (key y < key x ↔ Ky key y x) ∧ (¬ key y < key x ↔ Ky key x y) := by
  unfold Ky; constructor <;> constructor <;> intro h2 <;> omega
theorem sd_snoc {key : Int → Int} {S : List Int} {y x : Int} (h : Sd key (S ++ [y])) (hy : Ky key y x) : ∀ z ∈ S ++ [y], Ky key z x := by
  intro z hz
  rcases List.mem_append.1 hz with hz | hz
  · have := (List.pairwise_append.1 h).2.2 z hz y (by simp)
    exact this.trans hy
  · have : z = y := by simpa using hz
    subst this; exact hy
theorem insertion_c {s : Sl} {P L Q : List Int} {fv : Value} {key : Int → Int} {D : Int → Prop} {a b : Int} {K : World → Prop} (h : Hp E w (OwnS 1 s ((P ++ L ++ Q).map vI) :: F)) (hbig : (P ++ L ++ Q).length ≤ big)
    (hc : CmpOk E F fv key D) (hD : ∀ x ∈ L, D x) (hL : L.Pairwise (· < ·)) (ha : a = (P.length : Int)) (hb : b = ((P ++ L).length : Int))
    (hK : ∀ M w', M.Perm L → Sd key M → Hp E w' (OwnS 1 s ((P ++ M ++ Q).map vI) :: F) → K w') :
    Cl Try.prog [] n_slices_insertionSortCmpFunc_int ⟨[.slice s.base s.len s.cap, .int .i64 a, .int .i64 b, fv]⟩ w K := by
  subst ha; subst hb
  refine slices_insertionSortCmpFunc_int.ok _ _ _ _ _ _ ?_
  unfold slices_insertionSortCmpFunc_int.E
  rw [big_eq] at hbig
  simp only [List.length_append] at hbig ⊢
  refine ⟨fun i w' => ∃ (k : Nat) (S : List Int), i = ((P.length + k : Nat) : Int) ∧ 1 ≤ k ∧ S.Perm (L.take k) ∧ Sd key S ∧ Hp E w' (OwnS 1 s ((P ++ S ++ L.drop k ++ Q).map vI) :: F), fun i _ => P.length + L.length - i.toNat, ⟨1, L.take 1, ?_, by omega, List.Perm.refl _, ?_, by rw [List.append_assoc P, List.take_append_drop]; exact h⟩, ?_⟩
  · rw [i64_id (by omega)]; omega
  · cases L <;> simp
  rintro i w' ⟨k, S, rfl, hk1, hS, hsd, hh⟩
  refine IfB.mk (fun hlt => ?_) (fun hge => ?_)
  · have hlt : k < L.length := by have := of_decide_eq_true hlt; omega
    have hSl : S.length = k := by have := hS.length_eq; rw [List.length_take] at this; omega
    have dL : L.drop k = L[k] :: L.drop (k + 1) := List.drop_eq_getElem_cons hlt
    have tL : L.take (k + 1) = L.take k ++ [L[k]] := by rw [List.take_add_one, List.getElem?_eq_getElem hlt]; rfl
    have hxin : L[k] ∈ L := List.getElem_mem hlt
    have hless : ∀ y ∈ S, y < L[k] := by
      intro y hy
      have hy' : y ∈ L.take k := hS.mem_iff.1 hy
      rw [← List.take_append_drop k L, List.pairwise_append] at hL
      exact hL.2.2 y hy' L[k] (by rw [dL]; exact List.mem_cons_self ..)
    have hSin : ∀ y ∈ S, y ∈ L := fun y hy => List.mem_of_mem_take (hS.mem_iff.1 hy)
    generalize L[k] = x at *
    refine ⟨fun j w' => ∃ S1 S2 : List Int, j = ((P.length + S1.length : Nat) : Int) ∧ S = S1 ++ S2 ∧ (∀ y ∈ S2, Ky key x y) ∧ Hp E w' (OwnS 1 s ((P ++ S1 ++ x :: S2 ++ L.drop (k + 1) ++ Q).map vI) :: F), fun j _ => j.toNat - P.length, ⟨S, [], by omega, by simp, by simp, ?_⟩, ?_⟩
    · rw [dL] at hh; simpa using hh
    rintro j w' ⟨S1, S2, rfl, rfl, hS2, hh⟩
    have fin : ∀ w', (∀ y ∈ S1, Ky key y x) → Hp E w' (OwnS 1 s ((P ++ S1 ++ x :: S2 ++ L.drop (k + 1) ++ Q).map vI) :: F) →
        (∃ (k_1 : Nat) (S : List Int), i64 (((P.length + k : Nat) : Int) + 1) = ((P.length + k_1 : Nat) : Int) ∧ 1 ≤ k_1 ∧ S.Perm (L.take k_1) ∧ Sd key S ∧ Hp E w' (OwnS 1 s ((P ++ S ++ L.drop k_1 ++ Q).map vI) :: F)) ∧ P.length + L.length - (i64 (((P.length + k : Nat) : Int) + 1)).toNat < P.length + L.length - (((P.length + k : Nat) : Int)).toNat := by
      intro w' hS1 hh
      rw [i64_id (by omega)]
      refine ⟨⟨k + 1, S1 ++ x :: S2, by omega, by omega, ?_, ?_, by simpa using hh⟩, by omega⟩
      · rw [tL]
        refine List.perm_middle.trans ?_
        exact (List.Perm.cons x hS).trans (List.perm_append_comm (l₁ := [x]))
      · obtain ⟨p1, p2, p3⟩ := List.pairwise_append.1 hsd
        refine List.pairwise_append.2 ⟨p1, List.pairwise_cons.2 ⟨hS2, p2⟩, fun y hy z hz => ?_⟩
        rcases List.mem_cons.1 hz with rfl | hz
        · exact hS1 y hy
        · exact p3 y hy z hz
    refine Drw.mk hh fun w1 h1 => IfB.mk (fun hgt => ?_) (fun hle => ?_)
    · have hgt := of_decide_eq_true hgt
      rcases List.eq_nil_or_concat S1 with rfl | ⟨S1', y, rfl⟩
      · simp at hgt
      · rw [List.concat_eq_append] at *
        simp only [List.length_append, List.length_cons, List.length_nil] at *
        have hln := h1.ownLen
        simp only [List.length_map, List.length_append, List.length_cons, List.length_nil, Nat.mul_one] at hln
        rw [i64_id (by omega)]
        have hform : P ++ (S1' ++ [y]) ++ x :: S2 ++ L.drop (k + 1) ++ Q = (P ++ S1') ++ y :: x :: (S2 ++ L.drop (k + 1) ++ Q) := by simp
        have gx : (P ++ (S1' ++ [y]) ++ x :: S2 ++ L.drop (k + 1) ++ Q)[P.length + S1'.length + 1]? = some x := by
          rw [hform, show P.length + S1'.length + 1 = (P ++ S1').length + 1 by simp, List.getElem?_append_right (by omega)]; simp
        have gy : (P ++ (S1' ++ [y]) ++ x :: S2 ++ L.drop (k + 1) ++ Q)[P.length + S1'.length]? = some y := by
          rw [hform, show P.length + S1'.length = (P ++ S1').length by simp, List.getElem?_append_right (by omega)]; simp
        refine Idx.rd (h1.tells Tells.own) (by omega) (by omega) fun q hq hc1 => ?_
        refine Ld.sc (s := .int .i64) x (by
          rw [hc1, ← List.getElem?_eq_getElem, List.getElem?_map, show (((P.length + (S1'.length + (0 + 1)) : Nat) : Int)).toNat = P.length + S1'.length + 1 by omega, gx]; rfl) ?_
        refine Idx.rd (h1.tells Tells.own) (by omega) (by omega) fun q2 hq2 hc2 => ?_
        refine Ld.sc (s := .int .i64) y (by
          rw [hc2, ← List.getElem?_eq_getElem, List.getElem?_map, show (((P.length + (S1'.length + (0 + 1)) : Nat) : Int) - 1).toNat = P.length + S1'.length by omega, gy]; rfl) ?_
        refine hc [_] w1 x y _ h1 (hD y (hSin y (by simp))) (hD x hxin) fun z w2 hz h2 => ?_
        have hyx := ord_of (key := key) (hless y (by simp))
        refine IfB.mk (fun hneg => ?_) (fun hpos => ?_)
        · have hneg := hyx.1.1 (hz.1 (of_decide_eq_true hneg))
          refine Drw.mk h2 fun w3 h3 => ?_
          refine exch_dn (P := P ++ S1') (Q := S2 ++ L.drop (k + 1) ++ Q) (x := y) (y := x) (by rw [← hform]; exact h3) (by simp; omega) (by simp; omega) fun w4 h4 => ?_
          refine ⟨⟨S1', y :: S2, by omega, by simp, ?_, by simpa using h4⟩, by omega⟩
          intro z hz
          rcases List.mem_cons.1 hz with rfl | hz
          · exact hneg
          · exact hS2 z hz
        · have hpos := hyx.2.1 (fun hk => (of_decide_eq_false hpos) (hz.2 hk))
          exact fin w2 (sd_snoc (List.pairwise_append.1 hsd).1 hpos) h2
    · have hle := of_decide_eq_false hle
      have : S1 = [] := List.length_eq_zero_iff.1 (by omega)
      subst this
      exact fin w1 (by simp) h1
  · have hge : L.length ≤ k := by have := of_decide_eq_false hge; omega
    rw [List.take_of_length_le hge] at hS
    rw [List.drop_eq_nil_of_le hge] at hh
    exact hK S _ hS hsd (by simpa using hh)
end
end Go.Proofs.Ytajpnkioigcejaa
