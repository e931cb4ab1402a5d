/-
  What the stable sort of package slices does to an ascending slice of integers: it sorts it by key, and by number among equal keys. Conditions: as each theorem states.
-/
import Derived.Test.YtajpnkioigcejaaSym
namespace Go.Srt
/-- Y is X, sorted block by block -/
inductive Ck (key : Int → Int) (sz : Nat) : List Int → List Int → Prop where
  | nil : Ck key sz [] []
  | last (A B : List Int) (h1 : A.length < sz) (h2 : B.Perm A) (h3 : Sd key B) : Ck key sz A B
  | cons (A B X Y : List Int) (h1 : A.length = sz) (h2 : B.Perm A) (h3 : Sd key B) (h4 : Ck key sz X Y) : Ck key sz (A ++ X) (B ++ Y)
theorem Ck.len {key : Int → Int} {sz : Nat} {X Y : List Int} (h : Ck key sz X Y) : Y.length = X.length := by
  induction h with
  | nil => rfl
  | last A B h1 h2 h3 => exact h2.length_eq
  | cons A B X Y h1 h2 h3 h4 ih => simp [h2.length_eq, ih]
theorem Ck.one {key : Int → Int} {sz : Nat} {X Y : List Int} (h : Ck key sz X Y) (hl : X.length ≤ sz) : Y.Perm X ∧ Sd key Y := by
  cases h with
  | nil => exact ⟨List.Perm.refl _, List.Pairwise.nil⟩
  | last _ _ h1 h2 h3 => exact ⟨h2, h3⟩
  | cons A B X Y h1 h2 h3 h4 =>
    rw [List.length_append] at hl
    have hX : X = [] := List.length_eq_zero_iff.1 (by omega)
    have hY : Y = [] := List.length_eq_zero_iff.1 (by rw [h4.len, hX]; rfl)
    subst hX; subst hY
    simpa using ⟨h2, h3⟩
theorem Ck.first {key : Int → Int} {sz : Nat} {X Y : List Int} (h : Ck key sz X Y) (hl : sz ≤ X.length) (h0 : 0 < sz) : ∃ A B X' Y', X = A ++ X' ∧ Y = B ++ Y' ∧ A.length = sz ∧ B.Perm A ∧ Sd key B ∧ Ck key sz X' Y' := by
  cases h with
  | nil => simp at hl; omega
  | last _ _ h1 h2 h3 => omega
  | cons A B X Y h1 h2 h3 h4 => exact ⟨A, B, X, Y, rfl, rfl, h1, h2, h3, h4⟩
end Go.Srt
namespace Go.Proofs.Ytajpnkioigcejaa
open Go Go.Vc Go.Srt
section
variable {E w : World} {F : List HP}
theorem asc_lt {A1 A2 B1 B2 : List Int} (h : (A1 ++ A2).Pairwise (· < ·)) (p1 : B1.Perm A1) (p2 : B2.Perm A2) : ∀ x ∈ B1, ∀ y ∈ B2, x < y :=
  fun x hx y hy => (List.pairwise_append.1 h).2.2 x (p1.mem_iff.1 hx) y (p2.mem_iff.1 hy)
theorem stable_c {s : Sl} {xs : List Int} {fv : Value} {key : Int → Int} {D : Int → Prop} {n : Int} {K : World → Prop} (h : Hp E w (OwnS 1 s (xs.map vI) :: F)) (hbig : xs.length ≤ big)
    (hc : CmpOk E F fv key D) (hD : ∀ x ∈ xs, D x) (hL : xs.Pairwise (· < ·)) (hn : n = (xs.length : Int))
    (hK : ∀ ys w', ys.Perm xs → Sd key ys → Hp E w' (OwnS 1 s (ys.map vI) :: F) → K w') :
    Cl Try.prog [] n_slices_stableCmpFunc_int ⟨[.slice s.base s.len s.cap, .int .i64 n, fv]⟩ w K := by
  subst hn
  refine slices_stableCmpFunc_int.ok _ _ _ _ _ ?_
  unfold slices_stableCmpFunc_int.E
  have hbg := hbig
  rw [big_eq] at hbig
  refine ⟨fun a b w' => ∃ Xd Z X : List Int, a = (Xd.length : Int) ∧ b = ((Xd.length + 20 : Nat) : Int) ∧ xs = Xd ++ X ∧ Z.length = Xd.length ∧ (∀ X' Y', Ck key 20 X' Y' → Ck key 20 (Xd ++ X') (Z ++ Y')) ∧ Hp E w' (OwnS 1 s ((Z ++ X).map vI) :: F),
    fun a _ _ => xs.length - a.toNat, ⟨[], [], xs, rfl, rfl, rfl, rfl, fun X' Y' h => h, h⟩, ?_⟩
  rintro a b w' ⟨Xd, Z, X, rfl, rfl, hxs, hZ, hck, hh⟩
  have hlen : xs.length = Xd.length + X.length := by rw [hxs, List.length_append]
  have hX : ∀ x ∈ X, x ∈ xs := fun x hx => by rw [hxs]; exact List.mem_append_right _ hx
  have hasc : X.Pairwise (· < ·) := by rw [hxs] at hL; exact (List.pairwise_append.1 hL).2.1
  refine IfB.mk (fun hle => ?_) (fun hgt => ?_)
  · have hle := of_decide_eq_true hle
    have e : X.take 20 ++ X.drop 20 = X := List.take_append_drop _ _
    have l1 : (X.take 20).length = 20 := by simp; omega
    generalize X.take 20 = A at e l1
    generalize X.drop 20 = X2 at e
    subst e
    rw [List.length_append] at hlen
    refine insertion_c (P := Z) (L := A) (Q := X2) (key := key) (D := D) (by simpa only [List.append_assoc] using hh) (by rw [big_eq]; simp only [List.length_append]; omega) hc (fun x hx => hD x (hX x (List.mem_append_left _ hx))) (List.pairwise_append.1 hasc).1
      (by omega) (by simp only [List.length_append]; omega) fun M w2 p1 s1 h2 => ?_
    rw [i64_id (by omega)]
    refine ⟨⟨Xd ++ A, Z ++ M, X2, by simp only [List.length_append]; omega, by simp only [List.length_append]; omega, by rw [hxs, List.append_assoc], by simp only [List.length_append]; rw [p1.length_eq]; omega, fun X' Y' hk => ?_, h2⟩, by dsimp only; omega⟩
    rw [List.append_assoc, List.append_assoc]
    exact hck _ _ (.cons A M X' Y' l1 p1 s1 hk)
  · have hgt := of_decide_eq_false hgt
    refine insertion_c (P := Z) (L := X) (Q := []) (key := key) (D := D) (by simpa using hh) (by rw [big_eq]; simp only [List.length_append, List.length_nil]; omega) hc (fun x hx => hD x (hX x hx)) hasc
      (by omega) (by simp only [List.length_append]; omega) fun M w2 p1 s1 h2 => ?_
    have hck := hck _ _ (.last X M (by omega) p1 s1)
    rw [← hxs] at hck
    refine ⟨fun bs w' => ∃ (sz : Nat) (ys : List Int), bs = (sz : Int) ∧ 20 ≤ sz ∧ sz ≤ 2 * big ∧ Ck key sz xs ys ∧ Hp E w' (OwnS 1 s (ys.map vI) :: F), fun bs _ => xs.length - bs.toNat, ⟨20, Z ++ M, rfl, by omega, by rw [big_eq]; omega, hck, by simpa using h2⟩, ?_⟩
    rintro bs w' ⟨sz, ys, rfl, hsz, hszb, hck, hh⟩
    rw [big_eq] at hszb
    refine IfB.mk (fun hlt => ?_) (fun hge => ?_)
    · have hlt := of_decide_eq_true hlt
      have hlt : sz < xs.length := by omega
      refine ⟨fun a b w' => ∃ Xd Z X Y : List Int, a = (Xd.length : Int) ∧ b = ((Xd.length + 2 * sz : Nat) : Int) ∧ xs = Xd ++ X ∧ Z.length = Xd.length ∧ Ck key sz X Y ∧ (∀ X' Y', Ck key (2 * sz) X' Y' → Ck key (2 * sz) (Xd ++ X') (Z ++ Y')) ∧ Hp E w' (OwnS 1 s ((Z ++ Y).map vI) :: F),
        fun a _ _ => xs.length - a.toNat, ⟨[], [], xs, ys, rfl, ?_, rfl, rfl, hck, fun X' Y' h => h, hh⟩, ?_⟩
      · rw [i64_id (by omega)]; simp
      rintro a b w' ⟨Xd, Z, X, Y, rfl, rfl, hxs, hZ, hck, hco, hh⟩
      have hlen : xs.length = Xd.length + X.length := by rw [hxs, List.length_append]
      have hX : ∀ x ∈ X, x ∈ xs := fun x hx => by rw [hxs]; exact List.mem_append_right _ hx
      have hasc : X.Pairwise (· < ·) := by rw [hxs] at hL; exact (List.pairwise_append.1 hL).2.1
      rw [i64_id (x := (Xd.length : Int) + (sz : Int)) (by omega), i64_id (x := (sz : Int) * 2) (by omega)]
      have next : ∀ (w2 : World) (ys : List Int), Ck key (2 * sz) xs ys → Hp E w2 (OwnS 1 s (ys.map vI) :: F) →
          (∃ (sz_1 : Nat) (ys : List Int), (sz : Int) * 2 = (sz_1 : Int) ∧ 20 ≤ sz_1 ∧ sz_1 ≤ 2 * big ∧ Ck key sz_1 xs ys ∧ Hp E w2 (OwnS 1 s (ys.map vI) :: F)) ∧ xs.length - ((sz : Int) * 2).toNat < xs.length - ((sz : Int)).toNat :=
        fun w2 ys h1 h2 => ⟨⟨2 * sz, ys, by omega, by omega, by rw [big_eq]; omega, h1, h2⟩, by omega⟩
      refine IfB.mk (fun hle => ?_) (fun hgt => ?_)
      · have hle := of_decide_eq_true hle
        obtain ⟨A1, B1, X1, Y1, rfl, rfl, a1, b1, c1, hck1⟩ := hck.first (by omega) (by omega)
        rw [List.length_append] at hlen
        obtain ⟨A2, B2, X2, Y2, rfl, rfl, a2, b2, c2, hck2⟩ := hck1.first (by omega) (by omega)
        rw [List.length_append] at hlen
        have hasc12 : (A1 ++ A2).Pairwise (· < ·) := by rw [← List.append_assoc] at hasc; exact (List.pairwise_append.1 hasc).1
        have lb1 := b1.length_eq
        have lb2 := b2.length_eq
        have lY2 := hck2.len
        rw [i64_id (x := 2 * (sz : Int)) (by omega), i64_id (by omega)]
        refine symmerge_c hc (B1.length + B2.length) (P := Z) (L := B1) (R := B2) (Q := Y2) (Nat.le_refl _) (by simpa only [List.append_assoc] using hh) (by rw [big_eq]; simp only [List.length_append]; omega)
          (fun e => by rw [e] at lb1; simp at lb1; omega) (fun e => by rw [e] at lb2; simp at lb2; omega) c1 c2 (asc_lt hasc12 b1 b2) (fun x hx => hD x (hX x (by simp [b1.mem_iff.1 hx]))) (fun x hx => hD x (hX x (by simp [b2.mem_iff.1 hx])))
          (by omega) (by omega) (by omega) fun M w2 p1 s1 h2 => ?_
        have pM : M.Perm (A1 ++ A2) := p1.trans (List.Perm.append b1 b2)
        refine ⟨⟨Xd ++ (A1 ++ A2), Z ++ M, X2, Y2, by simp only [List.length_append]; omega, by simp only [List.length_append]; omega, by rw [hxs]; simp only [List.append_assoc], by simp only [List.length_append]; rw [pM.length_eq, List.length_append]; omega, hck2, fun X' Y' hk => ?_, h2⟩, by dsimp only; omega⟩
        rw [List.append_assoc Xd, List.append_assoc Z]
        exact hco _ _ (.cons (A1 ++ A2) M X' Y' (by rw [List.length_append]; omega) pM s1 hk)
      · have hgt := of_decide_eq_false hgt
        refine IfB.mk (fun hm => ?_) (fun hm => ?_)
        · have hm := of_decide_eq_true hm
          obtain ⟨A1, B1, X1, Y1, rfl, rfl, a1, b1, c1, hck1⟩ := hck.first (by omega) (by omega)
          rw [List.length_append] at hlen
          obtain ⟨b2, c2⟩ := hck1.one (by omega)
          have lb1 := b1.length_eq
          have lb2 := b2.length_eq
          refine symmerge_c hc (B1.length + Y1.length) (P := Z) (L := B1) (R := Y1) (Q := []) (Nat.le_refl _) (by simpa using hh) (by rw [big_eq]; simp only [List.length_append, List.length_nil]; omega)
            (fun e => by rw [e] at lb1; simp at lb1; omega) (fun e => by rw [e] at lb2; simp at lb2; omega) c1 c2 (asc_lt hasc b1 b2) (fun x hx => hD x (hX x (by simp [b1.mem_iff.1 hx]))) (fun x hx => hD x (hX x (by simp [b2.mem_iff.1 hx])))
            (by omega) (by omega) (by omega) fun M w2 p1 s1 h2 => ?_
          have pM : M.Perm (A1 ++ X1) := p1.trans (List.Perm.append b1 b2)
          refine next w2 (Z ++ M) ?_ (by simpa using h2)
          rw [hxs]
          exact hco _ _ (.last _ M (by rw [List.length_append]; omega) pM s1)
        · have hm := of_decide_eq_false hm
          obtain ⟨p1, s1⟩ := hck.one (by omega)
          refine next w' (Z ++ Y) ?_ hh
          rw [hxs]
          exact hco _ _ (.last _ Y (by omega) p1 s1)
    · have hge := of_decide_eq_false hge
      obtain ⟨p1, s1⟩ := hck.one (by omega)
      exact hK ys w' p1 s1 hh
theorem sortStable_c {s : Sl} {xs : List Int} {fv : Value} {key : Int → Int} {D : Int → Prop} {K : World → Prop} (h : Hp E w (OwnS 1 s (xs.map vI) :: F)) (hbig : xs.length ≤ big)
    (hc : CmpOk E F fv key D) (hD : ∀ x ∈ xs, D x) (hL : xs.Pairwise (· < ·))
    (hK : ∀ ys w', ys.Perm xs → Sd key ys → Hp E w' (OwnS 1 s (ys.map vI) :: F) → K w') :
    Cl Try.prog [] n_slices_SortStableFunc_int_int ⟨[.slice s.base s.len s.cap, fv]⟩ w K := by
  refine slices_SortStableFunc_int_int.ok _ _ _ _ ?_
  unfold slices_SortStableFunc_int_int.E
  have hl := h.ownLen
  simp only [List.length_map, Nat.mul_one] at hl
  exact stable_c h hbig hc hD hL (by omega) hK
end
end Go.Proofs.Ytajpnkioigcejaa
