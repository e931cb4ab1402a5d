/-
  winepressref17: contracts. Conditions: as each theorem states.
-/
import Derived.Test.YtbldlpljfppmgaaBw3
import Derived.Test.YtbldlpljfppmgaaFref17
namespace Go.Proofs.Ytbldlpljfppmgaa
open Go Go.Vc Go.Bw Go.Hs
section
variable {E w : World} {F : List HP}
set_option maxRecDepth 20000 in
theorem rLess17_c {t : List Nat} {s : Sl} {i k : Int} {K : Bool → World → Prop} (h : Hp E w F) (hs : Tells F (SlT 1 s (t.map vB))) (hn : t.length ≤ big) (hK : ∀ w', Hp E w' F → K (lessI t i k) w') :
    Cl Try.prog [kB] n_ref17_Less ⟨[.slice s.base s.len s.cap, .int .i64 i, .int .i64 k]⟩ w K := by
  refine ref17_Less.ok _ _ _ _ _ ?_
  unfold ref17_Less.E
  simp only [Join_eq]
  have hl := (h.tells hs).1
  simp only [List.length_map, Nat.mul_one] at hl
  rw [big_eq] at hn
  have no : ¬ (0 ≤ i ∧ i ≤ t.length ∧ 0 ≤ k ∧ k ≤ t.length) → K false w := fun hn => by
    have := hK w h
    unfold lessI at this
    rwa [decide_eq_false hn, Bool.false_and] at this
  refine IfB.mk (fun g => no (by have := of_decide_eq_true g; omega)) (fun g1 => IfB.mk (fun g => no (by have := of_decide_eq_true g; omega)) (fun g2 => IfB.mk (fun g => no (by have := of_decide_eq_true g; omega)) (fun g3 => IfB.mk (fun g => no (by have := of_decide_eq_true g; omega)) (fun g4 => ?_))))
  have g1 := of_decide_eq_false g1
  have g2 := of_decide_eq_false g2
  have g3 := of_decide_eq_false g3
  have g4 := of_decide_eq_false g4
  obtain ⟨a0, rfl⟩ := Int.eq_ofNat_of_zero_le (show 0 ≤ i by omega)
  obtain ⟨b0, rfl⟩ := Int.eq_ofNat_of_zero_le (show 0 ≤ k by omega)
  have hK2 : ∀ w', Hp E w' F → K (sl t a0 b0) w' := fun w' h' => by
    have := hK w' h'
    unfold lessI at this
    rwa [decide_eq_true ⟨by omega, by omega, by omega, by omega⟩, Bool.true_and, Int.toNat_natCast, Int.toNat_natCast] at this
  refine ⟨fun x y w' => ∃ a b : Nat, x = (a : Int) ∧ y = (b : Int) ∧ a ≤ t.length ∧ b ≤ t.length ∧ sl t a b = sl t a0 b0 ∧ Hp E w' F, fun x _ _ => t.length - x.toNat, ⟨a0, b0, rfl, rfl, by omega, by omega, rfl, h⟩, ?_⟩
  rintro x y w1 ⟨a, b, rfl, rfl, ha, hb, hab, h1⟩
  refine Drw.mk h1 fun w2 h2 => ?_
  have fin : (a < t.length → b < t.length → t.getD a 0 = t.getD b 0 → a = b) → IfB ((a : Int) == (b : Int)) (K false w2) (IfB ((b : Int) == (s.len : Int)) (K false w2) (Drw w2 fun w_20 => IfB ((a : Int) == (s.len : Int)) (K true w_20) (Idx s (a : Int) 1 fun q21 => Ld (kInt .u8) q21 w_20 fun x22 => Idx s (b : Int) 1 fun q23 => Ld (kInt .u8) q23 w_20 fun x24 => K (decide (x22 < x24)) w_20))) := fun hd => by
    refine IfB.mk (fun e => ?_) (fun e => IfB.mk (fun e2 => ?_) (fun e2 => Drw.mk h2 fun w3 h3 => IfB.mk (fun e3 => ?_) (fun e3 => ?_)))
    · have e : a = b := by have := beq_iff_eq.1 e; omega
      have := hK2 w2 h2
      rw [← hab, e, (sl_so t).irr] at this; exact this
    · have e2 : b = t.length := by have := beq_iff_eq.1 e2; omega
      have := hK2 w2 h2
      have e4 : sl t a b = false := by unfold sl; rw [e2, List.drop_length, lx_nil]
      rw [← hab, e4] at this; exact this
    · have e2 : b < t.length := by have := beq_eq_false_iff_ne.1 e2; omega
      have e3 : a = t.length := by have := beq_iff_eq.1 e3; omega
      have := hK2 w3 h3
      have e4 : sl t a b = true := by unfold sl; rw [e3, List.drop_length, drop_get e2]; rfl
      rw [← hab, e4] at this; exact this
    · have e := beq_eq_false_iff_ne.1 e
      have e2 : b < t.length := by have := beq_eq_false_iff_ne.1 e2; omega
      have e3 : a < t.length := by have := beq_eq_false_iff_ne.1 e3; omega
      have hne : t.getD a 0 ≠ t.getD b 0 := fun h => e (by rw [hd e3 e2 h])
      refine Idx.nB (h3.tells hs) rfl e3 (Idx.nB (h3.tells hs) rfl e2 ?_)
      have := hK2 w3 h3
      have e4 : sl t a b = decide ((t.getD a 0 : Int) < (t.getD b 0 : Int)) := by
        rw [sl_step e3 e2, beq_eq_false_iff_ne.2 hne, Bool.false_and, Bool.or_false, decide_eq_decide]; omega
      rw [← hab, e4] at this; exact this
  refine IfB.mk (fun c1 => IfB.mk (fun c2 => ?_) (fun c2 => fin fun _ hb' _ => by have := of_decide_eq_false c2; omega)) (fun c1 => fin fun ha' _ _ => by have := of_decide_eq_false c1; omega)
  have c1 : a < t.length := by have := of_decide_eq_true c1; omega
  have c2 : b < t.length := by have := of_decide_eq_true c2; omega
  refine Idx.nB (h2.tells hs) rfl c1 (Idx.nB (h2.tells hs) rfl c2 ?_)
  refine IfB.mk (fun c3 => IfB.mk (fun c4 => ?_) (fun c4 => fin fun _ _ _ => (by have h9 : (a : Int) = (b : Int) := (by simpa using c4); omega))) (fun c3 => fin fun _ _ he => absurd (by rw [he]) (beq_eq_false_iff_ne.1 c3))
  have c3 : t.getD a 0 = t.getD b 0 := by have := beq_iff_eq.1 c3; omega
  refine ⟨⟨a + 1, b + 1, by rw [i64_id (by omega)]; omega, by rw [i64_id (by omega)]; omega, by omega, by omega, ?_, h2⟩, by dsimp only; rw [i64_id (x := (a : Int) + 1) (by omega)]; omega⟩
  rw [← hab, sl_step c1 c2, c3]; simp
set_option maxRecDepth 20000 in
theorem rOrder17_c {t : List Nat} {s : Sl} {K : Sl → World → Prop} (h : Hp E w F) (hs : Tells F (SlT 1 s (t.map vB))) (hn : t.length ≤ 400000)
    (hK : ∀ s' w', Hp E w' (OwnS 1 s' ((zl (ordB t)).map vI) :: F) → K s' w') : Cl Try.prog [kS] n_ref17_Order ⟨[.slice s.base s.len s.cap]⟩ w K := by
  refine ref17_Order.ok _ _ _ ?_
  unfold ref17_Order.E
  have hl := (h.tells hs).1
  simp only [List.length_map, Nat.mul_one] at hl
  refine ⟨fun o i w' => ∃ (k : Nat) (L : List Nat), i = (k : Int) ∧ k ≤ t.length + 1 ∧ L.Perm (List.range k) ∧ L.Pairwise (fun a b => sl t a b = true) ∧ Hp E w' (OwnS 1 o ((zl L).map vI) :: F), fun _ i _ => t.length + 1 - i.toNat, ⟨0, [], rfl, by omega, List.Perm.refl _, List.Pairwise.nil, h.ownNil 1⟩, ?_⟩
  rintro o i w1 ⟨k, L, rfl, hk, hp, hpw, h1⟩
  have hLl : L.length = k := by rw [hp.length_eq, List.length_range]
  have hol := h1.ownLen
  rw [List.length_map, zl_len, Nat.mul_one] at hol
  have hcap := h1.ownCap
  refine IfB.mk (fun hlt => ?_) (fun hge => ?_)
  · have hlt : k ≤ t.length := by have := of_decide_eq_true hlt; omega
    have hin : ∀ j (hj : j < L.length), L[j] < k := fun j hj => by
      have := hp.mem_iff.1 (List.getElem_mem hj)
      rwa [List.mem_range] at this
    have hgd : ∀ j (hj : j < L.length), (zl L).getD j 0 = (L[j] : Int) := fun j hj => by simp [zl, List.getD, hj]
    refine ⟨fun c w' => ∃ m : Nat, c = (m : Int) ∧ m ≤ k ∧ (∀ j (hj : j < L.length), m ≤ j → sl t k L[j] = true) ∧ Hp E w' (OwnS 1 o ((zl L).map vI) :: F), fun c _ => c.toNat, ⟨k, by omega, by omega, fun j hj h => by omega, h1⟩, ?_⟩
    rintro c w2 ⟨m, rfl, hm, hgt, h2⟩
    have fin : ∀ {w3 : World}, Hp E w3 (OwnS 1 o ((zl L).map vI) :: F) → (m = 0 ∨ ∃ hj : m - 1 < L.length, sl t k L[m - 1] = false) →
        Slc o 0 (m : Int) (o.cap : Int) 1 fun s15 => Run Try.prog (Builtin.append_ #[24, 24] 24 ⟨[.slice none 0 0, .slice s15.base s15.len s15.cap]⟩) kS w3 fun s17 w_16 =>
          Nw 3 ⟨[.int .i64 (k : Int)]⟩ w_16 fun b19 w_18 => Run Try.prog (Builtin.append_ #[24, 24] 24 ⟨[.slice s17.base s17.len s17.cap, .slice (some ⟨b19, 0, none⟩) 1 1]⟩) kS w_18 fun s21 w_20 =>
          Slc o (m : Int) (o.len : Int) (o.cap : Int) 1 fun s22 => Run Try.prog (Builtin.append_ #[24, 24] 24 ⟨[.slice s21.base s21.len s21.cap, .slice s22.base s22.len s22.cap]⟩) kS w_20 fun s24 w_23 =>
          (∃ (k' : Nat) (L' : List Nat), i64 ((k : Int) + 1) = (k' : Int) ∧ k' ≤ t.length + 1 ∧ L'.Perm (List.range k') ∧ L'.Pairwise (fun a b => sl t a b = true) ∧ Hp E w_23 (OwnS 1 s24 ((zl L').map vI) :: F)) ∧ t.length + 1 - (i64 ((k : Int) + 1)).toNat < t.length + 1 - (k : Int).toNat := fun {w3} h3 hst => by
      refine Slc.rd (h3.tells Tells.own) (by omega) (by omega) (by omega) (by omega) (by omega) fun s15 h15 hl15 => ?_
      have ht15 : SlT 1 s15 ((zl (L.take m)).map vI) w3 := by
        have := h15 w3 (h3.tells Tells.own)
        rwa [show (0 : Int).toNat = 0 from rfl, List.drop_zero, Nat.sub_zero, Int.toNat_natCast, ← List.map_take, show (zl L).take m = zl (L.take m) by unfold zl; rw [List.map_take]] at this
      have hA := h3.ownNil 1
      refine run_append (s := ⟨none, 0, 0⟩) (ys := (zl (L.take m)).map vI) (n := m) ty_zsB (by decide) (.inl ⟨3, by kernel_rfl⟩) hA (.inl ⟨s15.base, s15.len, s15.cap, rfl, by rw [hl15]; omega, ht15⟩) (by rw [List.length_map, zl_len, List.length_take]; omega) vI_scalar (by show (2 * (0 + m) + 1024) * 8 ≤ 2 ^ 48; omega) (by show 0 + m < 2 ^ 62; omega) fun s17 w4 h4 hs17 => ?_
      rw [List.nil_append] at h4
      refine app_n ty_zsB rfl h4 (by rw [zl_len, List.length_take, big_eq]; omega) fun s21 w5 h5 hs21 => ?_
      rw [zl_len, List.length_take] at hs21
      refine Slc.rd (h5.tells (Tells.cons Tells.own)) (by omega) (by omega) (by omega) (by omega) (by omega) fun s22 h22 hl22 => ?_
      have ht22 : SlT 1 s22 ((zl (L.drop m)).map vI) w5 := by
        have := h22 w5 (h5.tells (Tells.cons Tells.own))
        rwa [Int.toNat_natCast, Int.toNat_natCast, ← List.map_drop, List.take_of_length_le (by rw [List.length_map, List.length_drop, zl_len]; omega), show (zl L).drop m = zl (L.drop m) by unfold zl; rw [List.map_drop]] at this
      refine run_append (ys := (zl (L.drop m)).map vI) (n := k - m) ty_zsB (by decide) (.inl ⟨3, by kernel_rfl⟩) h5 (.inl ⟨s22.base, s22.len, s22.cap, rfl, by rw [hl22]; omega, ht22⟩) (by rw [List.length_map, zl_len, List.length_drop]; omega) vI_scalar (by omega) (by omega) fun s24 w6 h6 hs24 => ?_
      rw [i64_id (by omega)]
      refine ⟨⟨k + 1, L.take m ++ [k] ++ L.drop m, by omega, by omega, ?_, ?_, ?_⟩, by omega⟩
      · rw [List.range_succ]
        refine (List.Perm.append_right _ List.perm_append_comm).trans ?_
        rw [List.append_assoc, List.take_append_drop]
        exact (List.perm_append_comm (l₁ := [k]) (l₂ := L)).trans (hp.append_right _)
      · have hlo : ∀ a ∈ L.take m, sl t a k = true := fun a ha => by
          obtain ⟨j, hj, rfl⟩ := List.getElem_of_mem ha
          rw [List.length_take] at hj
          rw [List.getElem_take]
          rcases hst with h0 | ⟨hj1, hf⟩
          · omega
          · have hne : L[m - 1] ≠ k := by have := hin (m - 1) hj1; omega
            have h8 : sl t L[m - 1] k = true := by
              rcases sl_tot t k (rows_mem.2 hlt) L[m - 1] (rows_mem.2 (by have := hin (m - 1) hj1; omega)) (fun e => hne e.symm) with h9 | h9
              · rw [hf] at h9; cases h9
              · exact h9
            by_cases e : j = m - 1
            · subst e; exact h8
            · exact (sl_so t).trans _ _ _ (List.pairwise_iff_getElem.1 hpw j (m - 1) (by omega) hj1 (by omega)) h8
        have hhi : ∀ b ∈ L.drop m, sl t k b = true := fun b hb => by
          obtain ⟨j, hj, rfl⟩ := List.getElem_of_mem hb
          rw [List.length_drop] at hj
          rw [List.getElem_drop]
          exact hgt _ (by omega) (by omega)
        rw [List.append_assoc]
        refine List.pairwise_append.2 ⟨hpw.sublist (List.take_sublist ..), List.pairwise_append.2 ⟨by simp, hpw.sublist (List.drop_sublist ..), fun a ha b hb => ?_⟩, fun a ha b hb => ?_⟩
        · rw [List.mem_singleton] at ha
          subst ha; exact hhi b hb
        · rcases List.mem_append.1 hb with hb | hb
          · rw [List.mem_singleton] at hb
            subst hb; exact hlo a ha
          · exact (sl_so t).trans _ _ _ (hlo a ha) (hhi b hb)
      · have e : (zl (L.take m) ++ [(k : Int)]).map vI ++ (zl (L.drop m)).map vI = (zl (L.take m ++ [k] ++ L.drop m)).map vI := by
          rw [zl_app, zl_app, List.map_append, List.map_append, List.map_append]; rfl
        rw [e] at h6
        exact h6.p1.drop
    refine IfB.mk (fun hpos => ?_) (fun hpos => fin h2 (.inl (by have := of_decide_eq_false hpos; omega)))
    have hpos : 0 < m := by have := of_decide_eq_true hpos; omega
    have e1 : i64 ((m : Int) - 1) = ((m - 1 : Nat) : Int) := by rw [i64_id (by omega)]; omega
    rw [e1]
    refine Idx.nI (h2.tells Tells.own) rfl (by rw [zl_len]; omega) ?_
    rw [hgd (m - 1) (by omega)]
    have hlm := hin (m - 1) (by omega)
    refine rLess17_c h2 (Tells.cons hs) (by rw [big_eq]; omega) fun w3 h3 => ?_
    have hle : lessI t (k : Int) (L[m - 1] : Int) = sl t k L[m - 1] := by
      unfold lessI
      rw [decide_eq_true ⟨by omega, by omega, by omega, by omega⟩, Bool.true_and, Int.toNat_natCast, Int.toNat_natCast]
    rw [hle]
    refine IfB.mk (fun hsl => ?_) (fun hsl => fin h3 (.inr ⟨by omega, hsl⟩))
    refine ⟨⟨m - 1, rfl, by omega, fun j hj hmj => ?_, h3⟩, by dsimp only; omega⟩
    by_cases e : j = m - 1
    · subst e; exact hsl
    · exact hgt j hj (by omega)
  · have hge : k = t.length + 1 := by have := of_decide_eq_false hge; omega
    subst hge
    have : L = ordB t := Rk.sorted_eq (sl_so t) (hp.trans (Rk.srt_perm (lt := sl t) (rows t)).symm) hpw (ordB_sorted t)
    rw [this] at h1
    exact hK o w1 h1
end
end Go.Proofs.Ytbldlpljfppmgaa
