/-
  Totals, and what Valid, Order, Total and put of the reference winepressref07 compute. Conditions: as each theorem states.
-/
import Derived.Test.YtcidpcahgkngjaaPm3
namespace Go.Srt
def dotT (u l : List Nat) (k : Nat) : Nat := Pm.over k fun s => u.getD s 0 * l.getD s 0
theorem dotT_le {u l : List Nat} (hu : MaxT u) (hl : ∀ y ∈ l, y < 256) : ∀ k, dotT u l k ≤ 547608330240 * k
  | 0 => by simp [dotT, Pm.over]
  | k + 1 => by
    have ih := dotT_le hu hl k
    unfold dotT at *
    rw [Pm.over_succ]
    have h1 : u.getD k 0 ≤ 2147483647 := by
      rw [List.getD_eq_getElem?_getD]
      cases h : u[k]? with
      | none => simp
      | some y => exact hu y (List.mem_of_getElem? h)
    have h2 : l.getD k 0 ≤ 255 := by
      rw [List.getD_eq_getElem?_getD]
      cases h : l[k]? with
      | none => simp
      | some y => have := hl y (List.mem_of_getElem? h); simp; omega
    have := Nat.mul_le_mul h1 h2
    omega
theorem getD_max {u : List Nat} (hu : MaxT u) (k : Nat) : u.getD k 0 ≤ 2147483647 := by
  rw [List.getD_eq_getElem?_getD]
  cases h : u[k]? with
  | none => simp
  | some y => exact hu y (List.mem_of_getElem? h)
theorem getD_byte {l : List Nat} (hl : ∀ y ∈ l, y < 256) (k : Nat) : l.getD k 0 < 256 := by
  rw [List.getD_eq_getElem?_getD]
  cases h : l[k]? with
  | none => simp
  | some y => exact hl y (List.mem_of_getElem? h)
/-- a symbol is inserted in order -/
theorem ord_insert {l ys : List Nat} {s k : Nat} (hp : ys.Perm ((List.range s).filter fun s => decide (0 < l.getD s 0))) (ho : ys.Pairwise fun a b => l.getD a 0 < l.getD b 0 ∨ (l.getD a 0 = l.getD b 0 ∧ a < b)) (hk : k ≤ ys.length)
    (h1 : ∀ j (hj : j < ys.length), k ≤ j → l.getD s 0 < l.getD ys[j] 0) (h2 : k = 0 ∨ ∃ h : k - 1 < ys.length, l.getD ys[k - 1] 0 ≤ l.getD s 0) :
    (ys.take k ++ s :: ys.drop k).Pairwise fun a b => l.getD a 0 < l.getD b 0 ∨ (l.getD a 0 = l.getD b 0 ∧ a < b) := by
  have hlt : ∀ x ∈ ys, x < s := fun x hx => by
    have := (List.mem_filter.1 (hp.mem_iff.1 hx)).1
    simpa using this
  have hA : ∀ x ∈ ys.take k, l.getD x 0 ≤ l.getD s 0 := by
    intro x hx
    obtain ⟨i, hi, rfl⟩ := List.getElem_of_mem hx
    rw [List.length_take] at hi
    rw [List.getElem_take]
    rcases h2 with h2 | ⟨hk1, h2⟩
    · omega
    · by_cases e : i = k - 1
      · subst e; exact h2
      · have := (List.pairwise_iff_getElem.1 ho) i (k - 1) (by omega) hk1 (by omega)
        omega
  have hB : ∀ x ∈ ys.drop k, l.getD s 0 < l.getD x 0 := by
    intro x hx
    obtain ⟨i, hi, rfl⟩ := List.getElem_of_mem hx
    rw [List.length_drop] at hi
    rw [List.getElem_drop]
    exact h1 _ (by omega) (by omega)
  have hs : (ys.take k ++ ys.drop k).Pairwise fun a b => l.getD a 0 < l.getD b 0 ∨ (l.getD a 0 = l.getD b 0 ∧ a < b) := by rw [List.take_append_drop]; exact ho
  obtain ⟨p1, p2, p3⟩ := List.pairwise_append.1 hs
  refine List.pairwise_append.2 ⟨p1, List.pairwise_cons.2 ⟨fun x hx => .inl (hB x hx), p2⟩, fun x hx y hy => ?_⟩
  rcases List.mem_cons.1 hy with rfl | hy
  · have h3 := hA x hx
    have h4 := hlt x (List.mem_of_mem_take hx)
    omega
  · exact p3 x hx y hy
end Go.Srt
namespace Go.Proofs.Ytcidpcahgkngjaa
open Go Go.Vc Go.Srt Go.Pm
section
variable {E w : World} {F : List HP}
set_option maxRecDepth 20000 in
theorem pmTotal_c {t : List Int} {l : List Nat} {K : Int → World → Prop} (h : Hp E w F) (ht : t.length = 258) (hl : l.length = 258) (hlb : ∀ y ∈ l, y < 256) (hK1 : validT t = false → ∀ w', Hp E w' F → K 0 w')
    (hK2 : ∀ u, t = ints u → MaxT u → ∀ w', Hp E w' F → K (dotT u l 258 : Int) w') : Cl Try.prog [kI] n_packagemerge_Total ⟨[.agg (aT t), .agg (ai .u8 l)]⟩ w K := by
  refine packagemerge_Total.ok _ _ _ _ ?_
  unfold packagemerge_Total.E
  refine Nw.mk h fun b w1 h1 => Nw.mk h1 fun b2 w2 h2 => Ld.arr h2.p1 (by rw [aT_size, ht]) (pmValid_c h2 ht fun w3 h3 => ?_)
  refine IfB.mk (fun hv => hK1 (by simpa using hv) w3 h3.drop.drop) (fun hv => ?_)
  have hv : validT t = true := by simpa using hv
  obtain ⟨u, rfl, hm⟩ := valid_ints hv
  rw [ints_len] at ht
  rw [aT_ints] at h3
  refine Ld.arr h3 (by rw [ai_size, hl]) ?_
  refine ⟨fun n i w' => ∃ k : Nat, i = (k : Int) ∧ k ≤ 258 ∧ n = (dotT u l k : Int) ∧ Hp E w' (Blk b2 (.cells (ai .u8 l) 23 (0, 0)) :: Blk b (.cells (ai .i64 u) 39 (0, 0)) :: F), fun _ i _ => 258 - i.toNat, ⟨0, rfl, by omega, rfl, h3⟩, ?_⟩
  rintro n i w' ⟨k, rfl, hk, rfl, hh⟩
  refine IfB.mk (fun hlt => ?_) (fun hge => ?_)
  · have hlt : k < 258 := by have := of_decide_eq_true hlt; omega
    refine IdxV.rd (s := .int .u8) (by omega) (by omega) _ (getI (by omega)) ?_
    refine IdxP.rd (s := .int .i64) hh.p1 (by omega) (by omega) _ (getI (by omega)) ?_
    have h1 := getD_max hm k
    have h2 := getD_byte hlb k
    have h3 := dotT_le hm hlb (k + 1)
    have hs : dotT u l (k + 1) = dotT u l k + u.getD k 0 * l.getD k 0 := over_succ ..
    have hmul : (u.getD k 0 : Int) * (l.getD k 0 : Int) = ((u.getD k 0 * l.getD k 0 : Nat) : Int) := by push_cast; rfl
    rw [i64_id (x := (l.getD k 0 : Int)) (by omega), hmul, i64_id (x := ((u.getD k 0 * l.getD k 0 : Nat) : Int)) (by omega), i64_id (x := (dotT u l k : Int) + _) (by omega), i64_id (by omega)]
    exact ⟨⟨k + 1, rfl, by omega, by omega, hh⟩, by dsimp only; omega⟩
  · have hge : k = 258 := by have := of_decide_eq_false hge; omega
    subst hge
    exact hK2 u rfl hm _ hh.drop.drop
set_option maxRecDepth 20000 in
theorem rValid_c {t : List Int} {K : Bool → World → Prop} (h : Hp E w F) (hl : t.length = 258) (hK : ∀ w', Hp E w' F → K (validT t) w') : Cl Try.prog [kB] n_ref07_Valid ⟨[.agg (aT t)]⟩ w K := by
  refine ref07_Valid.ok _ _ _ ?_
  unfold ref07_Valid.E
  refine Nw.mk h fun b w1 h1 => ?_
  refine ⟨fun i w' => ∃ k : Nat, i = (k : Int) ∧ k ≤ 258 ∧ validT (t.take k) = true ∧ Hp E w' (Blk b (.cells (aT t) 39 (0, 0)) :: F), fun i _ => 258 - i.toNat, ⟨0, rfl, by omega, rfl, h1⟩, ?_⟩
  rintro i w' ⟨k, rfl, hk, hv, hh⟩
  refine IfB.mk (fun hlt => ?_) (fun hge => ?_)
  · have hlt : k < 258 := by have := of_decide_eq_true hlt; omega
    have hkl : k < t.length := by omega
    have es : validT (t.take (k + 1)) = (validT (t.take k) && (decide (0 ≤ t[k]) && decide (t[k] ≤ 2147483647))) := by
      unfold validT
      rw [List.take_add_one, List.all_append, List.getElem?_eq_getElem hkl]; simp
    rw [hv, Bool.true_and] at es
    have bad : (decide (0 ≤ t[k]) && decide (t[k] ≤ 2147483647)) = false → K false w' := fun hb => by
      rw [← es] at hb
      have e1 : validT t = false := by
        have := List.take_append_drop (k + 1) t
        rw [← this]
        unfold validT at hb ⊢
        rw [List.all_append, hb, Bool.false_and]
      have := hK w' hh.drop
      rw [e1] at this; exact this
    have hx : (aT t)[((k : Nat) : Int).toNat]? = some (Sc.enc (.int .i64) t[k]) := by rw [Int.toNat_natCast]; exact aT_get hkl
    refine IdxP.rd (s := .int .i64) hh (by omega) (by omega) _ hx ?_
    refine IfB.mk (fun hb => bad (by have := of_decide_eq_true hb; simp; omega)) (fun hb => ?_)
    refine IdxP.rd (s := .int .i64) hh (by omega) (by omega) _ hx ?_
    refine IfB.mk (fun hb2 => bad (by have := of_decide_eq_true hb2; simp; omega)) (fun hb2 => ?_)
    have hb := of_decide_eq_false hb
    have hb2 := of_decide_eq_false hb2
    rw [i64_id (by omega)]
    exact ⟨⟨k + 1, rfl, by omega, by rw [es]; simp; omega, hh⟩, by dsimp only; omega⟩
  · have hge : k = 258 := by have := of_decide_eq_false hge; omega
    subst hge
    have := hK w' hh.drop
    rw [List.take_of_length_le (by omega)] at hv
    rw [hv] at this; exact this
set_option maxRecDepth 20000 in
theorem rTotal_c {t : List Int} {l : List Nat} {K : Int → World → Prop} (h : Hp E w F) (ht : t.length = 258) (hl : l.length = 258) (hlb : ∀ y ∈ l, y < 256) (hK1 : validT t = false → ∀ w', Hp E w' F → K 0 w')
    (hK2 : ∀ u, t = ints u → MaxT u → ∀ w', Hp E w' F → K (dotT u l 258 : Int) w') : Cl Try.prog [kI] n_ref07_Total ⟨[.agg (aT t), .agg (ai .u8 l)]⟩ w K := by
  refine ref07_Total.ok _ _ _ _ ?_
  unfold ref07_Total.E
  refine Nw.mk h fun b w1 h1 => Nw.mk h1 fun b2 w2 h2 => ?_
  refine ⟨fun n i w' => ∃ k : Nat, i = (k : Int) ∧ k ≤ 258 ∧ (k = 0 ∧ n = 0 ∨ ∃ u, t = ints u ∧ MaxT u ∧ n = (dotT u l k : Int)) ∧ Hp E w' (Blk b2 (.cells (ai .u8 l) 23 (0, 0)) :: Blk b (.cells (aT t) 39 (0, 0)) :: F), fun _ i _ => 258 - i.toNat, ⟨0, rfl, by omega, .inl ⟨rfl, rfl⟩, h2⟩, ?_⟩
  rintro n i w' ⟨k, rfl, hk, hn, hh⟩
  refine IfB.mk (fun hlt => ?_) (fun hge => ?_)
  · have hlt : k < 258 := by have := of_decide_eq_true hlt; omega
    refine Ld.arr hh.p1 (by rw [aT_size, ht]) (rValid_c hh ht fun w3 h3 => IfB.mk (fun hv => ?_) (fun hv => ?_))
    · obtain ⟨u, rfl, hm⟩ := valid_ints hv
      have hn : n = (dotT u l k : Int) := by
        rcases hn with ⟨rfl, rfl⟩ | ⟨u', hu, _, rfl⟩
        · rfl
        · have : u = u' := (List.map_inj_right (fun x y h => by have h : (x : Int) = (y : Int) := h; omega)).1 hu
          rw [this]
      subst hn
      rw [ints_len] at ht
      have h3 := h3
      rw [aT_ints] at h3
      refine Drw.mk h3 fun w4 h4 => ?_
      refine IdxP.rd (s := .int .i64) h4.p1 (by omega) (by omega) _ (getI (by omega)) ?_
      refine IdxP.rd (s := .int .u8) h4 (by omega) (by omega) _ (getI (by omega)) ?_
      have h1 := getD_max hm k
      have h2 := getD_byte hlb k
      have h5 := dotT_le hm hlb (k + 1)
      have hs : dotT u l (k + 1) = dotT u l k + u.getD k 0 * l.getD k 0 := over_succ ..
      have hmul : (u.getD k 0 : Int) * (l.getD k 0 : Int) = ((u.getD k 0 * l.getD k 0 : Nat) : Int) := by push_cast; rfl
      rw [i64_id (x := (l.getD k 0 : Int)) (by omega), hmul, i64_id (x := ((u.getD k 0 * l.getD k 0 : Nat) : Int)) (by omega), i64_id (x := (dotT u l k : Int) + _) (by omega), i64_id (by omega)]
      exact ⟨⟨k + 1, rfl, by omega, .inr ⟨u, rfl, hm, by omega⟩, by rw [aT_ints]; exact h4⟩, by dsimp only; omega⟩
    · rcases hn with ⟨rfl, rfl⟩ | ⟨u, rfl, hm, _⟩
      · exact hK1 hv w3 h3.drop.drop
      · rw [ints_valid hm] at hv; cases hv
  · have hge : k = 258 := by have := of_decide_eq_false hge; omega
    subst hge
    rcases hn with ⟨h0, _⟩ | ⟨u, rfl, hm, rfl⟩
    · cases h0
    · exact hK2 u rfl hm _ hh.drop.drop
def gN (x : Nat) : List Value := [vI (x : Int)]
theorem gN_len : ∀ x, (gN x).length = 1 := fun _ => rfl
theorem gN_sc : ∀ x, ∀ y ∈ gN x, scalarB y = true := by
  intro x y hy
  have : y = vI (x : Int) := by simpa [gN] using hy
  rw [this]; rfl
theorem gN_eq (ys : List Nat) : (ints ys).map vI = ys.flatMap gN := by
  unfold ints
  induction ys with
  | nil => rfl
  | cons y ys ih => rw [List.flatMap_cons, ← ih]; rfl
/-- three appends: a part of a slice, one element, the rest of the slice -/
theorem splice_c {P : Program} {α : Type} {g : α → List Value} {sz bytes : Nat} {t e : TypeId} {e2 : TypeId} {s : Sl} {l : List α} {x : α} {k : Nat} {K : Sl → World → Prop} (he : ElemT P t e sz bytes) (hg : ∀ x, (g x).length = sz) (hz : 0 < sz) (hsc : ∀ x, ∀ y ∈ g x, scalarB y = true)
    {A : List HP} (h : Hp E w (A ++ F)) (hs : Tells A (SlT sz s (l.flatMap g))) (hcap : s.len ≤ s.cap) (hk : k ≤ l.length) (hlen : l.length ≤ 2 ^ 20) (hby : bytes ≤ 1024) {cs : Array Value} (hcs : cs = ⟨g x⟩)
    (hK : ∀ s' w', Hp E w' (OwnS sz s' ((l.take k ++ x :: l.drop k).flatMap g) :: (A ++ F)) → K s' w') :
    Slc s 0 (k : Int) s.cap sz fun s1 => Run P (Builtin.append_ #[t, t] t ⟨[.slice none 0 0, .slice s1.base s1.len s1.cap]⟩) kS w fun s2 w2 =>
      Nw e2 cs w2 fun b w3 => Run P (Builtin.append_ #[t, t] t ⟨[.slice s2.base s2.len s2.cap, .slice (some ⟨b, 0, none⟩) 1 1]⟩) kS w3 fun s3 w4 =>
      Slc s (k : Int) s.len s.cap sz fun s4 => Run P (Builtin.append_ #[t, t] t ⟨[.slice s3.base s3.len s3.cap, .slice s4.base s4.len s4.cap]⟩) kS w4 K := by
  have hsT : Tells (A ++ F) (SlT sz s (l.flatMap g)) := hs.appL
  have hl := SlT.len hg hz (h.tells hsT)
  have hb : ∀ n, n ≤ 2 * l.length + 4 → (2 * n + 1024) * bytes ≤ 2 ^ 48 := fun n hn => by
    have : (2 * n + 1024) * bytes ≤ 8388608 * 1024 := Nat.mul_le_mul (by omega) hby
    omega
  refine Slc.el (a := 0) (b := k) (l := l) hg hl rfl rfl (by omega) hk (by omega) (Int.le_refl _) fun s1 hs1 hl1 _ => ?_
  have h1 := hs1 w (h.tells hsT)
  simp only [List.drop_zero, Nat.sub_zero] at h1
  refine appN (s := ⟨none, 0, 0⟩) (l := []) he hg hz hsc (h.ownNil sz) h1 (hb _ (by simp; omega)) (by simp; omega) fun s2 w2 h2 _ => ?_
  rw [List.nil_append] at h2
  refine app1 (g := g) (x := x) he hg hz hcs (hsc x) h2 (hb _ (by simp; omega)) (by simp; omega) fun s3 w3 h3 _ => ?_
  refine Slc.el (a := k) (b := l.length) (l := l) hg hl rfl (by rw [hl]) hk (Nat.le_refl _) (by omega) (Int.le_refl _) fun s4 hs4 hl4 _ => ?_
  have h4 := hs4 w3 (h3.drop.tells hsT)
  rw [List.take_of_length_le (by rw [List.length_drop]; omega)] at h4
  refine appN he hg hz hsc h3 h4 (hb _ (by simp; omega)) (by simp; omega) fun s5 w5 h5 _ => hK s5 w5 ?_
  rw [List.append_assoc] at h5
  exact h5
end
end Go.Proofs.Ytcidpcahgkngjaa
