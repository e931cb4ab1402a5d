/-
  What Valid, Order, leaves and next of packagemerge compute. Conditions: as each theorem states.
-/
import Derived.Test.YtcidpcahgkngjaaLaw09
import Derived.Test.YtcidpcahgkngjaaMore
import Derived.Test.YtcidpcahgkngjaaPmQ
namespace Go.Srt
def validT (t : List Int) : Bool := t.all fun x => decide (0 ≤ x) && decide (x ≤ 2147483647)
/-- a tally of numbers -/
def MaxT (l : List Nat) : Prop := ∀ x ∈ l, x ≤ 2147483647
/-- the weights of the symbols in order -/
def wsOf (l ys : List Nat) : List Nat := ys.map fun s => l.getD s 0
end Go.Srt
namespace Go.Proofs.Ytcidpcahgkngjaa
open Go Go.Vc Go.Srt Go.Pm
section
variable {E w : World} {F : List HP}
def aT (t : List Int) : Array Value := ⟨t.map vI⟩
theorem aT_size {t : List Int} : (aT t).size = t.length := by simp [aT]
theorem aT_get {t : List Int} {i : Nat} (h : i < t.length) : (aT t)[i]? = some (Sc.enc (.int .i64) t[i]) := by simp [aT, h, vI]
theorem aT_ints {l : List Nat} : aT (ints l) = ai .i64 l := by
  unfold aT ints ai
  rw [List.map_map]; rfl
theorem valid_ints {t : List Int} (h : validT t = true) : ∃ l : List Nat, t = ints l ∧ MaxT l := by
  have h := List.all_eq_true.1 h
  have h' : ∀ x ∈ t, 0 ≤ x ∧ x ≤ 2147483647 := fun x hx => by have := h x hx; simpa using this
  refine ⟨t.map Int.toNat, ?_, fun y hy => ?_⟩
  · unfold ints
    rw [List.map_map]
    refine (List.map_id t).symm.trans (List.map_congr_left fun x hx => ?_)
    have := h' x hx
    simp; omega
  · obtain ⟨x, hx, rfl⟩ := List.mem_map.1 hy
    have := h' x hx
    omega
theorem ints_valid {l : List Nat} (h : MaxT l) : validT (ints l) = true := by
  refine List.all_eq_true.2 fun x hx => ?_
  obtain ⟨y, hy, rfl⟩ := List.mem_map.1 hx
  have := h y hy
  simp; omega
theorem ints_len {l : List Nat} : (ints l).length = l.length := List.length_map _
theorem bad_c {x : Int} {K : Bool → World → Prop} (hK : K (!(decide (0 ≤ x) && decide (x ≤ 2147483647))) w) : ClV Try.prog (.func (.func n_packagemerge_Valid_1) ⟨[]⟩ ⟨[]⟩) [kB] [.int .i64 x] w K := by
  refine ClV.mk (by kernel_rfl) (packagemerge_Valid_1.ok x K w ?_)
  unfold packagemerge_Valid_1.E
  refine IfB.mk (fun h => ?_) (fun h => ?_)
  · have h := of_decide_eq_true h
    have e : (!(decide (0 ≤ x) && decide (x ≤ 2147483647))) = true := by simp; omega
    rw [e] at hK; exact hK
  · have h := of_decide_eq_false h
    have e : (!(decide (0 ≤ x) && decide (x ≤ 2147483647))) = decide (x > 2147483647) := by
      rw [Bool.eq_iff_iff]; simp; omega
    rw [e] at hK; exact hK
set_option maxRecDepth 20000 in
theorem pmValid_c {t : List Int} {K : Bool → World → Prop} (h : Hp E w F) (hl : t.length = 258) (hK : ∀ w', Hp E w' F → K (validT t) w') : Cl Try.prog [kB] n_packagemerge_Valid ⟨[.agg (aT t)]⟩ w K := by
  refine packagemerge_Valid.ok _ _ _ ?_
  unfold packagemerge_Valid.E
  refine Nw.mk h fun b w1 h1 => ?_
  refine Slc.whole (by decide) rfl rfl ?_
  refine slices_ContainsFunc_int_int.ok _ _ _ _ ?_
  unfold slices_ContainsFunc_int_int.E
  refine slices_IndexFunc_int_int.ok _ _ _ _ ?_
  unfold slices_IndexFunc_int_int.E
  refine ⟨fun i w' => ∃ k : Nat, i = (k : Int) ∧ k ≤ 258 ∧ validT (t.take k) = true ∧ Hp E w' (Blk b (.cells (aT t) 39 (0, 0)) :: F), fun i _ => 258 - i.toNat, ⟨0, rfl, by omega, rfl, h1⟩, ?_⟩
  rintro i w' ⟨k, rfl, hk, hv, hh⟩
  refine IfB.mk (fun hlt => ?_) (fun hge => ?_)
  · have hlt : k < 258 := by have := of_decide_eq_true hlt; simp only at this; omega
    have hkl : k < t.length := by omega
    have hsl : SlT 1 ⟨some ⟨b, 0, none⟩, 258, 258⟩ (t.map vI) w' := hh.tells (Tells.blk (by simp [aT]) (by simpa using hl))
    refine Idx.rd hsl (by omega) (by simp only; omega) fun q hq hc => Ld.sc (s := .int .i64) t[k] (by rw [hc]; simp [vI]) (bad_c ?_)
    have es : validT (t.take (k + 1)) = (validT (t.take k) && (decide (0 ≤ t[k]) && decide (t[k] ≤ 2147483647))) := by
      unfold validT
      rw [List.take_add_one, List.all_append, List.getElem?_eq_getElem hkl]; simp
    rw [hv, Bool.true_and] at es
    rw [← es]
    refine IfB.mk (fun hb => ?_) (fun hb => ?_)
    · have hb : validT (t.take (k + 1)) = false := by simpa using hb
      have e1 : validT t = false := by
        have := List.take_append_drop (k + 1) t
        rw [← this]
        unfold validT at hb ⊢
        rw [List.all_append, hb, Bool.false_and]
      have e2 : decide ((k : Int) ≥ 0) = true := by simp
      show K (!decide ((k : Int) ≥ 0)) w'
      rw [e2]
      have := hK w' hh.drop
      rw [e1] at this; exact this
    · have hb : validT (t.take (k + 1)) = true := by simpa using hb
      rw [i64_id (by omega)]
      exact ⟨⟨k + 1, rfl, by omega, hb, hh⟩, by dsimp only; omega⟩
  · have hge : k = 258 := by have := of_decide_eq_false hge; simp only at this; omega
    subst hge
    have e2 : decide ((-1 : Int) ≥ 0) = false := by decide
    show K (!decide ((-1 : Int) ≥ 0)) w'
    rw [e2]
    have := hK w' hh.drop
    rw [List.take_of_length_le (by omega)] at hv
    rw [hv] at this; exact this
theorem cmpInt_c {x y : Int} {K : Int → World → Prop} (hK : ∀ z : Int, (z < 0 ↔ x < y) → K z w) : Cl Try.prog [kI] n_cmp_Compare_int ⟨[.int .i64 x, .int .i64 y]⟩ w K := by
  refine cmp_Compare_int.ok _ _ _ _ ?_
  unfold cmp_Compare_int.E
  refine cmp_isNaN_int.ok _ _ _ (cmp_isNaN_int.ok _ _ _ ?_)
  refine IfB.f (by simp) (IfB.f (by simp) (IfB.mk (fun h => hK _ ?_) (fun h => IfB.mk (fun h2 => hK _ ?_) (fun h2 => hK _ ?_))))
  · have := of_decide_eq_true h; omega
  · have := of_decide_eq_false h; omega
  · have := of_decide_eq_false h; omega
theorem getI' {l : List Nat} {i : Nat} {k : IntKind} (h : i < l.length) : (ai k l)[i]? = some (Sc.enc (.int k) (l.getD i 0 : Int)) := by
  rw [ai_get h, List.getD_eq_getElem?_getD, List.getElem?_eq_getElem h]; rfl
theorem pmCmp {l : List Nat} {b : Nat} {t : TypeId} (hl : l.length = 258) : CmpOk E (Blk b (.cells (ai .i64 l) t (0, 0)) :: F) (.func (.func n_packagemerge_Order_1) ⟨[]⟩ ⟨[.pointer (some ⟨b, 0, none⟩)]⟩) (lkey l) (fun x => 0 ≤ x ∧ x < 258) := by
  rintro A w y x K h ⟨hx0, hx⟩ ⟨hy0, hy⟩ hK
  refine ClV.mk (by kernel_rfl) ?_
  refine packagemerge_Order_1.ok y x ⟨b, 0, none⟩ K w ?_
  unfold packagemerge_Order_1.E
  refine Drw.mk h fun w1 h1 => ?_
  have h1' := h1.perm List.perm_append_comm
  refine IdxP.rd (s := .int .i64) h1' hy0 (by omega) _ (getI' (by omega)) ?_
  refine IdxP.rd (s := .int .i64) h1' hx0 (by omega) _ (getI' (by omega)) ?_
  refine cmpInt_c fun z hz => hK z w1 ?_ h1
  rw [hz]; rfl
set_option maxRecDepth 20000 in
/-- the symbols in order, in a slice of its own; nil if the tally is not valid -/
theorem pmOrder_c {t : List Int} {K : Sl → World → Prop} (h : Hp E w F) (hl : t.length = 258) (hK1 : validT t = false → ∀ w', Hp E w' F → K ⟨none, 0, 0⟩ w')
    (hK2 : ∀ l, t = ints l → MaxT l → l.length = 258 → ∀ ys s w', IsOrd l ys → Hp E w' (OwnS 1 s ((ints ys).map vI) :: F) → K s w') : Cl Try.prog [kS] n_packagemerge_Order ⟨[.agg (aT t)]⟩ w K := by
  refine packagemerge_Order.ok _ _ _ ?_
  unfold packagemerge_Order.E
  refine Nw.mk h fun b w1 h1 => Ld.arr h1 (by rw [aT_size, hl]) (pmValid_c h1 hl fun w2 h2 => ?_)
  refine IfB.mk (fun hv => hK1 (by simpa using hv) w2 h2.drop) (fun hv => ?_)
  have hv : validT t = true := by simpa using hv
  obtain ⟨l, rfl, hm⟩ := valid_ints hv
  rw [ints_len] at hl
  rw [aT_ints] at h2
  refine Ld.arr h2 (by rw [ai_size, hl]) ?_
  refine ⟨fun o i w' => ∃ k : Nat, i = (k : Int) ∧ k ≤ 258 ∧ Hp E w' (OwnS 1 o ((ints (usedTo l k)).map vI) :: Blk b (.cells (ai .i64 l) 39 (0, 0)) :: F), fun _ i _ => 258 - i.toNat, ⟨0, rfl, by omega, h2.ownNil 1⟩, ?_⟩
  intro o i w' hI
  obtain ⟨k, hi, hk, hh⟩ := hI
  subst hi
  refine IfB.mk (fun hlt => ?_) (fun hge => ?_)
  · have hlt : k < 258 := by have := of_decide_eq_true hlt; omega
    have hkl : k < l.length := by omega
    refine IdxV.rd (s := .int .i64) (by omega) (by omega) _ (getI hkl) ?_
    refine IfB.mk (fun hp => ?_) (fun hp => ?_)
    · have hp : 0 < l.getD k 0 := by have := of_decide_eq_true hp; omega
      refine Nw.mk hh fun b2 w3 h3 => ?_
      have ho := hh.ownLen
      have hu := usedTo_len l k
      simp only [List.length_map, ints, Nat.mul_one] at ho
      refine run_append (ys := [vI (k : Int)]) (n := 1) ty_ints (by decide) (.inl ⟨3, by kernel_rfl⟩) h3.p1 (.inl ⟨some ⟨b2, 0, none⟩, 1, 1, rfl, rfl, h3.tells (Tells.blk rfl rfl)⟩) rfl one_scalar (by omega) (by omega) fun s' w4 h4 hs' => ?_
      rw [i64_id (by omega)]
      refine ⟨⟨k + 1, rfl, by omega, ?_⟩, by dsimp only; omega⟩
      rw [usedTo_succ, if_pos hp, ints_app, List.map_append]
      exact h4.p1.drop
    · have hp : ¬ 0 < l.getD k 0 := by have := of_decide_eq_false hp; omega
      rw [i64_id (by omega)]
      refine ⟨⟨k + 1, rfl, by omega, ?_⟩, by dsimp only; omega⟩
      rw [usedTo_succ, if_neg hp, List.append_nil]
      exact hh
  · have hge : k = 258 := by have := of_decide_eq_false hge; omega
    subst hge
    have hin : ∀ x ∈ usedTo l 258, x < 258 := fun x hx => by
      have := (List.mem_filter.1 hx).1
      simpa using this
    refine sortStable_c (key := lkey l) (D := fun x => 0 ≤ x ∧ x < 258) hh (by have := usedTo_len l 258; rw [big_eq]; simp only [ints, List.length_map]; omega) (pmCmp hl) (fun x hx => ?_) ?_ fun ys w3 hp hs h3 => ?_
    · obtain ⟨y, hy, rfl⟩ := List.mem_map.1 hx
      have := hin y hy
      omega
    · unfold ints
      refine List.Pairwise.map _ (fun a b hab => Int.ofNat_lt.2 hab) ?_
      exact List.Pairwise.filter _ List.pairwise_lt_range
    · have hU : usedTo l 258 = used l := by unfold usedTo used; rw [hl]
      rw [hU] at hp
      have e : ys = ints (ys.map Int.toNat) := by
        unfold ints
        rw [List.map_map]
        refine (List.map_id ys).symm.trans (List.map_congr_left fun x hx => ?_)
        obtain ⟨y, _, rfl⟩ := List.mem_map.1 (hp.mem_iff.1 hx)
        simp
      have pN : (ys.map Int.toNat).Perm (used l) := by
        have := hp.map Int.toNat
        refine this.trans ?_
        unfold ints
        rw [List.map_map]
        refine List.Perm.of_eq ((List.map_congr_left fun x _ => ?_).trans (List.map_id _))
        simp
      rw [e] at h3 hs
      refine hK2 l rfl hm hl (ys.map Int.toNat) _ w3 ⟨pN, ?_⟩ h3.p1.drop
      refine (List.pairwise_map.1 hs).imp fun {a b} hab => ?_
      unfold Ky lkey at hab
      simp only [Int.toNat_natCast] at hab
      omega
/-- the cells of an item -/
def cIt (x : It) : List Value := [.int .i64 (x.1 : Int), .bool x.2]
theorem cIt_len : ∀ x, (cIt x).length = 2 := fun _ => rfl
theorem cIt_sc : ∀ x, ∀ y ∈ cIt x, scalarB y = true := by
  intro x y hy
  simp only [cIt, List.mem_cons, List.not_mem_nil, or_false] at hy
  rcases hy with rfl | rfl <;> rfl
theorem ty_things : ElemT Try.prog 60 65 2 16 := ElemT.of (by kernel_rfl) (by kernel_rfl)
theorem lv0_succ {ws : List Nat} {k : Nat} (h : k < ws.length) : lv0 (ws.take (k + 1)) = lv0 (ws.take k) ++ [(ws[k], true)] := by
  unfold lv0
  rw [List.take_add_one, List.map_append, List.getElem?_eq_getElem h]; rfl
theorem rdT {s : Sl} {ys : List Nat} {i : Nat} {K : Int → Prop} (hs : SlT 1 s ((ints ys).map vI) w) (hi : i < ys.length) (hK : K (ys[i] : Int)) : Idx s (i : Int) 1 fun q => Ld kI q w K := by
  have hl := hs.1
  simp only [List.length_map, ints, Nat.mul_one] at hl
  refine Idx.rd hs (by omega) (by omega) fun q hq hc => Ld.sc (s := .int .i64) (ys[i] : Int) ?_ hK
  rw [hc]; simp [vI, ints]
set_option maxRecDepth 20000 in
theorem leaves_c {l ys : List Nat} {s : Sl} {K : Sl → World → Prop} (h : Hp E w F) (hl : l.length = 258) (hs : Tells F (SlT 1 s ((ints ys).map vI))) (hin : ∀ x ∈ ys, x < 258) (hlen : ys.length ≤ 258)
    (hK : ∀ s' w', Hp E w' (OwnS 2 s' ((lv0 (wsOf l ys)).flatMap cIt) :: F) → K s' w') : Cl Try.prog [kS] n_packagemerge_leaves ⟨[.agg (ai .i64 l), .slice s.base s.len s.cap]⟩ w K := by
  refine packagemerge_leaves.ok _ _ _ _ ?_
  unfold packagemerge_leaves.E
  have hsl := (h.tells hs).1
  simp only [List.length_map, ints, Nat.mul_one] at hsl
  have hwl : (wsOf l ys).length = ys.length := List.length_map _
  refine Nw.mk h fun b w1 h1 => ⟨fun o i w' => ∃ k : Nat, i = (k : Int) ∧ k ≤ ys.length ∧ Hp E w' (OwnS 2 o ((lv0 ((wsOf l ys).take k)).flatMap cIt) :: Blk b (.cells (ai .i64 l) 39 (0, 0)) :: F), fun _ i _ => ys.length - i.toNat, ⟨0, rfl, by omega, by simpa [lv0] using h1.ownNil 2⟩, ?_⟩
  rintro o i w' ⟨k, rfl, hk, hh⟩
  refine IfB.mk (fun hlt => ?_) (fun hge => ?_)
  · have hlt : k < ys.length := by have := of_decide_eq_true hlt; omega
    have hx := hin _ (List.getElem_mem hlt)
    refine rdT (hh.drop.drop.tells hs) hlt ?_
    refine IdxP.rd (s := .int .i64) hh.p1 (by omega) (by omega) _ (getI (by omega)) ?_
    have hw : (wsOf l ys)[k]'(by omega) = l.getD ys[k] 0 := by simp [wsOf]
    refine app1 (g := cIt) (x := (l.getD ys[k] 0, true)) ty_things cIt_len (by decide) rfl (cIt_sc _) hh (by rw [lv0_len, List.length_take]; omega) (by rw [lv0_len, List.length_take]; omega) fun s' w3 h3 _ => ?_
    rw [i64_id (by omega)]
    refine ⟨⟨k + 1, rfl, by omega, ?_⟩, by dsimp only; omega⟩
    rw [lv0_succ (by omega), hw]; exact h3
  · have hge : k = ys.length := by have := of_decide_eq_false hge; omega
    subst hge
    rw [List.take_of_length_le (by omega)] at hh
    exact hK _ _ hh.p1.drop
end
end Go.Proofs.Ytcidpcahgkngjaa
