/-
  What Order, put, rows, count and Lengths of the reference winepressref07 compute. Conditions: as each theorem states.
-/
import Derived.Test.YtcidpcahgkngjaaPm4
import Derived.Test.YtcidpcahgkngjaaPmR
namespace Go.Vc
open Go
section
variable {E w : World} {F : List HP} {A : HP}
theorem HasF.front (h : HasF E (A :: F) w) : ∃ G, Hp E w (A :: G) := by
  obtain ⟨l, h⟩ := h
  exact ⟨l ++ F, h.perm List.perm_middle⟩
theorem HasF.front2 {B : HP} (h : HasF E (A :: B :: F) w) : ∃ G, Hp E w (B :: G) := by
  obtain ⟨l, h⟩ := h
  exact ⟨(l ++ [A]) ++ F, by
    have := h
    rw [show l ++ A :: B :: F = (l ++ [A]) ++ B :: F by simp] at this
    exact this.perm List.perm_middle⟩
theorem LdS.arrBlk {S : World → Prop} {b n : Nat} {cs : Array Value} {t : TypeId} {fr : Nat × Nat} {K : Array Value → Prop} (hS : ∀ w, S w → ∃ G, Hp E w (Blk b (.cells cs t fr) :: G)) (hn : cs.size = n) (hK : K cs) : LdS (.arr n) ⟨b, 0, none⟩ S K := by
  refine ⟨cs, hn, fun w' hw i hi => ?_, hK⟩
  obtain ⟨G, h⟩ := hS w' hw
  rw [add_mk, h.cell, Nat.zero_add]
  simp [hn, hi]
theorem LdS.blk {S : World → Prop} {s : Sc} {b i : Nat} {c : Array Value} {t : TypeId} {fr : Nat × Nat} {K : s.T → Prop} (hS : ∀ w, S w → ∃ G, Hp E w (Blk b (.cells c t fr) :: G)) (x : s.T) (hx : c[i]? = some (s.enc x)) (hk : K x) : LdS (.sc s) ⟨b, i, none⟩ S K := by
  refine LdS.sc x (fun w' hw => ?_) hk
  obtain ⟨G, h⟩ := hS w' hw
  rw [h.cell]; exact hx
end
end Go.Vc
namespace Go.Proofs.Ytcidpcahgkngjaa
open Go Go.Vc Go.Srt Go.Pm
section
variable {E w : World} {F : List HP}
theorem ty_ints' : ElemT Try.prog 32 3 1 8 := ElemT.of (by kernel_rfl) (by kernel_rfl)
set_option maxRecDepth 20000 in
/-- the symbols in order, in a slice of its own; nil if the tally is not valid -/
theorem rOrder_c {t : List Int} {K : Sl → World → Prop} (h : Hp E w F) (hl : t.length = 258) (hK1 : validT t = false → ∀ w', Hp E w' F → K ⟨none, 0, 0⟩ w')
    (hK2 : ∀ l, t = ints l → MaxT l → l.length = 258 → ∀ ys s w', IsOrd l ys → Hp E w' (OwnS 1 s ((ints ys).map vI) :: F) → K s w') : Cl Try.prog [kS] n_ref07_Order ⟨[.agg (aT t)]⟩ w K := by
  refine ref07_Order.ok _ _ _ ?_
  unfold ref07_Order.E
  simp only [Join_eq]
  refine Nw.mk h fun b w1 h1 => (Bool.eq_false_or_eq_true (validT t)).symm.elim (fun hv => ?_) (fun hv => ?_)
  · refine ⟨fun o i w' => o = ⟨none, 0, 0⟩ ∧ i = 0 ∧ Hp E w' (Blk b (.cells (aT t) 39 (0, 0)) :: F), fun _ _ _ => 0, ⟨rfl, rfl, h1⟩, ?_⟩
    rintro o i w' ⟨rfl, rfl, hh⟩
    exact IfB.t (by decide) (Ld.arr hh (by rw [aT_size, hl]) (rValid_c hh hl fun w3 h3 => IfB.f hv (hK1 hv w3 h3.drop)))
  obtain ⟨l, rfl, hm⟩ := valid_ints hv
  have hl' : l.length = 258 := by rw [ints_len] at hl; exact hl
  refine ⟨fun o i w' => ∃ (k : Nat) (ys : List Nat), i = (k : Int) ∧ k ≤ 258 ∧ ys.Perm ((List.range k).filter fun s => decide (0 < l.getD s 0)) ∧ (ys.Pairwise fun a b => l.getD a 0 < l.getD b 0 ∨ (l.getD a 0 = l.getD b 0 ∧ a < b)) ∧
        Hp E w' (OwnS 1 o (ys.flatMap gN) :: Blk b (.cells (aT (ints l)) 39 (0, 0)) :: F), fun _ i _ => 258 - i.toNat, ⟨0, [], rfl, by omega, .refl _, .nil, h1.ownNil 1⟩, ?_⟩
  rintro o i w' ⟨k, ys, rfl, hk, hp, ho, hh⟩
  have fin : k = 258 → K o w' := fun e => by
    subst e
    refine hK2 l rfl hm hl' ys o w' ⟨?_, ho⟩ ?_
    · unfold used; rw [hl']; exact hp
    · rw [gN_eq]; exact hh.p1.drop
  refine IfB.mk (fun hlt => ?_) (fun hge => fin (by have := of_decide_eq_false hge; omega))
  have hlt : k < 258 := by have := of_decide_eq_true hlt; omega
  have hin : ∀ x ∈ ys, x < k := fun x hx => by
    have := (List.mem_filter.1 (hp.mem_iff.1 hx)).1
    simpa using this
  have hyl : ys.length ≤ k := by
    rw [hp.length_eq]
    have := List.length_filter_le (fun s => decide (0 < l.getD s 0)) (List.range k)
    simpa using this
  refine Ld.arr hh.p1 (by rw [aT_size, hl]) (rValid_c hh hl fun w3 h3 => IfB.t hv ?_)
  have h3' := h3
  rw [aT_ints] at h3'
  refine IdxP.rd (s := .int .i64) h3'.p1 (by omega) (by omega) _ (getI (by omega)) ?_
  rw [i64_id (x := (k : Int) + 1) (by omega)]
  have es : (List.range (k + 1)).filter (fun s => decide (0 < l.getD s 0)) = (List.range k).filter (fun s => decide (0 < l.getD s 0)) ++ if 0 < l.getD k 0 then [k] else [] := usedTo_succ
  refine IfB.mk (fun h0 => ?_) (fun h0 => ?_)
  · have h0 : l.getD k 0 = 0 := by have : (l.getD k 0 : Int) = 0 := by simpa using h0
                                   omega
    rw [if_neg (by omega), List.append_nil] at es
    exact ⟨⟨k + 1, ys, rfl, by omega, by rw [es]; exact hp, ho, h3⟩, by dsimp only; omega⟩
  · have h0 : 0 < l.getD k 0 := by have : ¬ (l.getD k 0 : Int) = 0 := by simpa using h0
                                   omega
    rw [if_pos h0] at es
    have hol := SlT.len gN_len (by decide) (h3.tells Tells.own)
    have hoc := h3.ownCap
    refine ⟨fun i w' => ∃ n : Nat, i = (n : Int) ∧ n ≤ ys.length ∧ (∀ j (hj : j < ys.length), n ≤ j → l.getD k 0 < l.getD ys[j] 0) ∧ Hp E w' (OwnS 1 o (ys.flatMap gN) :: Blk b (.cells (aT (ints l)) 39 (0, 0)) :: F), fun i _ => i.toNat, ⟨ys.length, by rw [hol], Nat.le_refl _, fun j hj hn => by omega, h3⟩, ?_⟩
    rintro i w4 ⟨n, rfl, hn, hgt, hh⟩
    refine Drw.mk hh fun w5 h5 => ?_
    have put : ∀ w5, Hp E w5 ([OwnS 1 o (ys.flatMap gN)] ++ (Blk b (.cells (aT (ints l)) 39 (0, 0)) :: F)) → (n = 0 ∨ ∃ h : n - 1 < ys.length, l.getD ys[n - 1] 0 ≤ l.getD k 0) → ∀ s' w', Hp E w' (OwnS 1 s' ((ys.take n ++ k :: ys.drop n).flatMap gN) :: ([OwnS 1 o (ys.flatMap gN)] ++ (Blk b (.cells (aT (ints l)) 39 (0, 0)) :: F))) →
        (∃ (k' : Nat) (zs : List Nat), (k : Int) + 1 = (k' : Int) ∧ k' ≤ 258 ∧ zs.Perm ((List.range k').filter fun s => decide (0 < l.getD s 0)) ∧ (zs.Pairwise fun a b => l.getD a 0 < l.getD b 0 ∨ (l.getD a 0 = l.getD b 0 ∧ a < b)) ∧
        Hp E w' (OwnS 1 s' (zs.flatMap gN) :: Blk b (.cells (aT (ints l)) 39 (0, 0)) :: F)) ∧ 258 - ((k : Int) + 1).toNat < 258 - (k : Int).toNat := by
      intro w5 h5 hle s' w6 h6
      refine ⟨⟨k + 1, ys.take n ++ k :: ys.drop n, rfl, by omega, ?_, ord_insert hp ho hn hgt hle, h6.p1.drop⟩, by omega⟩
      rw [es]
      refine List.perm_middle.trans ?_
      rw [List.take_append_drop]
      refine (List.Perm.cons k hp).trans ?_
      exact (List.perm_append_singleton k _).symm
    refine IfB.mk (fun hpos => ?_) (fun hpos => ?_)
    · have hpos : 0 < n := by have := of_decide_eq_true hpos; omega
      have hn1 : n - 1 < ys.length := by omega
      have hx := hin _ (List.getElem_mem hn1)
      have h5' := h5
      rw [aT_ints] at h5'
      rw [show i64 ((n : Int) - 1) = ((n - 1 : Nat) : Int) by rw [i64_id (by omega)]; omega]
      refine rdT (i := n - 1) (ys := ys) (by rw [gN_eq]; exact h5.tells Tells.own) hn1 ?_
      refine IdxP.rd (s := .int .i64) h5'.p1 (by omega) (by omega) _ (getI (by omega)) ?_
      refine IdxP.rd (s := .int .i64) h5'.p1 (by omega) (by omega) _ (getI (by omega)) ?_
      refine IfB.mk (fun hc => ?_) (fun hc => ?_)
      · have hc : l.getD k 0 < l.getD ys[n - 1] 0 := by have := of_decide_eq_true hc; omega
        refine ⟨⟨n - 1, rfl, by omega, fun j hj hnj => ?_, h5⟩, by dsimp only; omega⟩
        by_cases e : j = n - 1
        · subst e; exact hc
        · exact hgt j hj (by omega)
      · have hc : l.getD ys[n - 1] 0 ≤ l.getD k 0 := by have := of_decide_eq_false hc; omega
        exact splice_c (e := 3) ty_ints' gN_len (by decide) gN_sc (A := [OwnS 1 o (ys.flatMap gN)]) (F := Blk b (.cells (aT (ints l)) 39 (0, 0)) :: F) h5 Tells.own hoc hn (by omega) (by decide) rfl (put w5 h5 (.inr ⟨hn1, hc⟩))
    · have hpos : n = 0 := by have := of_decide_eq_false hpos; omega
      exact splice_c (e := 3) ty_ints' gN_len (by decide) gN_sc (A := [OwnS 1 o (ys.flatMap gN)]) (F := Blk b (.cells (aT (ints l)) 39 (0, 0)) :: F) h5 Tells.own hoc hn (by omega) (by decide) rfl (put w5 h5 (.inl hpos))
end
end Go.Proofs.Ytcidpcahgkngjaa
