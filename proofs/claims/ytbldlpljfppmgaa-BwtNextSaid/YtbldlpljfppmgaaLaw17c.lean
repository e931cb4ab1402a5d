/-
  The law BwtOrder. Conditions: as each theorem states.
-/
import Derived.Test.YtbldlpljfppmgaaLaw17b
namespace Go.Vc
open Go
/-- a truth value as it stands in memory -/
def vT (b : Bool) : Value := .bool b
theorem getD_setT {l : List Bool} {i j : Nat} {x : Bool} (hi : i < l.length) : (l.set i x).getD j false = if j = i then x else l.getD j false := by
  simp only [List.getD, List.getElem?_set]
  by_cases h : i = j
  · subst h; simp [hi]
  · rw [if_neg h, if_neg (fun e => h e.symm)]
theorem Join.mk1 {α : Type} {X : α → World → Prop} {G : (α → World → Prop) → Prop} (P : α → World → Prop) (h1 : ∀ b w', P b w' → X b w') (h2 : ∀ K : α → World → Prop, (∀ b w', P b w' → K b w') → G K) : Join X G := h2 X h1
theorem Join.mk0 {X : World → Prop} {G : (World → Prop) → Prop} (P : World → Prop) (h1 : ∀ w', P w' → X w') (h2 : ∀ K : World → Prop, (∀ w', P w' → K w') → G K) : Join X G := h2 X h1
section
variable {E w : World} {F : List HP}
theorem Idx.nT {s : Sl} {bs : List Bool} {i : Int} {j : Nat} {K : Bool → Prop} (hs : SlT 1 s (bs.map vT) w) (hi : i = (j : Int)) (hj : j < bs.length) (hK : K (bs.getD j false)) : Idx s i 1 fun q => Ld kB q w K := by
  subst hi
  have hl := hs.1
  simp only [List.length_map, Nat.mul_one] at hl
  refine Idx.rd hs (by omega) (by omega) fun p hp hc => Ld.sc (s := .bool) (bs.getD j false) ?_ hK
  rw [hc]
  simp [vT, List.getD, hj]
theorem Idx.setT {s : Sl} {bs : List Bool} {i : Int} {j : Nat} {x : Bool} {K : World → Prop} (hh : Hp E w (OwnS 1 s (bs.map vT) :: F)) (hi : i = (j : Int)) (hj : j < bs.length) (h : ∀ w', Hp E w' (OwnS 1 s ((bs.set j x).map vT) :: F) → K w') : Idx s i 1 fun q => St q (.bool x) w K := by
  subst hi
  have hl := hh.ownLen
  rw [List.length_map, Nat.mul_one] at hl
  refine St.own hh (by omega) (by omega) rfl fun w' h' => h w' ?_
  rw [Int.toNat_natCast] at h'
  rw [List.map_set]
  exact h'
theorem Idx.nIS {S : World → Prop} {s : Sl} {xs : List Int} {i : Int} {j : Nat} {K : Int → Prop} (hh : Hp E w F) (hs : Tells F (SlT 1 s (xs.map vI))) (hS : ∀ w, S w → HasF E F w) (hi : i = (j : Int)) (hj : j < xs.length) (hK : K (xs.getD j 0)) :
    Idx s i 1 fun q => LdS kI q S K := by
  subst hi
  have hl := (hh.tells hs).1
  simp only [List.length_map, Nat.mul_one] at hl
  refine Idx.rdT hh hs (by decide) (by omega) (by omega) fun p hp => LdS.sc (s := .int .i64) (xs.getD j 0) (fun w hw => ?_) hK
  have := (hS w hw).tells (hp 0 (by decide))
  rw [Go.Vc.add_zero] at this
  rw [this]
  simp only [Int.toNat_natCast, Nat.mul_one, Nat.add_zero, List.getElem?_map]
  rw [List.getElem?_eq_getElem hj]
  simp [vI, List.getD, hj]
end
end Go.Vc
namespace Go.Proofs.Ytbldlpljfppmgaa
open Go Go.Vc Go.Bw Go.Hs Go.Rk
theorem infoT : ∃ i, Try.prog.info? 4 = some i ∧ i.zero = some (.bool false) ∧ i.size = 1 ∧ i.bytes = 1 := by
  have h : (Try.prog.info? 4).map (fun i => (i.zero, i.size, i.bytes)) = some (some (.bool false), 1, 1) := by kernel_rfl
  obtain ⟨i, h1, h2⟩ := Option.map_eq_some_iff.1 h
  simp only [Prod.mk.injEq] at h2
  exact ⟨i, h1, h2⟩
theorem rep_vT {n : Nat} : List.replicate n (Value.bool false) = (List.replicate n false).map vT := by simp [vT]
theorem rep_getT (n i : Nat) : (List.replicate n false).getD i false = false := by
  simp only [List.getD, List.getElem?_replicate]
  split <;> rfl
theorem zl_at {l : List Nat} {k : Nat} (hk : k < l.length) : (zl l).getD k 0 = (l[k] : Int) := by simp [zl, List.getD, hk]
theorem less_asym (t : List Nat) (i k : Int) (h : lessI t i k = true) : lessI t k i = false := by
  unfold lessI at *
  rw [Bool.and_eq_true] at h
  rw [(sl_so t).asym h.2, Bool.and_false]
theorem less_in {t : List Nat} {i k : Int} (h : 0 ≤ i ∧ i ≤ t.length ∧ 0 ≤ k ∧ k ≤ t.length) : ((!(lessI t i k == lessI t k i)) == (i != k)) = true := by
  have ha := less_asym t i k
  by_cases e : i = k
  · subst e; simp
  · have : lessI t i k = true ∨ lessI t k i = true := by
      have hne : rkB t i.toNat ≠ rkB t k.toNat := fun e => by have := rkB_inj (by omega) (by omega) e; omega
      unfold lessI
      rcases Nat.lt_or_ge (rkB t i.toNat) (rkB t k.toNat) with q | q
      · exact .inl (by rw [decide_eq_true h, (rkB_iff (by omega) (by omega)).1 q]; rfl)
      · exact .inr (by rw [decide_eq_true (by omega), (rkB_iff (by omega) (by omega)).1 (by omega)]; rfl)
    cases h1 : lessI t i k <;> cases h2 : lessI t k i <;> simp_all
theorem less_out {t : List Nat} {i k : Int} (h : ¬ (0 ≤ i ∧ i ≤ t.length ∧ 0 ≤ k ∧ k ≤ t.length)) : lessI t i k = false ∧ lessI t k i = false := by
  unfold lessI
  rw [decide_eq_false h, decide_eq_false (by omega)]
  exact ⟨rfl, rfl⟩
section
variable {E w : World} {F : List HP}
set_option maxRecDepth 100000 in
theorem bwOrder_law {t : List Nat} {s : Sl} {i k : Int} {K : Bool → World → Prop} (h : Hp E w F) (hs : Tells F (SlT 1 s (t.map vB))) (hb : ∀ x ∈ t, x < 256) (hcap : s.len ≤ s.cap) (hK : ∀ w', Hp E w' F → K true w') :
    Cl Try.prog [kB] n_law17_BwtOrder ⟨[.slice s.base s.len s.cap, .int .i64 i, .int .i64 k]⟩ w K := by
  refine law17_BwtOrder.ok _ _ _ _ _ ?_
  unfold law17_BwtOrder.E
  have hl := (h.tells hs).1
  simp only [List.length_map, Nat.mul_one] at hl
  refine IfB.mk (fun _ => wakes17_c h fun w2 h2 => hK w2 h2) (fun g1 => ?_)
  have g1 := of_decide_eq_false g1
  refine bwOrder_c h hs hb (by omega) fun s7 w1 h1 => ?_
  have hl7 := h1.ownLen
  rw [List.length_map, zl_len, ordB_len, Nat.mul_one] at hl7
  have hol := ordB_len t
  refine IfB.f (by rw [i64_id (by omega), bne_eq_false_iff_eq]; omega) ?_
  refine run_mk1 (by kernel_rfl) infoT rfl (by omega) (by decide) h1 fun s9 w2 hs9 h2 => ?_
  rw [rep_vT] at h2
  have hnd : (ordB t).Nodup := (srt_perm _).nodup_iff.2 (rows_nodup t)
  refine ⟨fun r w' => ∃ (j : Nat) (B : List Bool), r = (j : Int) ∧ j ≤ t.length + 1 ∧ B.length = t.length + 1 ∧ (∀ x, x ≤ t.length → B.getD x false = decide (x ∈ (ordB t).take j)) ∧ Hp E w' (OwnS 1 s9 (B.map vT) :: OwnS 1 s7 ((zl (ordB t)).map vI) :: F), fun r _ => t.length + 1 - r.toNat,
    ⟨0, _, rfl, by omega, by rw [List.length_replicate]; omega, fun x hx => by rw [rep_getT]; simp, h2⟩, ?_⟩
  rintro r w3 ⟨j, B, rfl, hj, hB, hv, h3⟩
  have t7 : Tells (OwnS 1 s9 (B.map vT) :: OwnS 1 s7 ((zl (ordB t)).map vI) :: F) (SlT 1 s7 ((zl (ordB t)).map vI)) := Tells.cons Tells.own
  refine IfB.mk (fun hlt => ?_) (fun hge => ?_)
  · have hlt : j < t.length + 1 := by have := of_decide_eq_true hlt; omega
    simp only [Join_eq]
    have hj1 : j < (ordB t).length := by omega
    have hj2 : j < (zl (ordB t)).length := by rw [zl_len]; exact hj1
    have hx : (ordB t)[j] ≤ t.length := ordB_mem.1 (List.getElem_mem hj1)
    have hnot : (ordB t)[j] ∉ (ordB t).take j := fun hm => by
      obtain ⟨q, hq, e⟩ := List.mem_take_iff_getElem.1 hm
      have := (List.getElem_inj hnd).1 e
      omega
    have rd : ∀ {w' : World} {G : List HP} {K' : Int → Prop}, Hp E w' G → Tells G (SlT 1 s7 ((zl (ordB t)).map vI)) → K' ((ordB t)[j] : Int) → Idx s7 (j : Int) 1 fun q => Ld kI q w' K' := fun h' ht hk => Idx.nI (h'.tells ht) rfl hj2 (by rw [zl_at hj1]; exact hk)
    refine rd h3 t7 (IfB.f (by rw [decide_eq_false_iff_not]; omega) (rd h3 t7 (IfB.f (by rw [decide_eq_false_iff_not]; omega) (rd h3 t7 ?_))))
    refine Idx.nT (h3.tells Tells.own) rfl (by omega) (IfB.f (by rw [hv _ hx]; exact decide_eq_false hnot) (rd h3 t7 ?_))
    refine Idx.setT h3 rfl (by omega) fun w4 h4 => ?_
    have t8 : Tells (OwnS 1 s9 ((B.set (ordB t)[j] true).map vT) :: OwnS 1 s7 ((zl (ordB t)).map vI) :: F) (SlT 1 s7 ((zl (ordB t)).map vI)) := Tells.cons Tells.own
    have fin : ∀ {w' : World}, Hp E w' (OwnS 1 s9 ((B.set (ordB t)[j] true).map vT) :: OwnS 1 s7 ((zl (ordB t)).map vI) :: F) →
        (∃ (j' : Nat) (B : List Bool), i64 ((j : Int) + 1) = (j' : Int) ∧ j' ≤ t.length + 1 ∧ B.length = t.length + 1 ∧ (∀ x, x ≤ t.length → B.getD x false = decide (x ∈ (ordB t).take j')) ∧ Hp E w' (OwnS 1 s9 (B.map vT) :: OwnS 1 s7 ((zl (ordB t)).map vI) :: F)) ∧ t.length + 1 - (i64 ((j : Int) + 1)).toNat < t.length + 1 - (j : Int).toNat := fun {w'} h' => by
      refine ⟨⟨j + 1, _, by rw [i64_id (by omega)]; omega, by omega, by rw [List.length_set]; exact hB, fun x hx2 => ?_, h'⟩, by rw [i64_id (by omega)]; omega⟩
      have hm : x ∈ (ordB t).take (j + 1) ↔ x ∈ (ordB t).take j ∨ x = (ordB t)[j] := by rw [← List.take_append_getElem hj1, List.mem_append, List.mem_singleton]
      rw [getD_setT (by omega), hv x hx2]
      by_cases e : x = (ordB t)[j]
      · rw [if_pos e]; exact (decide_eq_true (hm.2 (.inr e))).symm
      · rw [if_neg e]
        exact decide_eq_decide.2 ⟨fun h => hm.2 (.inl h), fun h => (hm.1 h).resolve_right e⟩
    refine ⟨HasF E _, HasF.mk h4.drew, ?_⟩
    refine IfB.mk (fun hp => ?_) (fun _ => ⟨fin h4.drew, fin h4.drew⟩)
    have hp : 0 < j := by have := of_decide_eq_true hp; omega
    have hj0 : j - 1 < (ordB t).length := by omega
    have hx0 : (ordB t)[j - 1] ≤ t.length := ordB_mem.1 (List.getElem_mem hj0)
    have hsl : lxb (t.drop (ordB t)[j - 1]) (t.drop (ordB t)[j]) = true := List.pairwise_iff_getElem.1 (ordB_sorted t) (j - 1) j hj0 hj1 (by omega)
    have dk : ∀ {x : Nat} {s' : Sl} {w' : World}, x ≤ t.length → Hp E w' (OwnS 1 s9 ((B.set (ordB t)[j] true).map vT) :: OwnS 1 s7 ((zl (ordB t)).map vI) :: F) → (∀ w', SlT 1 s (t.map vB) w' → SlT 1 s' (((t.map vB).drop ((x : Int).toNat)).take ((s.len : Int).toNat - (x : Int).toNat)) w') → SlT 1 s' ((t.drop x).map vB) w' := fun {x s' w'} h1 hh h' => by
      have := h' w' (hh.tells (Tells.cons (Tells.cons hs)))
      rwa [Int.toNat_natCast, Int.toNat_natCast, ← List.map_drop, List.take_of_length_le (by rw [List.length_map, List.length_drop]; omega)] at this
    have hbd : ∀ x, ∀ y ∈ t.drop x, y < 256 := fun x y hy => hb y (List.mem_of_mem_drop hy)
    have h5 := h4.drew (n := w4.drawn + 1)
    refine Idx.nIS h5 t8 (fun _ h => h) (by rw [i64_id (by omega)]; omega) (j := j - 1) (by rw [zl_len]; exact hj0) ?_
    rw [zl_at hj0]
    refine Slc.rd (h5.tells (Tells.cons (Tells.cons hs))) (by omega) (by omega) (by omega) (by omega) (by omega) fun s32 h32 _ => ?_
    refine Idx.nIS h5 t8 (fun _ h => h) rfl hj2 ?_
    rw [zl_at hj1]
    refine Slc.rd (h5.tells (Tells.cons (Tells.cons hs))) (by omega) (by omega) (by omega) (by omega) (by omega) fun s35 h35 _ => ?_
    refine ⟨str_c (dk hx0 h5 h32) ⟨HasF.mk h5, str_c (dk hx h5 h35) ⟨HasF.mk h5, IfB.f ?_ (fin h5)⟩⟩, str_c (dk hx h5 h35) ⟨HasF.mk h5, str_c (dk hx0 h5 h32) ⟨HasF.mk h5, IfB.f ?_ (fin h5)⟩⟩⟩
    · rw [strOf_list, strOf_list, strOf_less (hbd _) (hbd _), hsl]; rfl
    · rw [strOf_list, strOf_list, strOf_less (hbd _) (hbd _), hsl]; rfl
  · have h6 := h3.drop.drop
    refine Join.mk1 (fun b w' => Hp E w' F ∧ b = decide (0 ≤ i ∧ i ≤ t.length ∧ 0 ≤ k ∧ k ≤ t.length)) (fun b w' hbw => ?_) (fun J hJ => ?_)
    · obtain ⟨h7, rfl⟩ := hbw
      refine bwLess_c h7 hs hb hcap fun w8 h8 => bwLess_c h8 hs hb hcap fun w9 h9 => ?_
      have ha := less_asym t i k
      have fin : Cl Try.prog [kB] n_law17_wakes ⟨[]⟩ w9 K := wakes17_c h9 fun w2 h2 => hK w2 h2
      refine IfB.mk (fun e => IfB.t (less_in (of_decide_eq_true e)) (IfB.mk (fun ea => IfB.t (by rw [ha ea]; rfl) fin) (fun _ => fin))) (fun e => ?_)
      obtain ⟨e1, e2⟩ := less_out (of_decide_eq_false e)
      exact IfB.t (by rw [e1, e2]; rfl) (IfB.mk (fun ea => IfB.t (by rw [ha ea]; rfl) fin) (fun _ => fin))
    · have no : ¬ (0 ≤ i ∧ i ≤ t.length ∧ 0 ≤ k ∧ k ≤ t.length) → J false w3 := fun hn => hJ _ _ ⟨h6, (decide_eq_false hn).symm⟩
      refine IfB.mk (fun q1 => IfB.mk (fun q2 => IfB.mk (fun q3 => hJ _ _ ⟨h6, ?_⟩) (fun q3 => no ?_)) (fun q2 => no ?_)) (fun q1 => no ?_)
      · have q1 := of_decide_eq_true q1
        have q2 := of_decide_eq_true q2
        have q3 := of_decide_eq_true q3
        exact decide_eq_decide.2 (by omega)
      · have := of_decide_eq_false q3; omega
      · have := of_decide_eq_false q2; omega
      · have := of_decide_eq_false q1; omega
end
end Go.Proofs.Ytbldlpljfppmgaa
