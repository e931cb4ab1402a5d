/-
  Equality of states, what prefixdec.All computes, and the examples of winepresslaw12. Conditions: as each theorem states.
-/
import Derived.Test.YtajpnkioigcejaaQuick
namespace Go.Vc
open Go
section
variable {E w : World} {F : List HP}
/-- an element of a slice of numbers is read in a region whose order is open -/
theorem Idx.ldS {S : World → Prop} {s : Sl} {xs : List Int} {i : Int} {j : Nat} {K : Int → Prop} (hh : Hp E w F) (hs : Tells F (SlT 1 s (xs.map vI))) (hS : ∀ w, S w → HasF E F w) (hi : i = (j : Int)) (hj : j < xs.length) (hK : K xs[j]) :
    Idx s i 1 fun q => LdS (.sc (.int .i64)) q S K := by
  subst hi
  have hl := (hh.tells hs).1
  simp only [List.length_map, Nat.mul_one] at hl
  refine Idx.rdT hh hs (by decide) (by omega) (by omega) fun p hp => LdS.sc (s := .int .i64) xs[j] (fun w hw => ?_) hK
  have := (hS w hw).tells (hp 0 (by decide))
  rw [Go.Vc.add_zero] at this
  rw [this]
  simp only [Int.toNat_natCast, Nat.mul_one, Nat.add_zero, List.getElem?_map]
  rw [List.getElem?_eq_getElem hj]; rfl
/-- equality of two arrays of numbers, as the model says it -/
theorem eqArr_run {P : Program} {t e : TypeId} {n : Nat} {k : IntKind} {it : TypeInfo} (hu : P.underlying t = some (.array n e)) (hue : P.underlying e = some (.int k)) (hi : P.info? e = some it) (hs : it.size = 1) {a b : List Int} (ha : a.length = n) (hb : b.length = n)
    (D : Nat) (hD : 2 ≤ D) (w : World) : (Op.equalIn D t (.agg ⟨a.map (.int k)⟩) (.agg ⟨b.map (.int k)⟩)).run P w = .ok (a == b) w := by
  obtain ⟨D, rfl⟩ : ∃ d, D = d + 1 + 1 := ⟨D - 2, by omega⟩
  rw [run_equalIn_array w (D + 1) _ _ hu hi, cellsOf_info hi, hs, ← ha, run_eqItems_ints hue (ha.trans hb.symm) _ (by simp), all_eq (ha.trans hb.symm)]
theorem partVC_agg {P : Program} {t : TypeId} {it : TypeInfo} {cs : List Value} {off : Nat} {K : Option Value → Prop} (h1 : isAggB P t = some true) (h2 : P.info? t = some it) (h : K (some (.agg ⟨(cs.drop off).take it.size⟩))) : partVC P t cs off K := by
  unfold partVC; rw [h1, h2]; exact h
theorem partVC_sc {P : Program} {t : TypeId} {it : TypeInfo} {cs : List Value} {off : Nat} {v : Value} {K : Option Value → Prop} (h1 : isAggB P t = some false) (h2 : P.info? t = some it) (hv : cs[off]? = some v) (h : K (some v)) : partVC P t cs off K := by
  unfold partVC; rw [h1, h2, hv]; exact h
end
end Go.Vc
namespace Go.Proofs.Ytajpnkioigcejaa
open Go Go.Vc Go.Srt
section
variable {E w : World} {F : List HP}
theorem fieldsSt : (Try.prog.fieldsOf 26).toList.map (fun f => (f.name == "_", f.type, f.offset)) = [(false, 23, 0), (false, 3, 258), (false, 3, 259)] := by kernel_rfl
theorem undSt : Try.prog.underlying 26 = some (.struct (Try.prog.fieldsOf 26)) := by kernel_rfl
theorem infoInt : ∃ it, Try.prog.info? 3 = some it := by
  have : (Try.prog.info? 3).isSome = true := by kernel_rfl
  exact Option.isSome_iff_exists.1 this
theorem infoLen : ∃ it, Try.prog.info? 23 = some it ∧ it.size = 258 := by
  have h : (Try.prog.info? 23).map (·.size) = some 258 := by kernel_rfl
  obtain ⟨it, h1, h2⟩ := Option.map_eq_some_iff.1 h
  exact ⟨it, h1, h2⟩
theorem infoU8 : ∃ it, Try.prog.info? 5 = some it ∧ it.size = 1 := by
  have h : (Try.prog.info? 5).map (·.size) = some 1 := by kernel_rfl
  obtain ⟨it, h1, h2⟩ := Option.map_eq_some_iff.1 h
  exact ⟨it, h1, h2⟩
theorem undLen : Try.prog.underlying 23 = some (.array 258 5) := by kernel_rfl
theorem undU8 : Try.prog.underlying 5 = some (.int .u8) := by kernel_rfl
theorem undInt : Try.prog.underlying 3 = some (.int .i64) := by kernel_rfl
theorem heldSt : Try.prog.stoodInHeld 26 = false := by kernel_rfl
set_option maxRecDepth 20000 in
theorem EqW.st {l l' : List Nat} {c b c' b' : Nat} {K : Bool → Prop} (hl : l.length = 258) (hl' : l'.length = 258) (hK : K ((l == l') && ((c == c') && (b == b')))) : EqW Try.prog 26 (stA l c b) (stA l' c' b') K := by
  obtain ⟨it, hit⟩ := infoInt
  obtain ⟨jt, hjt, hjs⟩ := infoLen
  obtain ⟨kt, hkt, hks⟩ := infoU8
  obtain ⟨f1, f2, f3, hfs, hf1, hf2, hf3⟩ : ∃ f1 f2 f3, (Try.prog.fieldsOf 26).toList = [f1, f2, f3] ∧ (f1.name == "_", f1.type, f1.offset) = (false, 23, 0) ∧ (f2.name == "_", f2.type, f2.offset) = (false, 3, 258) ∧ (f3.name == "_", f3.type, f3.offset) = (false, 3, 259) := by
    have h := fieldsSt
    generalize (Try.prog.fieldsOf 26).toList = fs at h
    match fs, h with
    | [], h => simp at h
    | [_], h => simp at h
    | [_, _], h => simp at h
    | _ :: _ :: _ :: _ :: _, h => simp at h
    | [f1, f2, f3], h =>
      simp only [List.map_cons, List.map_nil, List.cons.injEq, and_true] at h
      exact ⟨f1, f2, f3, rfl, h.1, h.2.1, h.2.2⟩
  simp only [Prod.mk.injEq] at hf1 hf2 hf3
  have hc : ∀ {l : List Nat} {c b : Nat}, l.length = 258 → (((stA l c b).toList.drop 0).take 258) = (l.map fun (x : Nat) => (x : Int)).map (.int .u8) := fun {l c b} hl => by
    unfold stA
    rw [List.drop_zero, List.take_append_of_le_length (by simp [hl]), List.take_of_length_le (by simp [hl]), List.map_map]; rfl
  obtain ⟨r, hr, hK'⟩ := eqVF_sound (P := Try.prog) (d := 9) (rec := fun t x y K => ∃ b, (∀ D, 9 ≤ D → ∀ w, (Op.equalIn D t x y).run Try.prog w = .ok b w) ∧ K b) (fun t x y K h => h) (xs := stA l c b) (ys := stA l' c' b') (fs := [f1, f2, f3]) (K := K) (by
    unfold eqVF
    rw [hf1.1]
    refine partVC_agg (it := jt) (by rw [hf1.2.1]; kernel_rfl) (by rw [hf1.2.1]; exact hjt) (partVC_agg (it := jt) (by rw [hf1.2.1]; kernel_rfl) (by rw [hf1.2.1]; exact hjt) ?_)
    rw [hf1.2.2, hjs, hf1.2.1, hc hl, hc hl']
    refine ⟨_, fun D hD w => eqArr_run undLen undU8 hkt hks (by simpa using hl) (by simpa using hl') D (by omega) w, ?_⟩
    unfold eqVF
    rw [hf2.1]
    refine partVC_sc (it := it) (v := .int .i64 (c : Int)) (by rw [hf2.2.1]; kernel_rfl) (by rw [hf2.2.1]; exact hit) (by rw [hf2.2.2, Array.getElem?_toList]; exact stA_c hl) (partVC_sc (it := it) (v := .int .i64 (c' : Int)) (by rw [hf2.2.1]; kernel_rfl) (by rw [hf2.2.1]; exact hit) (by rw [hf2.2.2, Array.getElem?_toList]; exact stA_c hl') ?_)
    rw [hf2.2.1]
    refine ⟨(c : Int) == (c' : Int), fun D hD w => by obtain ⟨D, rfl⟩ : ∃ k, D = k + 1 := ⟨D - 1, by omega⟩; exact run_equalIn_int w D _ _ _ _ _ undInt, ?_⟩
    unfold eqVF
    rw [hf3.1]
    refine partVC_sc (it := it) (v := .int .i64 (b : Int)) (by rw [hf3.2.1]; kernel_rfl) (by rw [hf3.2.1]; exact hit) (by rw [hf3.2.2, Array.getElem?_toList]; exact stA_b hl) (partVC_sc (it := it) (v := .int .i64 (b' : Int)) (by rw [hf3.2.1]; kernel_rfl) (by rw [hf3.2.1]; exact hit) (by rw [hf3.2.2, Array.getElem?_toList]; exact stA_b hl') ?_)
    rw [hf3.2.1]
    refine ⟨(b : Int) == (b' : Int), fun D hD w => by obtain ⟨D, rfl⟩ : ∃ k, D = k + 1 := ⟨D - 1, by omega⟩; exact run_equalIn_int w D _ _ _ _ _ undInt, ?_⟩
    have e1 : ((l.map fun (x : Nat) => (x : Int)) == (l'.map fun (x : Nat) => (x : Int))) = (l == l') := by
      rw [Bool.eq_iff_iff, beq_iff_eq, beq_iff_eq]
      exact ⟨fun h => (List.map_inj_right (fun x y h => by have h : (x : Int) = (y : Int) := h; omega)).1 h, fun h => by rw [h]⟩
    have e2 : ∀ x y : Nat, ((x : Int) == (y : Int)) = (x == y) := fun x y => by rw [Bool.eq_iff_iff, beq_iff_eq, beq_iff_eq]; omega
    rw [e1, e2, e2]
    exact hK)
  refine ⟨r, fun w => ?_, hK'⟩
  rw [run_equalIn_struct w 9999 _ _ _ undSt heldSt, hfs]
  exact hr 9999 (by decide) w
theorem ints2_c {s s2 : Sl} {a b : List Int} {K : Bool → World → Prop} (h : Hp E w F) (ha : Tells F (SlT 1 s (a.map vI))) (hb : Tells F (SlT 1 s2 (b.map vI))) (hbig : a.length ≤ big) (hK : ∀ w', Hp E w' F → K (a == b) w') :
    Cl Try.prog [kB] n_ref02_Ints ⟨[.slice s.base s.len s.cap, .slice s2.base s2.len s2.cap]⟩ w K := by
  refine ref02_Ints.ok _ _ _ _ ?_
  unfold ref02_Ints.E
  have la := (h.tells ha).1
  have lb := (h.tells hb).1
  simp only [List.length_map, Nat.mul_one] at la lb
  rw [big_eq] at hbig
  refine IfB.mk (fun hne => ?_) (fun heq => ?_)
  · have hne : ¬ (s.len : Int) = (s2.len : Int) := by simpa using hne
    have : (a == b) = false := by
      rw [beq_eq_false_iff_ne]; rintro rfl; omega
    have hk := hK w h
    rw [this] at hk; exact hk
  · have heq : (s.len : Int) = (s2.len : Int) := by simpa using heq
    refine ⟨fun i w' => ∃ k : Nat, i = (k : Int) ∧ k ≤ a.length ∧ a.take k = b.take k ∧ Hp E w' F, fun i _ => a.length - i.toNat, ⟨0, rfl, by omega, by simp, h⟩, ?_⟩
    rintro i w' ⟨k, rfl, hk, hab, hh⟩
    refine IfB.mk (fun hlt => ?_) (fun hge => ?_)
    · have hlt : k < a.length := by have := of_decide_eq_true hlt; omega
      have hltb : k < b.length := by omega
      refine Drw.mk hh fun w1 h1 => ?_
      refine Idx.rd (h1.tells ha) (by omega) (by omega) fun q hq hc => ?_
      refine Ld.sc (s := .int .i64) a[k] (by rw [hc]; simp [vI]) ?_
      refine Idx.rd (h1.tells hb) (by omega) (by omega) fun q2 hq2 hc2 => ?_
      refine Ld.sc (s := .int .i64) b[k] (by rw [hc2]; simp [vI]) ?_
      refine IfB.mk (fun hne => ?_) (fun hee => ?_)
      · have hne : ¬ a[k] = b[k] := by simpa using hne
        have : (a == b) = false := by
          rw [beq_eq_false_iff_ne]; rintro rfl; exact hne rfl
        have hk := hK w1 h1
        rw [this] at hk; exact hk
      · have hee : a[k] = b[k] := by simpa using hee
        rw [i64_id (by omega)]
        refine ⟨⟨k + 1, rfl, by omega, ?_, h1⟩, by dsimp only; omega⟩
        rw [List.take_add_one, List.take_add_one, hab, List.getElem?_eq_getElem hlt, List.getElem?_eq_getElem hltb, hee]
    · have hge : k = a.length := by have := of_decide_eq_false hge; omega
      subst hge
      rw [List.take_length, List.take_of_length_le (by omega)] at hab
      have hk := hK w' hh
      rw [hab] at hk
      simpa using hk
end
end Go.Proofs.Ytajpnkioigcejaa
namespace Go.Srt
/-- the run of prefixdec.All: the symbols, the number of bits, the error -/
def allS (l : List Nat) (many : Int) : List Nat → Nat → Nat → List Nat → Nat → List Nat × Nat × Int
  | [], _, _, acc, n => if many > (acc.length : Int) then ([], 0, 50) else (acc, n, 0)
  | x :: bs, c, b, acc, n => if many > (acc.length : Int) then (if x / 2 ≠ 0 then ([], 0, 2) else allS l many bs (stp l c b x).1.1 (stp l c b x).1.2 (acc ++ (stp l c b x).2.toList) (n + 1)) else (acc, n, 0)
end Go.Srt
namespace Go.Proofs.Ytajpnkioigcejaa
open Go Go.Vc Go.Srt
section
variable {E w : World} {F : List HP}
set_option maxRecDepth 20000 in
theorem decAll_c {l : List Nat} {many : Int} {s : Sl} {bits : List Nat} {K : Sl → Int → Int → World → Prop} (h : Hp E w F) (hl : l.length = 258) (hs : Tells F (SlT 1 s ((ints bits).map vI))) (hbig : bits.length ≤ big)
    (hbad : (okT l = false ∨ many < 0) → ∀ w', Hp E w' F → K ⟨none, 0, 0⟩ 0 2 w')
    (hK : okT l = true → ∀ s' w', Hp E w' (OwnS 1 s' ((ints (allS l many bits 0 0 [] 0).1).map vI) :: F) → K s' ((allS l many bits 0 0 [] 0).2.1 : Int) (allS l many bits 0 0 [] 0).2.2 w') :
    Cl Try.prog [kS, kI, kI] n_prefixdec_All ⟨[.agg (ai .u8 l), .int .i64 many, .slice s.base s.len s.cap]⟩ w K := by
  refine prefixdec_All.ok _ _ _ _ _ ?_
  unfold prefixdec_All.E
  simp only [Join_eq]
  rw [zeroSt]
  have hz : (stA (List.replicate 258 0) 0 0).size = 260 := stA_size List.length_replicate
  rw [big_eq] at hbig
  have hsl := (h.tells hs).1
  simp only [ints, List.length_map, Nat.mul_one] at hsl
  refine Nw.mk h fun b5 w1 h1 => Ld.arr h1 (by rw [ai_size, hl]) (new_c h1 hl (fun hv w2 h2 => ?_) (fun hv w2 h2 => ?_))
  · refine Nw.mk h2 fun b11 w3 h3 => StA.blk h3 hz hz stA_scalar fun w4 h4 => IfB.t (by decide) (hbad (.inl hv) _ h4.drop.drop)
  refine Nw.mk h2 fun b11 w3 h3 => StA.blk h3 hz (stA_size hl) stA_scalar fun w4 h4 => IfB.f (by decide) (IfB.mk (fun hneg => hbad (.inr (of_decide_eq_true hneg)) _ h4.drop.drop) (fun hneg => ?_))
  generalize hr : allS l many bits 0 0 [] 0 = r at hK
  refine ⟨fun o i w' => ∃ (k c b : Nat) (acc : List Nat), i = (k : Int) ∧ k ≤ bits.length ∧ acc.length ≤ k ∧ VSt l c b ∧ allS l many (bits.drop k) c b acc k = r ∧
      Hp E w' (OwnS 1 o ((ints acc).map vI) :: Blk b11 (.cells (stA l c b) 26 (0, 0)) :: Blk b5 (.cells (ai .u8 l) 23 (0, 0)) :: F), fun _ i _ => bits.length - i.toNat,
    ⟨0, 0, 0, [], rfl, by omega, by simp, VSt.zero hv, by rw [List.drop_zero]; exact hr, h4.ownNil 1⟩, ?_⟩
  rintro o i w5 ⟨k, c, b, acc, rfl, hk, hacc, hst, hrr, hh⟩
  have hol := hh.ownLen
  simp only [ints, List.length_map, Nat.mul_one] at hol
  have fin : ∀ w', Hp E w' (OwnS 1 o ((ints acc).map vI) :: Blk b11 (.cells (stA l c b) 26 (0, 0)) :: Blk b5 (.cells (ai .u8 l) 23 (0, 0)) :: F) → r = (acc, k, 0) → K o (k : Int) 0 w' := fun w' h' e => by
    subst e; exact hK hv o w' h'.p2.drop.p1.drop
  have bad : ∀ e w', Hp E w' (OwnS 1 o ((ints acc).map vI) :: Blk b11 (.cells (stA l c b) 26 (0, 0)) :: Blk b5 (.cells (ai .u8 l) 23 (0, 0)) :: F) → r = ([], 0, e) → K ⟨none, 0, 0⟩ 0 e w' := fun e w' h' e => by
    subst e; exact hK hv _ w' (h'.drop.drop.drop.ownNil 1)
  refine IfB.mk (fun hmany => ?_) (fun hmany => ?_)
  · have hmany : many > (acc.length : Int) := by rw [hol]; exact of_decide_eq_true hmany
    refine IfB.mk (fun heq => ?_) (fun hne => ?_)
    · have heq : k = bits.length := by rw [beq_iff_eq] at heq; omega
      subst heq
      rw [List.drop_length, allS, if_pos hmany] at hrr
      exact bad _ _ hh hrr.symm
    · have hlt : k < bits.length := by have := beq_eq_false_iff_ne.1 hne; omega
      rw [List.drop_eq_getElem_cons hlt, allS, if_pos hmany] at hrr
      have hlt2 : k < (ints bits).length := by simpa [ints] using hlt
      have hxe : (ints bits)[k] = (bits[k] : Int) := by simp [ints]
      have hst' := hs.cons (A := Blk b5 (.cells (ai .u8 l) 23 (0, 0)))
      have hst' := hst'.cons (A := Blk b11 (.cells (stA l c b) 26 (0, 0)))
      have hst' := hst'.cons (A := OwnS 1 o ((ints acc).map vI))
      refine Idx.rd (hh.tells hst') (by omega) (by omega) fun q hq hc => ?_
      refine Ld.sc (s := .int .i64) (bits[k] : Int) (by rw [hc]; simp [ints, vI, Sc.enc]) ⟨by decide, ?_⟩
      have esh : ishr .i64 (bits[k] : Int) 1 = ((bits[k] / 2 : Nat) : Int) := by
        rw [show (1 : Int) = ((1 : Nat) : Int) from rfl, ishr_nat (by decide)]
      rw [esh]
      refine IfB.mk (fun hx => ?_) (fun hx => ?_)
      · have hx : bits[k] / 2 ≠ 0 := by rw [bne_iff_ne] at hx; omega
        rw [if_pos hx] at hrr
        exact bad _ _ hh hrr.symm
      · have hx0 : ¬ bits[k] / 2 ≠ 0 := by have := bne_eq_false_iff_eq.1 hx; omega
        have hx : bits[k] ≤ 1 := by omega
        rw [if_neg hx0] at hrr
        have hd : Hp E { w5 with drawn := w5.drawn + 1 } _ := hh.drew
        refine ⟨HasF E (OwnS 1 o ((ints acc).map vI) :: Blk b11 (.cells (stA l c b) 26 (0, 0)) :: Blk b5 (.cells (ai .u8 l) 23 (0, 0)) :: F), HasF.mk hd, ?_⟩
        refine LdS.arrBlk (E := E) (fun w hw => hw.front2) (stA_size hl) (Idx.ldS hd hst' (fun w hw => hw) rfl hlt2 ?_)
        rw [hxe]
        refine ⟨step_c hd hl hst hx fun w6 h6 => ⟨HasF.mk h6, Nw.mk h6 fun bn w7 h7 => ⟨HasF.mk1 h7, StA.blk h7 hz (stA_size hl) stA_scalar fun w8 h8 => ⟨HasF.mk1 h8, ?_⟩⟩⟩,
          Nw.mk hd fun bn w6 h6 => ⟨HasF.mk1 h6, step_c h6 hl hst hx fun w7 h7 => ⟨HasF.mk1 h7, StA.blk h7 hz (stA_size hl) stA_scalar fun w8 h8 => ⟨HasF.mk1 h8, ?_⟩⟩⟩⟩
        all_goals
          have hnext := hst.next hx
          rw [i64_id (x := (k : Int) + 1) (by omega)]
          cases hsm : (stp l c b bits[k]).2 with
          | none =>
            rw [hsm] at hrr
            refine IfB.f rfl (Ld.arr h8 (stA_size hl) (StA.blk h8.p2 (stA_size hl) (stA_size hl) stA_scalar fun w9 h9 => ⟨⟨k + 1, _, _, acc, by omega, by omega, by omega, hnext, by simpa using hrr, h9.p1.drop.p1⟩, by dsimp only; omega⟩))
          | some s =>
            rw [hsm] at hrr
            refine IfB.t rfl (Nw.mk h8 fun b37 w9 h9 => run_append (ys := [vI (s : Int)]) (n := 1) ty_ints (by decide) (.inl ⟨3, by kernel_rfl⟩) h9.p2 (.inl ⟨some ⟨b37, 0, none⟩, 1, 1, rfl, rfl, h9.tells (Tells.blk rfl rfl)⟩) rfl one_scalar (by omega) (by omega) fun s' w10 h10 hs' => ?_)
            refine Ld.arr h10.p2 (stA_size hl) (StA.blk h10.p3 (stA_size hl) (stA_size hl) stA_scalar fun w11 h11 => ⟨⟨k + 1, _, _, acc ++ [s], by omega, by omega, by simp; omega, hnext, by simpa using hrr, ?_⟩, by dsimp only; omega⟩)
            rw [ints_app, List.map_append]
            exact h11.p2.drop.p2.drop.p1
  · have hmany : ¬ many > (acc.length : Int) := by rw [hol]; exact of_decide_eq_false hmany
    refine fin _ hh ?_
    rw [← hrr]
    cases bits.drop k with
    | nil => rw [allS, if_neg hmany]
    | cons x bs => rw [allS, if_neg hmany]
end
end Go.Proofs.Ytajpnkioigcejaa
