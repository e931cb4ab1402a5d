/-
  Texts packed together by program: Law30c, Law30d. Conditions: as each theorem states.
-/
import Derived.Test.YtdfalolgngnelaaDoorPd
set_option linter.unusedSimpArgs false
set_option linter.unusedVariables false
/- Law30c -/
namespace Go.Scr
/-- the lines with two lines set in at a, up to line k -/
def insL (L : List (List Nat)) (R : List Nat) (a k : Nat) : List (List Nat) := if k ≤ a then L.take k else L.take a ++ ([] :: (32 :: 32 :: 35 :: R) :: (L.take k).drop a)
theorem insL_zero (L : List (List Nat)) (R : List Nat) (a : Nat) : insL L R a 0 = [] := by unfold insL; rw [if_pos (Nat.zero_le _)]; rfl
theorem insL_step {L : List (List Nat)} {R : List Nat} {a k : Nat} (hk : k < L.length) : insL L R a (k + 1) = insL L R a k ++ (if k = a then [[], 32 :: 32 :: 35 :: R] else []) ++ [L[k]] := by
  unfold insL
  have e : L.take (k + 1) = L.take k ++ [L[k]] := by rw [List.take_add_one, List.getElem?_eq_getElem hk, Option.toList_some]
  by_cases h1 : k < a
  · rw [if_pos (by omega), if_pos (by omega), if_neg (by omega), List.append_nil, e]
  · by_cases h2 : k = a
    · subst h2
      rw [if_neg (by omega), if_pos (by omega), if_pos rfl]
      have : (L.take (k + 1)).drop k = [L[k]] := by
        rw [e, List.drop_append_of_le_length (by rw [List.length_take]; omega), List.drop_eq_nil_of_le (by rw [List.length_take]; omega), List.nil_append]
      rw [this]; simp
    · rw [if_neg (by omega), if_neg (by omega), if_neg h2, List.append_nil, e, List.drop_append_of_le_length (by rw [List.length_take]; omega)]
      simp
theorem insL_len {L : List (List Nat)} {R : List Nat} {a k : Nat} (hk : k ≤ L.length) : (insL L R a k).length = if k ≤ a then k else k + 2 := by
  unfold insL
  split
  · rw [List.length_take]; omega
  · simp only [List.length_append, List.length_cons, List.length_drop, List.length_take]; omega
theorem insL_no {L : List (List Nat)} {R : List Nat} {a k : Nat} (hL : ∀ x ∈ L, 10 ∉ x) (hR : 10 ∉ R) : ∀ x ∈ insL L R a k, 10 ∉ x := by
  intro x hx
  unfold insL at hx
  split at hx
  · exact hL x (List.mem_of_mem_take hx)
  · rcases List.mem_append.1 hx with h | h
    · exact hL x (List.mem_of_mem_take h)
    · rcases List.mem_cons.1 h with h | h
      · rw [h]; simp
      · rcases List.mem_cons.1 h with h | h
        · rw [h]
          intro hm
          rcases List.mem_cons.1 hm with q | q
          · cases q
          · rcases List.mem_cons.1 q with q | q
            · cases q
            · rcases List.mem_cons.1 q with q | q
              · cases q
              · exact hR q
        · exact hL x (List.mem_of_mem_take (List.mem_of_mem_drop h))
theorem unl_app (a b : List (List Nat)) : unl (a ++ b) = unl a ++ unl b := by simp [unl]
theorem unl_sum : ∀ (l : List (List Nat)), (unl l).length = (l.map List.length).sum + l.length
  | [] => rfl
  | x :: l => by
    rw [unl_cons, List.length_append, List.length_cons, unl_sum l, List.map_cons, List.sum_cons, List.length_cons]; omega
theorem insL_sum {L : List (List Nat)} {R : List Nat} {a k : Nat} : ((insL L R a k).map List.length).sum ≤ (L.map List.length).sum + R.length + 3 := by
  have tk : ∀ (j : Nat) (l : List (List Nat)), ((l.take j).map List.length).sum ≤ (l.map List.length).sum := by
    intro j l
    have e := congrArg (fun l => (l.map List.length).sum) (List.take_append_drop j l)
    simp only [List.map_append, List.sum_append] at e
    omega
  unfold insL
  split
  · have := tk k L; omega
  · rename_i h
    have e := congrArg (fun l => (l.map List.length).sum) (List.take_append_drop a (L.take k))
    simp only [List.map_append, List.sum_append] at e
    have h2 : (L.take k).take a = L.take a := by rw [List.take_take]; congr 1; omega
    rw [h2] at e
    have := tk k L
    simp only [List.map_append, List.map_cons, List.sum_append, List.sum_cons, List.length_nil, List.length_cons]
    omega
/-- what the lines with two more give -/
theorem plays_insL {L : List (List Nat)} {R : List Nat} {a : Nat} (ha : a ≤ L.length) : plays scn0 1 (insL L R a L.length) = match plays scn0 1 L with
    | .ok s' => .ok s'
    | .error m => .error (if a < m then m + 2 else m) := by
  unfold insL
  by_cases h : L.length ≤ a
  · rw [if_pos h, List.take_length]
    cases hp : plays scn0 1 L with
    | ok s => rfl
    | error m =>
      have := plays_err _ _ _ _ hp
      simp only
      rw [if_neg (by omega)]
  · rw [if_neg h, List.take_length]
    exact plays_ins L R a ha scn0
theorem lns_flush {l : List (List Nat)} (B : List Nat) (h : ∀ x ∈ l, 10 ∉ x) : lns (unl l ++ (sFlush ++ [32, 49, 10]) ++ B) = l ++ ((sFlush ++ [32, 49]) :: lns B) := by
  rw [List.append_assoc, lns_unl _ h]
  congr 1
  have e : sFlush ++ [32, 49, 10] ++ B = (sFlush ++ [32, 49]) ++ 10 :: B := by simp
  rw [e, lns_app (by decide)]
end Go.Scr
namespace Go.Proofs.YtdfalolgngnelaaDoor
open Go Go.Vc Go.Scr Go.Sort
set_option linter.unusedSectionVars false
theorem pairs_bt : ∀ (k : Nat) (x b : List Nat), x.length ≤ k → pairsH x = some b → Bt b
  | _, [], b, _, h => by rw [pairsH] at h; cases h; exact Bt.nil
  | _, [_], b, _, h => by rw [pairsH] at h; cases h
  | 0, _ :: _ :: _, b, hk, h => by simp at hk
  | k + 1, a :: c :: r, b, hk, h => by
    rw [pairsH] at h
    cases ha : unhx a with
    | none => rw [ha] at h; cases h
    | some y =>
      cases hc : unhx c with
      | none => rw [ha, hc] at h; cases h
      | some z =>
        rw [ha, hc] at h
        cases hr : pairsH r with
        | none => rw [hr] at h; cases h
        | some l =>
          rw [hr] at h
          simp only [Option.map_some, Option.some.injEq] at h
          subst h
          have := unhx_lt ha
          have := unhx_lt hc
          exact Bt.cons (by omega) (pairs_bt k r l (by simp only [List.length_cons] at hk; omega) hr)
theorem unhexW_bt {x b : List Nat} (h : unhexW x = some b) : Bt b := by
  unfold unhexW at h
  split at h
  · cases h; exact Bt.nil
  · split at h
    · cases h
    · exact pairs_bt _ _ _ (Nat.le_refl _) h
theorem says_good {s s' : Scn} {ln : List Nat} (hg : Scr.Good s) (h : says s ln = some s') : Scr.Good s' := by
  unfold says at h
  generalize wds ln = ws at h
  cases ws with
  | nil => cases h; exact hg
  | cons nm l =>
    by_cases h35 : nm.head? = some 35
    · rw [saysW_rem h35] at h; cases h; exact hg
    by_cases hnu : isNum nm
    · rw [saysW_num hnu] at h
      split at h
      · rename_i x
        cases hx : num x with
        | none => rw [hx] at h; cases h
        | some z =>
          rw [hx] at h
          cases h
          unfold setNum
          split
          · exact ⟨hg.deeds, hg.spoils, hg.behind⟩
          · split
            · exact ⟨hg.deeds, hg.spoils, hg.behind⟩
            · split
              · exact ⟨hg.deeds, hg.spoils, hg.behind⟩
              · exact ⟨hg.deeds, hg.spoils, hg.behind⟩
      · cases h
    by_cases hby : isByt nm
    · rw [saysW_byt hby] at h
      split at h
      · rename_i x
        cases hx : unhexW x with
        | none => rw [hx] at h; cases h
        | some b =>
          have hb := unhexW_bt hx
          rw [hx] at h
          cases h
          split
          · refine ⟨fun d hd => ?_, hg.spoils, hg.behind⟩
            rcases List.mem_append.1 hd with q | q
            · exact hg.deeds d q
            · rw [List.mem_singleton] at q; rw [q]; exact hb
          · exact ⟨hg.deeds, hg.spoils, Bt.app hg.behind hb⟩
      · cases h
    by_cases h1 : nm = sFlush
    · subst h1
      rw [saysW_flush] at h
      split at h
      · cases h
        refine ⟨fun d hd => ?_, hg.spoils, hg.behind⟩
        rcases List.mem_append.1 hd with q | q
        · exact hg.deeds d q
        · rw [List.mem_singleton] at q; rw [q]; intro c hc; cases hc
      · cases h
    by_cases h2 : nm = sCuts
    · subst h2
      rw [saysW_cuts] at h
      split at h
      · cases h
      · cases hn : nums l with
        | none => rw [hn] at h; cases h
        | some zs =>
          rw [hn] at h
          cases h
          exact ⟨hg.deeds, hg.spoils, hg.behind⟩
    by_cases h3 : nm = sSpoil
    · subst h3
      rw [saysW_spoil] at h
      split at h
      · rename_i x y
        split at h
        · rename_i z b hz hu
          have hb := unhexW_bt hu
          cases h
          refine ⟨hg.deeds, fun d hd => ?_, hg.behind⟩
          rcases List.mem_append.1 hd with q | q
          · exact hg.spoils d q
          · rw [List.mem_singleton] at q; rw [q]; exact hb b (by simp)
        · cases h
      · cases h
    rw [saysW_none h35 hnu hby h1 h2 h3] at h
    cases h
theorem plays_good : ∀ (l : List (List Nat)) (s S : Scn) (n : Nat), Scr.Good s → (∀ x ∈ l, Bt x) → plays s n l = .ok S → Scr.Good S ∧ sz S ≤ sz s + (l.map List.length).sum
  | [], s, S, n, hg, _, h => by rw [plays] at h; cases h; exact ⟨hg, by simp⟩
  | x :: l, s, S, n, hg, hb, h => by
    rw [plays] at h
    cases hs : says s x with
    | none => rw [hs] at h; cases h
    | some s' =>
      rw [hs] at h
      have h1 := says_good hg hs
      have h2 := says_sz (hb x List.mem_cons_self) hs
      obtain ⟨h3, h4⟩ := plays_good l s' S (n + 1) h1 (fun y hy => hb y (List.mem_cons_of_mem _ hy)) h
      refine ⟨h3, ?_⟩
      rw [List.map_cons, List.sum_cons]; omega
theorem pres_good (t : List Nat) (hb : Bt t) : Scr.Good (pres t).1 ∧ sz (pres t).1 ≤ t.length := by
  have h0 : sz scn0 = 0 := rfl
  unfold pres
  cases h : parse t with
  | ok S =>
    unfold parse at h
    split at h
    · cases h
    · obtain ⟨h1, h2⟩ := plays_good _ _ _ _ good_0 (lns_bt hb) h
      have := lns_sum t
      exact ⟨h1, by dsimp only; omega⟩
  | error n =>
    cases n with
    | zero => exact ⟨good_0, by dsimp only; omega⟩
    | succ n => exact ⟨good_0, by dsimp only; omega⟩
theorem good_pres (t : List Nat) (hb : Bt t) : Scr.Good (pres t).1 := (pres_good t hb).1
theorem sz_pres (t : List Nat) (hb : Bt t) (hl : t.length ≤ 1000000) : sz (pres t).1 ≤ 1000000 := Nat.le_trans (pres_good t hb).2 hl
section
variable {E w : World} {F : List HP}
set_option maxRecDepth 20000
theorem insL_bt {L : List (List Nat)} {R : List Nat} {a k : Nat} (hL : ∀ x ∈ L, Bt x) (hR : Bt R) : Bt (unl (insL L R a k)) := by
  intro c hc
  unfold unl at hc
  obtain ⟨x, hx, hc⟩ := List.mem_flatMap.1 hc
  rcases List.mem_append.1 hc with hc | hc
  · unfold insL at hx
    split at hx
    · exact hL x (List.mem_of_mem_take hx) c hc
    · rcases List.mem_append.1 hx with h | h
      · exact hL x (List.mem_of_mem_take h) c hc
      · rcases List.mem_cons.1 h with h | h
        · rw [h] at hc; cases hc
        · rcases List.mem_cons.1 h with h | h
          · rw [h] at hc
            rcases List.mem_cons.1 hc with q | q
            · omega
            · rcases List.mem_cons.1 q with q | q
              · omega
              · rcases List.mem_cons.1 q with q | q
                · omega
                · exact hR c q
          · exact hL x (List.mem_of_mem_take (List.mem_of_mem_drop h)) c hc
  · simp at hc; omega
/-- a text that is parsed; the scenario goes to a block of its own -/
theorem par1 {t : List Nat} {K : Nat → Int → Int → World → Prop} (h : Hp E w F) (hg : Tells F Gl) (hb : Bt t) (hl : t.length ≤ 100000)
    (hK : ∀ b ds sd ss sb sc G w', Hp E w' G → Tells G Gl → RdS G ds (pres t).1 sd ss sb sc → Tells G (HoldB b ⟨encs ksS (tS (pres t).1 sd ss sb sc)⟩ tySn (0, 0)) → (∀ {φ : World → Prop}, Tells F φ → Tells G φ) → (∀ {w : World}, Hp E w G → Hp E w F) → K b (pres t).2.1 (pres t).2.2 w') :
    Nw 9 ⟨[.string (strOf t)]⟩ w fun b w => Cl Tryd.prog [.st ksS, kI, kI] n_script_Parse ⟨[.slice (some ⟨b, 0, none⟩) 1 1]⟩ w fun r4 r5 r6 w => Nw tySn ⟨zS⟩ w fun b8 w => StC (⟨b8, 0, none⟩ : Addr) (encs ksS r4) 0 w fun w => K b8 r5 r6 w := by
  refine Nw.mk h fun b w h => ?_
  have e : [t].flatten = t := by simp
  refine parse_c (xs := [t]) (sx := ⟨some ⟨b, 0, none⟩, 1, 1⟩) h hg.cons (.inr ⟨b, 1, 1, rfl, Nat.le_refl _, Tells.blk (xs := [vS t]) rfl (by simp)⟩) (by simp) (by rw [e]; exact hb) (by rw [e]; omega) fun ds sd ss sb sc w hd h => ?_
  rw [e] at h hd ⊢
  refine Nw.mk h fun b8 w h => ?_
  refine StC.xw h (by rfl) (by rfl) fun w h => ?_
  obtain ⟨G, h, gG, rG, bG, tG, dG⟩ := keep1 h hd hg.cons
  exact hK b8 ds sd ss sb sc G w h gG rG bG (fun ht => tG ht.cons) fun h => (dG h).drop
set_option maxHeartbeats 4000000 in
theorem scriptLines_c {X R B : List Nat} {at_ : Int} {K : Bool → World → Prop} (h : Hp E w F) (hg : Tells F Gl) (bX : Bt X) (bR : Bt R) (bB : Bt B) (hK : ∀ w', Hp E w' F → K true w') :
    Cl Tryd.prog [kB] n_law30_ScriptLines ⟨[.string (strOf X), .string (strOf R), .int .i64 at_, .string (strOf B)]⟩ w K := by
  refine law30_ScriptLines.ok _ _ _ _ _ _ ?_
  unfold law30_ScriptLines.E
  rw [strOf_size, strOf_size, strOf_size]
  refine Join.of (fun r => X.length ≤ 5000 → R.length ≤ 100 → B.length ≤ 5000 → r w) (fun hX hR hB => ?_) fun r1 hr1 => ?_
  · refine ⟨fun i w => ∃ k : Nat, i = (k : Int) ∧ k ≤ R.length ∧ 10 ∉ R.take k ∧ Hp E w F, fun i _ => R.length - i.toNat, ⟨0, rfl, by omega, by simp, h⟩, ?_⟩
    rintro i w ⟨k, rfl, hk, hno, h⟩
    refine IfB.dm (fun hlt => ?_) (fun hge => ?_)
    · have hlt : k < R.length := by omega
      rw [Int.toNat_natCast, strAt_of bR hlt]
      refine ⟨by omega, by omega, IfB.em (fun h10 => wakes_c h hg hK) (fun h10 => ?_)⟩
      rw [i64_id (by omega)]
      refine ⟨⟨k + 1, by omega, by omega, ?_, h⟩, by (first | omega | (dsimp only; omega))⟩
      rw [List.take_add_one, List.getElem?_eq_getElem hlt, Option.toList_some]
      intro hm
      rcases List.mem_append.1 hm with q | q
      · exact hno q
      · rw [List.mem_singleton] at q; omega
    have hkl : k = R.length := by omega
    rw [hkl, List.take_length] at hno
    clear hge hk hkl
    refine rLines_c h bX (by omega) fun s19 w h => ?_
    have hsl := h.ownLen
    simp only [List.length_map, Nat.mul_one] at hsl
    have hls := lns_sum X
    have hln := lns_no X
    have hlb := lns_bt bX
    generalize hL : lns X = L at h hsl hls hln hlb
    refine IfB.dm (fun h9 => wakes_c h hg.cons fun w h => hK w h.drop) (fun h9 => ?_)
    have h9 : L.length ≤ 900 := by omega
    obtain ⟨a, ha, hal⟩ : ∃ a : Nat, (if ((s19.len : Nat) : Int) < (if (0 : Int) > at_ then 0 else at_) then ((s19.len : Nat) : Int) else (if (0 : Int) > at_ then 0 else at_)) = (a : Int) ∧ a ≤ L.length := by
      refine ⟨(if ((s19.len : Nat) : Int) < (if (0 : Int) > at_ then 0 else at_) then ((s19.len : Nat) : Int) else (if (0 : Int) > at_ then 0 else at_)).toNat, ?_, ?_⟩
      · split <;> split <;> omega
      · split <;> split <;> omega
    rw [ha]
    have hYl : ∀ k, k ≤ L.length → (unl (insL L R a k)).length ≤ 6100 := fun k hk => by
      rw [unl_sum, insL_len hk]
      have := insL_sum (L := L) (R := R) (a := a) (k := k)
      split <;> omega
    refine ⟨fun y i w => ∃ k : Nat, i = (k : Int) ∧ k ≤ L.length ∧ y = strOf (unl (insL L R a k)) ∧ Hp E w (OwnS 1 s19 (L.map vS) :: F), fun _ i _ => L.length - i.toNat, ⟨0, rfl, by omega, by rw [insL_zero]; rfl, h⟩, ?_⟩
    rintro y i w ⟨k, rfl, hk, rfl, h⟩
    have hyk := hYl k hk
    refine IfB.dm (fun hlt => ?_) (fun hge => ?_)
    · have hlt : k < L.length := by omega
      have hst := insL_step (R := R) (a := a) hlt
      have hxl : L[k].length ≤ 5000 := by
        have : L[k].length ≤ (L.map List.length).sum := by
          have e := congrArg (fun l => (l.map List.length).sum) (List.take_append_drop k L)
          simp only [List.map_append, List.sum_append] at e
          rw [List.drop_eq_getElem_cons hlt, List.map_cons, List.sum_cons] at e
          omega
        omega
      refine Join.of (fun r => r (strOf (unl (insL L R a (k + 1)))) w) (by rw [i64_id (by omega)]; exact ⟨⟨k + 1, by omega, by omega, rfl, h⟩, by (first | omega | (dsimp only; omega))⟩) fun r2 hr2 => ?_
      refine Join.of (fun r => ∀ Z : List Nat, Z.length ≤ 6300 → Z ++ L[k] ++ [10] = unl (insL L R a (k + 1)) → r (strOf Z) w) (fun Z hZ eZ => ?_) fun r3 hr3 => ?_
      · refine rdS (h.tells Tells.own) hlt ?_
        rw [show (ByteArray.mk #[10]) = strOf [10] from rfl]
        simp only [strOf_app, strOf_size]
        refine ⟨by omega, by simp only [List.length_append, List.length_cons, List.length_nil]; omega, ?_⟩
        rw [eZ]; exact hr2
      · rw [show (ByteArray.mk #[10, 32, 32, 35]) = strOf [10, 32, 32, 35] from rfl, show (ByteArray.mk #[10]) = strOf [10] from rfl]
        simp only [strOf_app, strOf_size]
        refine IfB.em (fun hka => ?_) (fun hka => ?_)
        · refine ⟨by simp only [List.length_append, List.length_cons, List.length_nil]; omega, by simp only [List.length_append, List.length_cons, List.length_nil]; omega, by simp only [List.length_append, List.length_cons, List.length_nil]; omega, ?_⟩
          refine hr3 _ (by simp only [List.length_append, List.length_cons, List.length_nil]; omega) ?_
          rw [hst, if_pos (by omega), unl_app, unl_app]
          simp [unl]
        · refine hr3 _ (by omega) ?_
          rw [hst, if_neg (by omega), unl_app, unl_app]
          simp [unl]
    · have hkl : k = L.length := by omega
      subst hkl
      clear hge hk
      have hpI := plays_insL (L := L) (R := R) hal
      have hlnY := lns_unl' (insL_no (k := L.length) (a := a) hln hno)
      have hlenY := insL_len (L := L) (R := R) (a := a) (k := L.length) (Nat.le_refl _)
      have hbY := insL_bt (k := L.length) (a := a) hlb bR
      have hpX : parse X = plays scn0 1 L := by unfold parse; rw [hL, if_neg (by omega)]
      generalize hY : insL L R a L.length = Y at h hyk hpI hlnY hlenY hbY
      have hpY : parse (unl Y) = plays scn0 1 Y := by
        unfold parse
        rw [hlnY, if_neg (by split at hlenY <;> omega)]
      have key : ∃ S n e n', pres X = (S, n, e) ∧ pres (unl Y) = (S, n', e) ∧ n' = (if (n : Int) > (a : Int) then n + 2 else n) ∧ n ≤ 100000 ∧ 0 ≤ n ∧ Scr.Good S ∧ sz S ≤ 10000000 ∧ (e = 0 → plays scn0 1 Y = .ok S) := by
        have gX := good_pres X bX
        have zX := sz_pres X bX (by omega)
        unfold pres at gX zX ⊢
        rw [hpX] at gX zX
        rw [hpX, hpY, hpI]
        cases hp : plays scn0 1 L with
        | ok S =>
          rw [hp] at gX zX
          refine ⟨S, 0, 0, 0, rfl, rfl, by rw [if_neg (by omega)], by omega, by omega, gX, by dsimp only at zX; omega, fun _ => rfl⟩
        | error m =>
          have := plays_err _ _ _ _ hp
          obtain ⟨m, rfl⟩ : ∃ j, m = j + 1 := ⟨m - 1, by omega⟩
          rw [hp] at gX zX
          by_cases hm : a < m + 1
          · refine ⟨scn0, (m : Int) + 1, 300, (m : Int) + 2 + 1, rfl, ?_, ?_, by omega, by omega, gX, by decide, fun e => by cases e⟩
            · simp only [if_pos hm]
              rfl
            · rw [if_pos (by omega)]; omega
          · refine ⟨scn0, (m : Int) + 1, 300, (m : Int) + 1, rfl, ?_, ?_, by omega, by omega, gX, by decide, fun e => by cases e⟩
            · simp only [if_neg hm]
            · rw [if_neg (by omega)]
      obtain ⟨S, n, e, n', e1, e2, e3, hnb, hn0, gS, zS', e4⟩ := key
      refine par1 h hg.cons bX (by omega) fun b42 ds sd ss sb sc G w h gG rG bG tG dG => ?_
      rw [e1] at rG bG ⊢
      refine par1 h gG hbY (by omega) fun b51 es td ts tb tc G2 w h gG2 rG2 bG2 tG2 dG2 => ?_
      rw [e2] at rG2 bG2 ⊢
      dsimp only at rG bG rG2 bG2 ⊢
      have rG := rG.to tG2
      have bG := tG2 bG
      refine Join.of (fun r => r (if n > (a : Int) then n + 2 else n) w) ?_ fun r4 hr4 => ?_
      · rw [← e3]
        refine Join.of (fun r => ∀ w, Hp E w G2 → r w) (fun w h => ?_) fun r5 hr5 => ?_
        · refine Join.of (fun r => ∀ w, e = 0 → (lns B).length ≤ 90 → Hp E w G2 → r w) (fun w he hB90 h => ?_) fun r6 hr6 => ?_
          · have hp4 := e4 he
            have hYno : ∀ x ∈ Y, 10 ∉ x := by rw [← hY]; exact insL_no hln hno
            refine Nw.mk h fun b79 w h => ?_
            have ef : [unl Y, sFlush ++ [32, 49, 10], B].flatten = unl Y ++ (sFlush ++ [32, 49, 10]) ++ B := by simp
            have hpZ : pres (unl Y ++ (sFlush ++ [32, 49, 10]) ++ B) = (scn0, (Y.length : Int) + 1, 300) := by
              have hl2 := lns_flush B hYno
              have hyl : Y.length ≤ 902 := by split at hlenY <;> omega
              unfold pres parse
              rw [hl2, if_neg (by simp only [List.length_append, List.length_cons, List.length_nil, sFlush]; omega), plays_app, hp4]
              simp only
              rw [plays, says_flush1]
              simp only
              rw [Nat.add_comm 1]
            refine parse_c (xs := [unl Y, sFlush ++ [32, 49, 10], B]) (sx := ⟨some ⟨b79, 0, none⟩, 3, 3⟩) h gG2.cons (.inr ⟨b79, 3, 3, rfl, Nat.le_refl _, Tells.blk (xs := [vS (unl Y), vS (sFlush ++ [32, 49, 10]), vS B]) rfl (by simp)⟩) (by simp) (by rw [ef]; exact (hbY.app (by decide)).app bB)
              (by rw [ef]; simp only [List.length_append, List.length_cons, List.length_nil, sFlush]; omega) fun qs ud us ub uc w hq h => ?_
            rw [ef, hpZ] at h ⊢
            have h : Hp E w G2 := h.drop.drop.drop.drop.drop.drop
            refine Nw.mk h fun b85 w h => ?_
            refine StC.xw h (by rfl) (by rfl) fun w h => ?_
            refine Join.of (fun r => r ((Y.length : Int) + 1) w) (IfB.et rfl (IfB.et rfl (wakes_c h gG2.cons fun w h => hK w (dG (dG2 h.drop)).drop))) fun r7 hr7 => ?_
            refine IfB.dm (fun q => ?_) (fun q => ?_)
            · rw [i64_id (by omega)]
              have e : (s19.len : Int) + 3 = (Y.length : Int) + 1 := by rw [hlenY, if_neg (by omega)]; omega
              rw [e]; exact hr7
            · rw [i64_id (by omega)]
              have e : (s19.len : Int) + 1 = (Y.length : Int) + 1 := by rw [hlenY, if_pos (by omega)]; omega
              rw [e]; exact hr7
          · refine Join.of (fun r => ∀ (b : Bool) w, (b = false → e = 0 ∧ (lns B).length ≤ 90) → Hp E w G2 → r b w) (fun b w hb h => ?_) fun r7 hr7 => ?_
            · cases b with
              | true => exact IfB.t rfl (wakes_c h gG2 fun w h => hK w (dG (dG2 h)).drop)
              | false => exact IfB.f rfl (hr6 w (hb rfl).1 (hb rfl).2 h)
            · refine IfB.nm (fun q => hr7 true w (fun e => by cases e) h) (fun q => ?_)
              refine rLines_c h bB (by omega) fun s72 w h => ?_
              have hl := h.ownLen
              simp only [List.length_map, Nat.mul_one] at hl
              refine hr7 _ w (fun e => ⟨q, ?_⟩) h.drop
              have := of_decide_eq_false e
              omega
        · refine Join.of (fun r => ∀ w, Hp E w G2 → r false w) (fun w h => IfB.f rfl (hr5 w h)) fun r6 hr6 => ?_
          refine IfB.nf rfl (IfB.nf rfl ?_)
          refine Ld.ht (x := tS S sd ss sb sc) (h.tells bG) rfl ?_
          refine Ld.ht (x := tS S td ts tb tc) (h.tells bG2) rfl ?_
          refine equal_c h rG rG2 gS gS zS' fun w h => ?_
          rw [decide_eq_true rfl]
          exact hr6 w h
      · refine IfB.dm (fun q => ?_) (fun q => ?_)
        · rw [if_pos q] at hr4
          rw [i64_id (by omega)]
          exact hr4
        · rw [if_neg q] at hr4
          exact hr4
  · refine Join.of (fun r => ∀ (b : Bool), (b = false → X.length ≤ 5000 ∧ R.length ≤ 100 ∧ B.length ≤ 5000) → r b w) (fun b hb => ?_) fun r2 hr2 => ?_
    · cases b with
      | true => exact IfB.t rfl (wakes_c h hg hK)
      | false => exact IfB.f rfl (hr1 (hb rfl).1 (hb rfl).2.1 (hb rfl).2.2)
    · refine IfB.dm (fun h1 => hr2 true fun e => by cases e) (fun h1 => ?_)
      refine IfB.dm (fun h2 => hr2 true fun e => by cases e) (fun h2 => ?_)
      refine hr2 _ fun e => ⟨by omega, by omega, ?_⟩
      have := of_decide_eq_false e
      omega
end
end Go.Proofs.YtdfalolgngnelaaDoor
/- Law30d -/
namespace Go.Proofs.YtdfalolgngnelaaDoor
open Go Go.Vc Go.Scr Go.Sort
set_option linter.unusedSectionVars false
section
variable {E w : World} {F : List HP}
set_option maxRecDepth 20000
set_option maxHeartbeats 4000000 in
theorem scriptMatches_c {X Y b : List Nat} {s o : Scn} {ds es : List Dd} {sd ss sb sc td ts tb tc sx : Sl} {K : Bool → World → Prop} (h : Hp E w F) (hg : Tells F Gl) (bX : Bt X) (bY : Bt Y) (rs : RdS F ds s sd ss sb sc) (ro : RdS F es o td ts tb tc) (gs : Scr.Good s) (go : Scr.Good o) (hs : Tells F (SlT 1 sx (b.map vB))) (bb : Bt b) (hK : ∀ w', Hp E w' F → K true w') :
    Cl Tryd.prog [kB] n_law30_ScriptMatches ⟨[.string (strOf X), .string (strOf Y), .agg ⟨encs ksS (tS s sd ss sb sc)⟩, .agg ⟨encs ksS (tS o td ts tb tc)⟩, .slice sx.base sx.len sx.cap]⟩ w K := by
  refine law30_ScriptMatches.ok _ _ _ _ _ _ _ ?_
  unfold law30_ScriptMatches.E
  have hlen : sx.len = b.length := by have := (h.tells hs).1; simpa using this.symm
  refine Nw.mk h fun b7 w h => ?_
  refine Nw.mk h fun b9 w h => ?_
  have h : Hp E w (Blk b9 (.cells ⟨encs ksS (tS o td ts tb tc)⟩ tySn (0, 0)) :: Blk b7 (.cells ⟨encs ksS (tS s sd ss sb sc)⟩ tySn (0, 0)) :: F) := h
  have t7 : Tells (Blk b9 (.cells ⟨encs ksS (tS o td ts tb tc)⟩ tySn (0, 0)) :: Blk b7 (.cells ⟨encs ksS (tS s sd ss sb sc)⟩ tySn (0, 0)) :: F) (HoldB b7 ⟨encs ksS (tS s sd ss sb sc)⟩ tySn (0, 0)) := Tells.hb.cons
  have t9 : Tells (Blk b9 (.cells ⟨encs ksS (tS o td ts tb tc)⟩ tySn (0, 0)) :: Blk b7 (.cells ⟨encs ksS (tS s sd ss sb sc)⟩ tySn (0, 0)) :: F) (HoldB b9 ⟨encs ksS (tS o td ts tb tc)⟩ tySn (0, 0)) := Tells.hb
  have hg := hg.cons.cons (A := Blk b9 (.cells ⟨encs ksS (tS o td ts tb tc)⟩ tySn (0, 0))) (F := Blk b7 (.cells ⟨encs ksS (tS s sd ss sb sc)⟩ tySn (0, 0)) :: F)
  have rs := rs.cons.cons (A := Blk b9 (.cells ⟨encs ksS (tS o td ts tb tc)⟩ tySn (0, 0))) (F := Blk b7 (.cells ⟨encs ksS (tS s sd ss sb sc)⟩ tySn (0, 0)) :: F)
  have ro := ro.cons.cons (A := Blk b9 (.cells ⟨encs ksS (tS o td ts tb tc)⟩ tySn (0, 0))) (F := Blk b7 (.cells ⟨encs ksS (tS s sd ss sb sc)⟩ tySn (0, 0)) :: F)
  have hs := hs.cons.cons (A := Blk b9 (.cells ⟨encs ksS (tS o td ts tb tc)⟩ tySn (0, 0))) (F := Blk b7 (.cells ⟨encs ksS (tS s sd ss sb sc)⟩ tySn (0, 0)) :: F)
  have hK : ∀ w', Hp E w' (Blk b9 (.cells ⟨encs ksS (tS o td ts tb tc)⟩ tySn (0, 0)) :: Blk b7 (.cells ⟨encs ksS (tS s sd ss sb sc)⟩ tySn (0, 0)) :: F) → K true w' := fun w' h => hK w' h.drop.drop
  generalize Blk b9 (.cells ⟨encs ksS (tS o td ts tb tc)⟩ tySn (0, 0)) :: Blk b7 (.cells ⟨encs ksS (tS s sd ss sb sc)⟩ tySn (0, 0)) :: F = F at h t7 t9 hg rs ro hs hK
  rw [strOf_size, strOf_size]
  refine Join.of (fun r => ∀ w, X.length ≤ 10000 → Y.length ≤ 10000 → small s → small o → b.length ≤ 200 → Hp E w F → r w) (fun w hX hY sms smo hb2 h => ?_) fun r1 hr1 => ?_
  · refine Nw.mk h fun b24 w h => ?_
    have ef : [X, Y].flatten = X ++ Y := by simp
    have bXY := bX.app bY
    have hXY : (X ++ Y).length ≤ 20000 := by rw [List.length_append]; omega
    refine parse_c (xs := [X, Y]) (sx := ⟨some ⟨b24, 0, none⟩, 2, 2⟩) h hg.cons (.inr ⟨b24, 2, 2, rfl, Nat.le_refl _, Tells.blk (xs := [vS X, vS Y]) rfl (by simp)⟩) (by simp) (by rw [ef]; exact bXY) (by rw [ef]; omega) fun ps ud us ub uc w hd h => ?_
    rw [ef] at h hd ⊢
    rw [strOf_app]
    generalize hT : X ++ Y = T at h hd bXY hXY ⊢
    obtain ⟨gT, zT⟩ := pres_good T bXY
    refine Nw.mk h fun b30 w h => ?_
    refine StC.xw h (by rfl) (by rfl) fun w h => ?_
    obtain ⟨G, h, gG, rG, bG, tG, dG⟩ := keep1 h hd hg.cons
    refine ⟨by omega, ?_⟩
    refine rParse_c h bXY (by omega) fun qs vd vs vb vc w hq h => ?_
    refine Nw.mk h fun b37 w h => ?_
    refine StC.xw h (by rfl) (by rfl) fun w h => ?_
    obtain ⟨G2, h, gG2, rG2, bG2, tG2, dG2⟩ := keep1 h hq gG
    have tt : ∀ {φ : World → Prop}, Tells F φ → Tells G2 φ := fun ht => tG2 (tG ht.cons)
    have dd : ∀ {w : World}, Hp E w G2 → Hp E w F := fun h => (dG (dG2 h)).drop
    refine Join.of (fun r => ∀ w, Hp E w G2 → r w) (fun w h => ?_) fun r2 hr2 => ?_
    · refine Ld.ht (x := tS s sd ss sb sc) (h.tells (tt t7)) rfl ?_
      refine print_c h gG2 (rs.to tt) gs sms fun w h => ?_
      refine Ld.ht (x := tS s sd ss sb sc) (h.tells (tt t7)) rfl ?_
      refine rPrint_c h (rs.to tt) gs sms fun w h => ?_
      refine Join.of (fun r => ∀ w, Hp E w G2 → r true w) (fun w h => hK w (dd h)) fun r3 hr3 => ?_
      have h := h.drew (n := w.drawn + 1)
      refine ⟨fun w => HasF E G2 w, HasF.mk h, ?_⟩
      refine IfB.t (by simp) (IfB.et rfl ?_)
      refine LdS.xt (x := tS s sd ss sb sc) (fun w hw => hw.tells (tt t7)) rfl ?_
      refine LdS.xt (x := tS o td ts tb tc) (fun w hw => hw.tells (tt t9)) rfl ?_
      refine LdS.xt (x := tS s sd ss sb sc) (fun w hw => hw.tells (tt t7)) rfl ?_
      refine LdS.xt (x := tS o td ts tb tc) (fun w hw => hw.tells (tt t9)) rfl ?_
      have zs : sz s ≤ 10000000 := by obtain ⟨m1, m2, m3, m4⟩ := sms; unfold sz; omega
      refine equal_c h (rs.to tt) (ro.to tt) gs go zs fun w h => ⟨HasF.mk h, ?_⟩
      refine rEqual_c h (rs.to tt) (ro.to tt) gs go zs fun w h => ⟨HasF.mk h, ?_⟩
      refine IfB.t (by simp) ?_
      exact wakes_c h gG2 fun w h => ⟨HasF.mk h, hr3 w h⟩
    · refine Join.of (fun r => ∀ w, Hp E w G2 → r false w) (fun w h => IfB.f rfl (hr2 w h)) fun r3 hr3 => ?_
      refine Ld.ht (x := tS (pres T).1 ud us ub uc) (h.tells (tG2 bG)) rfl ?_
      refine Ld.ht (x := tS (pres T).1 vd vs vb vc) (h.tells bG2) rfl ?_
      refine rEqual_c h (rG.to tG2) rG2 gT gT (by omega) fun w h => ?_
      rw [decide_eq_true rfl]
      refine IfB.f rfl (IfB.nf rfl (IfB.nf rfl ?_))
      refine hex_c h (tt hs) bb (by omega) fun w h => ?_
      refine rHex_c h (tt hs) bb (by omega) fun w h => ?_
      have e : (!((strOf (hexW b)).toList == (strOf (hexW b)).toList)) = false := by simp
      rw [e]
      exact hr3 w h
  · refine Join.of (fun r => ∀ (f : Bool) w, (f = false → X.length ≤ 10000 ∧ Y.length ≤ 10000 ∧ small s ∧ small o ∧ b.length ≤ 200) → Hp E w F → r f w) (fun f w hf h => ?_) fun r2 hr2 => ?_
    · cases f with
      | true => exact IfB.t rfl (wakes_c h hg hK)
      | false =>
        obtain ⟨h1, h2, h3, h4, h5⟩ := hf rfl
        exact IfB.f rfl (hr1 w h1 h2 h3 h4 h5 h)
    · refine IfB.dm (fun h1 => hr2 true w (fun e => by cases e) h) (fun h1 => ?_)
      refine IfB.dm (fun h2 => hr2 true w (fun e => by cases e) h) (fun h2 => ?_)
      refine Ld.ht (x := tS s sd ss sb sc) (h.tells t7) rfl ?_
      refine rGreat_c h rs (fun w h => IfB.t rfl (hr2 true w (fun e => by cases e) h)) (fun w h sms => IfB.f rfl ?_)
      refine Ld.ht (x := tS o td ts tb tc) (h.tells t9) rfl ?_
      refine rGreat_c h ro (fun w h => IfB.t rfl (hr2 true w (fun e => by cases e) h)) (fun w h smo => IfB.f rfl ?_)
      refine hr2 _ w (fun e => ⟨by omega, by omega, sms, smo, ?_⟩) h
      have := of_decide_eq_false e
      omega
end
end Go.Proofs.YtdfalolgngnelaaDoor
