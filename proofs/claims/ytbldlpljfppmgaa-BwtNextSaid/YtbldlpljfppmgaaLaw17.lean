/-
  The examples of winepresslaw17; the law BwtMatches. Conditions: as each theorem states.
-/
import Derived.Test.YtbldlpljfppmgaaRef17b
import Derived.Test.YtbldlpljfppmgaaFlaw17
import Derived.Test.YtbldlpljfppmgaaInts07
namespace Go.Vc
open Go
/-- a constant's bytes: the row gets its mark -/
theorem run_convMark {P : Program} {E w : World} {F : List HP} {t e : TypeId} {C : Array Value} {b n c : Nat} {K : Sl → World → Prop} (ht : P.underlying t = some (.slice e)) (he : P.underlying e = some (.int .u8))
    (h : Hp E w (Blk b (.cells C e (0, 0)) :: F)) (hK : ∀ w', Hp E w' (Blk b (.cells C e (C.size, C.size + 1)) :: F) → K ⟨some ⟨b, 0, none⟩, n, c⟩ w') : Run P (convert t t (.slice (some ⟨b, 0, none⟩) n c)) kS w K := by
  have hb := h.blk
  have hlt : b < w.heap.size := by
    rcases Nat.lt_or_ge b w.heap.size with hh | hh
    · exact hh
    · simp [Array.getElem?_eq_none hh] at hb
  have hsh : w.shape? b = some (e, C.size) := by unfold World.shape?; rw [hb]
  have key : (convert t t (.slice (some ⟨b, 0, none⟩) n c)).run P w = .ok (.slice (some ⟨b, 0, none⟩) n c) (w.freeze ⟨b, C.size, none⟩ 1) := by
    simp [convert, run_underlying ht, run_underlying he, markStringish, hsh]
  unfold Run; rw [key]
  refine hK _ (h.setObj ?_ rfl rfl rfl)
  unfold World.freeze
  rw [if_neg (by decide)]
  have hg : w.heap[b] = .cells C e (0, 0) := by rw [Array.getElem?_eq_getElem hlt] at hb; exact Option.some.inj hb
  apply Array.ext_getElem?
  intro i
  rw [Array.set!_eq_setIfInBounds]
  by_cases hi : b = i
  · subst hi
    simp [Array.getElem?_modify, hb, hlt]
    rw [Array.getElem_modify_self, hg]
    simp
  · rw [Array.getElem?_setIfInBounds_ne hi, Array.getElem?_modify]
    simp [hi]
end Go.Vc
namespace Go.Bw
open Go Go.Vc Go.Rk
instance (last : List Nat) (index : Nat) : Decidable (okB last index) := by unfold okB; infer_instance
def exT : List Nat := [98, 97, 110, 97, 110, 97]
def exL : List Nat := [97, 110, 110, 98, 97, 97]
theorem exT_ord : ordB exT = [6, 5, 3, 1, 0, 4, 2] := sorted_eq (sl_so exT) ((srt_perm _).trans (by decide +kernel)) (ordB_sorted exT) (by decide +kernel)
theorem exT_last : lastB exT = exL := by unfold lastB colE; rw [exT_ord]; decide +kernel
theorem exT_idx : idxB exT = 4 := by decide +kernel
theorem exL_ok : okB exL 4 := by have := (back_turn exT).1; rwa [exT_last, exT_idx] at this
theorem exL_text : textB exL 4 = exT := by have := (back_turn exT).2; rwa [exT_last, exT_idx] at this
theorem exL_no : ¬ okB exL 3 := by decide +kernel
theorem exT_b : ∀ x ∈ exT, x < 256 := by decide +kernel
theorem exL_b : ∀ x ∈ exL, x < 256 := by decide +kernel
theorem nil_ok : okB [] 0 := by decide +kernel
theorem ord_nil : ordB [] = [0] := sorted_eq (sl_so []) ((srt_perm _).trans (by decide +kernel)) (ordB_sorted []) (by decide +kernel)
theorem last_nil : lastB [] = [] := List.length_eq_zero_iff.1 (lastB_len [])
end Go.Bw
namespace Go.Proofs.Ytbldlpljfppmgaa
open Go Go.Vc Go.Bw Go.Hs
instance (last : List Nat) (index : Int) : Decidable (okI last index) := by unfold okI; infer_instance
instance (m : Nat) (index row : Int) : Decidable (inRow m index row) := by unfold inRow; infer_instance
def backT (last : List Nat) (index : Int) : List Nat := if okI last index then textB last index.toNat else []
def backE (last : List Nat) (index : Int) : Int := if okI last index then 0 else 170
section
variable {E w : World} {F : List HP}
set_option maxRecDepth 200000 in
theorem mark_c {C : Array Value} {b n c : Nat} {K : Sl → World → Prop} (h : Hp E w (Blk b (.cells C 5 (0, 0)) :: F)) (hK : ∀ w', Hp E w' (Blk b (.cells C 5 (C.size, C.size + 1)) :: F) → K ⟨some ⟨b, 0, none⟩, n, c⟩ w') :
    Run Try.prog (convert 42 42 (.slice (some ⟨b, 0, none⟩) n c)) kS w K := run_convMark (by kernel_rfl) (by kernel_rfl) h hK
set_option maxRecDepth 200000 in
theorem str_c {s : Sl} {b : List Nat} {K : ByteArray → World → Prop} (hs : SlT 1 s (b.map vB) w) (hK : K (strOf b) w) : Run Try.prog (convert 42 9 (.slice s.base s.len s.cap)) kStr w K :=
  run_toStr (s := s) (b := b) (e := 5) (by kernel_rfl) (by kernel_rfl) (by kernel_rfl) hs hK
theorem back1 {last : List Nat} {s : Sl} {index : Int} {K : Sl → Int → World → Prop} (h : Hp E w F) (hs : Tells F (SlT 1 s (last.map vB))) (hb : ∀ x ∈ last, x < 256) (hn : last.length ≤ 1000)
    (hK : ∀ s' w', Hp E w' (OwnS 1 s' ((backT last index).map vB) :: F) → K s' (backE last index) w') : Cl Try.prog [kS, kI] n_bwt_Back ⟨[.slice s.base s.len s.cap, .int .i64 index]⟩ w K :=
  bwBack_c h hs hb (by omega) (fun ho s' w' h' => by have := hK s' w'; rw [backT, backE, if_pos ho, if_pos ho] at this; exact this h') (fun ho w' h' => by have := hK ⟨none, 0, 0⟩ w'; rw [backT, backE, if_neg ho, if_neg ho] at this; exact this (h'.ownNil 1))
theorem rBack1 {last : List Nat} {s : Sl} {index : Int} {K : Sl → Int → World → Prop} (h : Hp E w F) (hs : Tells F (SlT 1 s (last.map vB))) (hb : ∀ x ∈ last, x < 256) (hn : last.length ≤ 1000)
    (hK : ∀ s' w', Hp E w' (OwnS 1 s' ((backT last index).map vB) :: F) → K s' (backE last index) w') : Cl Try.prog [kS, kI] n_ref17_Back ⟨[.slice s.base s.len s.cap, .int .i64 index]⟩ w K :=
  rBack17_c h hs hb (by omega) (fun ho s' w' h' => by have := hK s' w'; rw [backT, backE, if_pos ho, if_pos ho] at this; exact this h') (fun ho w' h' => by have := hK ⟨none, 0, 0⟩ w'; rw [backT, backE, if_neg ho, if_neg ho] at this; exact this (h'.ownNil 1))
theorem valid1 {last : List Nat} {s : Sl} {index : Int} {K : Bool → World → Prop} (h : Hp E w F) (hs : Tells F (SlT 1 s (last.map vB))) (hb : ∀ x ∈ last, x < 256) (hn : last.length ≤ 1000)
    (hK : ∀ w', Hp E w' F → K (decide (okI last index)) w') : Cl Try.prog [kB] n_bwt_Valid ⟨[.slice s.base s.len s.cap, .int .i64 index]⟩ w K :=
  bwValid_c h hs hb (by omega) (fun ho w' h' => by have := hK w' h'; rwa [decide_eq_true ho] at this) (fun ho w' h' => by have := hK w' h'; rwa [decide_eq_false ho] at this)
theorem rValid1 {last : List Nat} {s : Sl} {index : Int} {K : Bool → World → Prop} (h : Hp E w F) (hs : Tells F (SlT 1 s (last.map vB))) (hb : ∀ x ∈ last, x < 256) (hn : last.length ≤ 1000)
    (hK : ∀ w', Hp E w' F → K (decide (okI last index)) w') : Cl Try.prog [kB] n_ref17_Valid ⟨[.slice s.base s.len s.cap, .int .i64 index]⟩ w K :=
  rValid17_c h hs hb (by omega) (fun ho w' h' => by have := hK w' h'; rwa [decide_eq_true ho] at this) (fun ho w' h' => by have := hK w' h'; rwa [decide_eq_false ho] at this)
def nextN (last : List Nat) (index row : Int) : Int := if inRow last.length index row then (nx last (atB index.toNat row.toNat) : Int) else 0
def nextC (last : List Nat) (index row : Int) : Int := if inRow last.length index row then (last.getD (atB index.toNat row.toNat) 0 : Int) else 0
theorem next1 {last : List Nat} {s : Sl} {index row : Int} {K : Int → Int → Bool → World → Prop} (h : Hp E w F) (hs : Tells F (SlT 1 s (last.map vB))) (hn : last.length ≤ 1000)
    (hK : ∀ w', Hp E w' F → K (nextN last index row) (nextC last index row) (decide (inRow last.length index row)) w') : Cl Try.prog [kI, kInt .u8, kB] n_bwt_Next ⟨[.slice s.base s.len s.cap, .int .i64 index, .int .i64 row]⟩ w K :=
  bwNext_c h hs (by rw [big_eq]; omega) (fun ho w' h' => by have := hK w' h'; rwa [nextN, nextC, if_pos ho, if_pos ho, decide_eq_true ho] at this) (fun ho w' h' => by have := hK w' h'; rwa [nextN, nextC, if_neg ho, if_neg ho, decide_eq_false ho] at this)
theorem rNext1 {last : List Nat} {s : Sl} {index row : Int} {K : Int → Int → Bool → World → Prop} (h : Hp E w F) (hs : Tells F (SlT 1 s (last.map vB))) (hn : last.length ≤ 1000)
    (hK : ∀ w', Hp E w' F → K (nextN last index row) (nextC last index row) (decide (inRow last.length index row)) w') : Cl Try.prog [kI, kInt .u8, kB] n_ref17_Next ⟨[.slice s.base s.len s.cap, .int .i64 index, .int .i64 row]⟩ w K :=
  rNext17_c h hs (by rw [big_eq]; omega) (fun ho w' h' => by have := hK w' h'; rwa [nextN, nextC, if_pos ho, if_pos ho, decide_eq_true ho] at this) (fun ho w' h' => by have := hK w' h'; rwa [nextN, nextC, if_neg ho, if_neg ho, decide_eq_false ho] at this)
theorem vB_list (l : List Nat) : (⟨l.map vB⟩ : Array Value).toList = l.map vB := rfl
theorem exI_4 : okI exL 4 := ⟨by decide, exL_ok⟩
theorem exI_3 : ¬ okI exL 3 := fun h => exL_no h.2
theorem exI_7 : ¬ okI exL 7 := fun h => absurd h.2.1 (by decide +kernel)
theorem exI_ab : ¬ okI [97, 98] 0 := fun h => okB_zero (by decide) h.2
theorem exI_nil : okI [] 0 := ⟨by decide, nil_ok⟩
theorem ex_next : nextN exL 4 0 = 1 ∧ nextC exL 4 0 = 97 ∧ decide (inRow exL.length 4 0) = true ∧ decide (inRow exL.length 4 4) = false := by decide +kernel
theorem ex_less : lessI exT 6 5 = true ∧ lessI exT 5 6 = false ∧ lessI exT 7 0 = false := by decide +kernel
set_option maxRecDepth 100000 in
theorem wakes17_c {K : Bool → World → Prop} (h : Hp E w F) (hK : ∀ w', Hp E w' F → K true w') : Cl Try.prog [kB] n_law17_wakes ⟨[]⟩ w K := by
  refine law17_wakes.ok _ _ ?_
  unfold law17_wakes.E
  refine Nw.mk h fun b2 w1 h1 => mark_c h1 fun w1 h1 => ?_
  have tT : ∀ {G : List HP}, Tells (Blk b2 (.cells ⟨exT.map vB⟩ 5 (6, 7)) :: G) (SlT 1 ⟨some ⟨b2, 0, none⟩, 6, 6⟩ (exT.map vB)) := Tells.blk rfl rfl
  refine bwTurn_c (t := exT) (s := ⟨some ⟨b2, 0, none⟩, 6, 6⟩) h1 tT exT_b (by decide) fun s6 w2 h2 => ?_
  rw [exT_last, exT_idx] at *
  refine Nw.mk h2 fun b9 w3 h3 => mark_c h3 fun w3 h3 => ?_
  refine back1 (last := exL) (s := ⟨some ⟨b9, 0, none⟩, 6, 6⟩) (index := 4) h3 (Tells.blk rfl rfl) exL_b (by decide) fun s13 w4 h4 => ?_
  rw [backT, if_pos exI_4, show (4 : Int).toNat = 4 from rfl, exL_text] at h4
  have h4 := h4.p1.drop
  refine Nw.mk h4 fun b16 w5 h5 => mark_c h5 fun w5 h5 => ?_
  refine back1 (last := exL) (s := ⟨some ⟨b16, 0, none⟩, 6, 6⟩) (index := 3) h5 (Tells.blk rfl rfl) exL_b (by decide) fun s20 w6 h6 => ?_
  have h6 := h6.drop.drop
  refine Nw.mk h6 fun b23 w7 h7 => mark_c h7 fun w7 h7 => ?_
  refine back1 (last := [97, 98]) (s := ⟨some ⟨b23, 0, none⟩, 2, 2⟩) (index := 0) h7 (Tells.blk rfl rfl) (by decide) (by decide) fun s27 w8 h8 => ?_
  have h8 := h8.drop.drop
  refine bwTurn_c (t := []) (s := ⟨none, 0, 0⟩) h8 Tells.nil (by simp) (by decide) fun s30 w9 h9 => ?_
  have l30 := h9.ownLen
  rw [last_nil, List.map_nil, List.length_nil, Nat.mul_one] at l30
  have h9 := h9.drop
  refine back1 (last := []) (s := ⟨none, 0, 0⟩) (index := 0) h9 Tells.nil (by simp) (by decide) fun s33 w10 h10 => ?_
  have l33 := h10.ownLen
  have e33 : backT [] 0 = [] := by decide +kernel
  rw [e33, List.map_nil, List.length_nil, Nat.mul_one] at l33
  have h10 := h10.drop
  have t6 : Tells (OwnS 1 s13 (exT.map vB) :: OwnS 1 s6 (exL.map vB) :: Blk b2 (.cells ⟨exT.map vB⟩ 5 (6, 7)) :: F) (SlT 1 s6 (exL.map vB)) := Tells.cons Tells.own
  have tT' : Tells (OwnS 1 s13 (exT.map vB) :: OwnS 1 s6 (exL.map vB) :: Blk b2 (.cells ⟨exT.map vB⟩ 5 (6, 7)) :: F) (SlT 1 ⟨some ⟨b2, 0, none⟩, 6, 6⟩ (exT.map vB)) := Tells.cons (Tells.cons tT)
  obtain ⟨n1, n2, n3, n4⟩ := ex_next
  obtain ⟨e1, e2, e3⟩ := ex_less
  refine next1 (last := exL) (index := 4) (row := 0) h10 t6 (by decide) fun w11 h11 => next1 (last := exL) (index := 4) (row := 4) h11 t6 (by decide) fun w12 h12 => ?_
  refine bwOrder_c (t := exT) (s := ⟨some ⟨b2, 0, none⟩, 6, 6⟩) h12 tT' exT_b (by decide) fun s44 w13 h13 => Nw.mk h13 fun b46 w14 h14 => ?_
  rw [exT_ord] at h14
  refine ints07_c (s := s44) (s2 := ⟨some ⟨b46, 0, none⟩, 7, 7⟩) (a := zl [6, 5, 3, 1, 0, 4, 2]) (b := [6, 5, 3, 1, 0, 4, 2]) h14 (Tells.cons Tells.own) (Tells.blk rfl rfl) (by decide) fun w15 h15 => ?_
  have h15 := h15.drop.drop
  refine IfB.t (by decide) (str_c (b := exL) (h15.tells t6) (IfB.t (by decide +kernel) (IfB.t (by decide) (str_c (b := exT) (h15.tells Tells.own) (IfB.t (by decide +kernel) ?_)))))
  refine IfB.t (by rw [backE, if_pos exI_4]; rfl) (IfB.t (by rw [backE, if_neg exI_3]; rfl) (IfB.t (by rw [backE, if_neg exI_ab]; rfl) (IfB.t (by rw [← l30]; rfl) (IfB.t (by decide +kernel) (IfB.t (by rw [← l33]; rfl) (IfB.t (by rw [backE, if_pos exI_nil]; rfl) (IfB.t (by rw [n1]; rfl) (IfB.t (by rw [n2]; rfl) (IfB.t n3 (IfB.t (by rw [n4]; rfl) ?_))))))))))
  refine bwLess_c (t := exT) (s := ⟨some ⟨b2, 0, none⟩, 6, 6⟩) h15 tT' exT_b (Nat.le_refl _) fun w16 h16 => IfB.t e1 ?_
  refine bwLess_c (t := exT) (s := ⟨some ⟨b2, 0, none⟩, 6, 6⟩) h16 tT' exT_b (Nat.le_refl _) fun w17 h17 => IfB.t (by rw [e2]; rfl) ?_
  refine bwLess_c (t := exT) (s := ⟨some ⟨b2, 0, none⟩, 6, 6⟩) h17 tT' exT_b (Nat.le_refl _) fun w18 h18 => IfB.t (by rw [e3]; rfl) ?_
  refine valid1 (last := exL) (index := 4) h18 t6 exL_b (by decide) fun w19 h19 => IfB.t (decide_eq_true exI_4) ?_
  refine valid1 (last := exL) (index := 7) h19 t6 exL_b (by decide) fun w20 h20 => ?_
  rw [decide_eq_false exI_7]
  exact hK w20 h20.drop.drop.drop
set_option maxRecDepth 100000 in
theorem bwMatches_law {t last : List Nat} {s sl : Sl} {i k index row : Int} {K : Bool → World → Prop} (h : Hp E w F) (hs : Tells F (SlT 1 s (t.map vB))) (hb : ∀ x ∈ t, x < 256) (hcap : s.len ≤ s.cap) (hsl : Tells F (SlT 1 sl (last.map vB))) (hbl : ∀ x ∈ last, x < 256) (hK : ∀ w', Hp E w' F → K true w') :
    Cl Try.prog [kB] n_law17_BwtMatches ⟨[.slice s.base s.len s.cap, .slice sl.base sl.len sl.cap, .int .i64 i, .int .i64 k, .int .i64 index, .int .i64 row]⟩ w K := by
  refine law17_BwtMatches.ok _ _ _ _ _ _ _ _ ?_
  unfold law17_BwtMatches.E
  simp only [Join_eq]
  have hl1 := (h.tells hs).1
  have hl2 := (h.tells hsl).1
  simp only [List.length_map, Nat.mul_one] at hl1 hl2
  refine IfB.mk (fun _ => wakes17_c h fun w2 h2 => hK w2 h2) (fun g1 => IfB.mk (fun _ => wakes17_c h fun w2 h2 => hK w2 h2) (fun g2 => ?_))
  have g1 := of_decide_eq_false g1
  have g2 := of_decide_eq_false g2
  refine bwTurn_c h hs hb (by omega) fun s14 w1 h1 => ?_
  refine rTurn17_c h1 (Tells.cons hs) (by omega) fun s17 w2 h2 => ?_
  refine next1 h2 (Tells.cons (Tells.cons hsl)) (by omega) fun w3 h3 => rNext1 h3 (Tells.cons (Tells.cons hsl)) (by omega) fun w4 h4 => ?_
  refine back1 h4 (Tells.cons (Tells.cons hsl)) hbl (by omega) fun s28 w5 h5 => rBack1 h5 (Tells.cons (Tells.cons (Tells.cons hsl))) hbl (by omega) fun s31 w6 h6 => ?_
  refine str_c (b := lastB t) (h6.tells (Tells.cons (Tells.cons (Tells.cons Tells.own)))) (str_c (b := lastB t) (h6.tells (Tells.cons (Tells.cons Tells.own))) (IfB.f (by simp) (IfB.f (by simp) (IfB.f (by simp) (IfB.f (by simp) (IfB.f (by simp) ?_))))))
  refine str_c (b := backT last index) (h6.tells (Tells.cons Tells.own)) (str_c (b := backT last index) (h6.tells Tells.own) (IfB.f (by simp) (IfB.f (by simp) ?_)))
  have h7 := h6.drop.drop.drop.drop
  refine bwLess_c h7 hs hb hcap fun w7 h8 => rLess17_c h8 hs (by rw [big_eq]; omega) fun w8 h9 => IfB.t (by simp) ?_
  refine bwOrder_c h9 hs hb (by omega) fun s48 w9 h10 => rOrder17_c h10 (Tells.cons hs) (by omega) fun s50 w10 h11 => ?_
  refine ints07_c h11 (Tells.cons Tells.own) Tells.own (by rw [zl_len, ordB_len, big_eq]; omega) fun w11 h12 => IfB.t (by simp) ?_
  refine valid1 h12 (Tells.cons (Tells.cons hsl)) hbl (by omega) fun w12 h13 => rValid1 h13 (Tells.cons (Tells.cons hsl)) hbl (by omega) fun w13 h14 => IfB.t (by simp) ?_
  exact wakes17_c h14 fun w14 h15 => hK w14 h15.drop.drop
end
end Go.Proofs.Ytbldlpljfppmgaa
