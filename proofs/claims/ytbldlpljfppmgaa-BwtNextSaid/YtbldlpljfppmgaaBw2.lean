/-
  Package bwt: contracts of Back, Valid, Order, Turn. Conditions: as each theorem states.
-/
import Derived.Test.YtbldlpljfppmgaaBw1
import Derived.Test.YtbldlpljfppmgaaRanked1
import Derived.Test.YtbldlpljfppmgaaMap2
import Derived.Test.YtbldlpljfppmgaaFslices
import Derived.Test.YtbldlpljfppmgaaShf
namespace Go.Vc
open Go
theorem findAt_none {α β : Type} [DecidableEq α] {a : α} : ∀ {l : List (α × β)} {i : Nat}, a ∉ l.map (·.1) → findAt a l i = none
  | [], _, _ => rfl
  | p :: l, i, h => by
    simp only [List.map_cons, List.mem_cons, not_or] at h
    unfold findAt
    rw [if_neg h.1, findAt_none h.2]
theorem findAt_at {α β : Type} [DecidableEq α] {a : α} : ∀ {l : List (α × β)} {i j : Nat} {v : β}, (l.map (·.1)).Nodup → l[j]? = some (a, v) → findAt a l i = some (i + j, v)
  | [], _, _, _, _, h => by simp at h
  | p :: l, i, 0, v, _, h => by
    have : p = (a, v) := by simpa using h
    subst this
    unfold findAt
    rw [if_pos rfl]; rfl
  | p :: l, i, j + 1, v, hn, h => by
    have h' : l[j]? = some (a, v) := by simpa using h
    rw [List.map_cons, List.nodup_cons] at hn
    have hne : a ≠ p.1 := fun e => hn.1 (by rw [← e]; exact List.mem_map.2 ⟨(a, v), List.mem_of_getElem? h', rfl⟩)
    unfold findAt
    rw [if_neg hne, findAt_at hn.2 h']
    congr 2; omega
theorem RunR.lk2 {P : Program} {s : Sem Value} {w : World} {K : Int → Bool → World → Prop} (x : Int) (b : Bool) (h : s.run P w = .ok (.tuple #[.int .i64 x, .bool b]) w) (hK : K x b w) : RunR P s [kI, kB] w K := by
  unfold RunR
  rw [h]
  exact hK
theorem Run1.of {P : Program} {s : Sem Value} {w : World} {K : Int → World → Prop} (x : Int) (h : s.run P w = .ok (.int .i64 x) w) (hK : K x w) : Run P s kI w K := by
  unfold Run
  rw [h]
  exact hK
/-- pairs as keys -/
def keP (a : Int × Int) : Value := .agg ⟨[.int .i64 a.1, .int .i64 a.2]⟩
def vN' (z : Int) : Value := .int .i64 z
/-- what is numbered in order -/
def nums (d : List (Int × Int)) : List ((Int × Int) × Int) := d.zipIdx.map fun p => (p.1, (p.2 : Int))
theorem nums_keys (d : List (Int × Int)) : (nums d).map (·.1) = d := by
  unfold nums
  rw [List.map_map]
  have : ((fun x : (Int × Int) × Int => x.1) ∘ fun p : (Int × Int) × Nat => (p.1, (p.2 : Int))) = Prod.fst := rfl
  rw [this, List.zipIdx_map_fst]
theorem nums_snoc (d : List (Int × Int)) (x : Int × Int) : nums (d ++ [x]) = nums d ++ [(x, (d.length : Int))] := by
  unfold nums
  rw [List.zipIdx_append, List.map_append]
  simp
theorem nums_len (d : List (Int × Int)) : (nums d).length = d.length := by simp [nums]
theorem nums_at {d : List (Int × Int)} {j : Nat} (hj : j < d.length) : (nums d)[j]? = some (d[j], (j : Int)) := by
  unfold nums
  simp [hj]
end Go.Vc
namespace Go.Proofs.Ytbldlpljfppmgaa
open Go Go.Vc Go.Bw Go.Hs
theorem set_map {α : Type} (f : Nat → α) (n i : Nat) (x : α) : ((List.range n).map f).set i x = (List.range n).map fun j => if j = i then x else f j := by
  apply List.ext_getElem (by simp)
  intro j h1 h2
  simp only [List.getElem_set, List.getElem_map, List.getElem_range]
  by_cases e : i = j
  · rw [if_pos e, if_pos e.symm]
  · rw [if_neg e, if_neg (fun h => e h.symm)]
section
variable {E w : World} {F : List HP}
def okI (last : List Nat) (index : Int) : Prop := 0 ≤ index ∧ okB last index.toNat
set_option maxRecDepth 20000 in
theorem bwBack_c {last : List Nat} {s : Sl} {index : Int} {K : Sl → Int → World → Prop} (h : Hp E w F) (hs : Tells F (SlT 1 s (last.map vB))) (hb : ∀ x ∈ last, x < 256) (hn : last.length ≤ 900000)
    (hK1 : okI last index → ∀ s' w', Hp E w' (OwnS 1 s' ((textB last index.toNat).map vB) :: F) → K s' 0 w') (hK2 : ¬ okI last index → ∀ w', Hp E w' F → K ⟨none, 0, 0⟩ 170 w') :
    Cl Try.prog [kS, kI] n_bwt_Back ⟨[.slice s.base s.len s.cap, .int .i64 index]⟩ w K := by
  refine bwt_Back.ok _ _ _ _ ?_
  unfold bwt_Back.E
  simp only [Join_eq]
  have hl := (h.tells hs).1
  simp only [List.length_map, Nat.mul_one] at hl
  refine IfB.mk (fun g => hK2 (fun hh => by have := of_decide_eq_true g; have := hh.1; omega) w h) (fun g1 => ?_)
  refine IfB.mk (fun g => hK2 (fun hh => by have := of_decide_eq_true g; have := hh.2.1; have := hh.1; omega) w h) (fun g2 => ?_)
  have g1 := of_decide_eq_false g1
  have g2 := of_decide_eq_false g2
  obtain ⟨ix, rfl⟩ := Int.eq_ofNat_of_zero_le (show 0 ≤ index by omega)
  rw [Int.toNat_natCast] at hK1
  have hix : ix ≤ last.length := by omega
  refine IfB.mk (fun g3 => IfB.mk (fun g4 => hK2 (fun hh => ?_) w h) (fun g4 => ?_)) (fun g3 => ?_)
  · have g3 := beq_iff_eq.1 g3
    have g4 := of_decide_eq_true g4
    have := hh.2
    rw [g3] at this
    exact okB_zero (by omega) this
  all_goals
    refine behind_c h hs hb hn hix fun s6 w1 h1 => ?_
    refine run_mk1 (by kernel_rfl) infoU8 rfl (by omega) (by decide) h1 fun s8 w2 hs8 h2 => ?_
    rw [rep_vB] at h2
    refine ⟨fun row i w' => ∃ (k : Nat) (T : List Nat), i = (last.length : Int) - 1 - (k : Int) ∧ k ≤ last.length ∧ row = (wk last ix k : Int) ∧ (∀ j, j < k → wk last ix j ≠ ix) ∧ T.length = last.length ∧ (∀ j, j < k → T.getD (last.length - 1 - j) 0 = last.getD (atB ix (wk last ix j)) 0) ∧
        Hp E w' (OwnS 1 s8 (T.map vB) :: OwnS 1 s6 ((rowsB last ix).map vI) :: F), fun _ i _ => (i + 1).toNat,
      ⟨0, _, by rw [i64_id (by omega)]; omega, by omega, rfl, fun j hj => by omega, by rw [List.length_replicate]; omega, fun j hj => by omega, h2⟩, ?_⟩
    rintro row i w3 ⟨k, T, rfl, hk, rfl, hne, hTl, hT, h3⟩
    have hwl := wk_le hix k hne
    refine IfB.mk (fun hge => ?_) (fun hlt => ?_)
    · have hge : k < last.length := by have := of_decide_eq_true hge; omega
      refine place_c hl.symm (by rw [big_eq]; omega) (fun hin => IfB.f rfl ?_) (fun hin => IfB.t rfl (hK2 (fun hh => ?_) w3 h3.drop.drop))
      · have hat := inRow_at hin
        have hnk : wk last ix k ≠ ix := by have := hin.2.2.2.2; omega
        rw [Int.toNat_natCast, Int.toNat_natCast] at hat ⊢
        refine Idx.nB (h3.tells (Tells.cons (Tells.cons hs))) rfl hat (Idx.setB (j := last.length - 1 - k) h3 (by omega) (by omega) fun w4 h4 => ?_)
        refine Idx.nI (j := wk last ix k) (h4.tells (Tells.cons Tells.own)) rfl (by rw [rowsB_len]; omega) ?_
        rw [rowsB_get hwl hnk]
        refine ⟨⟨k + 1, _, by rw [i64_id (by omega)]; omega, by omega, rfl, fun j hj => ?_, by rw [List.length_set]; exact hTl, fun j hj => ?_, h4⟩, by dsimp only; rw [i64_id (by omega)]; omega⟩
        · by_cases e : j = k
          · subst e; exact hnk
          · exact hne j (by omega)
        · by_cases e : j = k
          · subst e
            simp [List.getD, List.getElem?_set, hTl, show last.length - 1 - j < last.length by omega]
          · have := hT j (by omega)
            rw [← this]
            simp only [List.getD, List.getElem?_set]
            rw [if_neg (by omega)]
      · have h5 := hh.2.2.1 k hge
        rw [Int.toNat_natCast] at h5
        exact hin ⟨by omega, by omega, by omega, by omega, by omega⟩
    · have hke : k = last.length := by have := of_decide_eq_false hlt; omega
      subst hke
      refine IfB.mk (fun g => hK2 (fun hh => ?_) w3 h3.drop.drop) (fun g => ?_)
      · have := hh.2.2.2
        rw [Int.toNat_natCast] at this
        rw [this] at g
        simp at g
      · have hend : wk last ix last.length = ix := by
          have : (wk last ix last.length : Int) = (ix : Int) := by simpa using g
          omega
        have hok : okI last (ix : Int) := ⟨by omega, by rw [Int.toNat_natCast]; exact ⟨hix, hne, hend⟩⟩
        rw [textB_eq hTl hT] at h3
        exact hK1 hok s8 w3 h3.p1.drop
theorem bwValid_c {last : List Nat} {s : Sl} {index : Int} {K : Bool → World → Prop} (h : Hp E w F) (hs : Tells F (SlT 1 s (last.map vB))) (hb : ∀ x ∈ last, x < 256) (hn : last.length ≤ 900000)
    (hK1 : okI last index → ∀ w', Hp E w' F → K true w') (hK2 : ¬ okI last index → ∀ w', Hp E w' F → K false w') : Cl Try.prog [kB] n_bwt_Valid ⟨[.slice s.base s.len s.cap, .int .i64 index]⟩ w K := by
  refine bwt_Valid.ok _ _ _ _ ?_
  unfold bwt_Valid.E
  exact bwBack_c h hs hb hn (fun ho s' w' h' => hK1 ho w' h'.drop) fun ho w' h' => hK2 ho w' h'
/-! ranks -/
theorem ty_zsB : ElemT Try.prog 24 3 1 8 := .of (by kernel_rfl) (by kernel_rfl)
theorem ty_pair : ElemT Try.prog 73 75 2 16 := .of (by kernel_rfl) (by kernel_rfl)
theorem infoPair : ∃ i, Try.prog.info? 75 = some i ∧ i.zero = some (.agg ⟨[.int .i64 0, .int .i64 0]⟩) ∧ i.size = 2 ∧ i.bytes = 16 := by
  have h : (Try.prog.info? 75).map (fun i => (i.zero, i.size, i.bytes)) = some (some (.agg ⟨[.int .i64 0, .int .i64 0]⟩), 2, 16) := by kernel_rfl
  obtain ⟨i, h1, h2⟩ := Option.map_eq_some_iff.1 h
  simp only [Prod.mk.injEq] at h2
  exact ⟨i, h1, h2⟩
theorem sortPair_c {s : Sl} {xs : List (Int × Int)} {K : World → Prop} (h : Hp E w (OwnS 2 s (xs.flatMap enc2) :: F)) (hsz : xs.length < 4611686018427387904) (hK : ∀ w', Hp E w' (OwnS 2 s ((sort2 xs).flatMap enc2) :: F) → K w') :
    Cl Try.prog [] n_slices_SortFunc_bwt_pair_bwt_pair ⟨[.slice s.base s.len s.cap, .func (.func n_bwt_ranked_1) ⟨[]⟩ ⟨[]⟩]⟩ w K :=
  sortF_c (ρ := Try.sortPair_ren) Try.sortPair Try.isAgg75 Try.sizeOf75 (by kernel_rfl) (fun x y W => ranked1_c x y W) h hsz hK
set_option maxRecDepth 200000 in
theorem clone_c {s : Sl} {l : List (Int × Int)} {K : Sl → World → Prop} (h : Hp E w F) (hs : Tells F (SlT 2 s (l.flatMap enc2))) (hn : l.length ≤ 1000000) (hK : ∀ s' w', Hp E w' (OwnS 2 s' (l.flatMap enc2) :: F) → K s' w') :
    Cl Try.prog [kS] n_slices_Clone_bwt_pair_bwt_pair ⟨[.slice s.base s.len s.cap]⟩ w K := by
  refine slices_Clone_bwt_pair_bwt_pair.ok _ _ _ ?_
  unfold slices_Clone_bwt_pair_bwt_pair.E
  refine IfB.mk (fun hb => ?_) (fun hb => ?_)
  · have hl : l = [] := by
      cases l with
      | nil => rfl
      | cons x l =>
        obtain ⟨p, hp, _⟩ := (h.tells hs).2 0 (by rw [fm_len enc2_len]; simp)
        rw [hp] at hb; cases hb
    subst hl
    exact hK _ w (h.ownNil 2)
  · refine Nw.mk h fun b w1 h1 => ?_
    have hnew : Hp E w1 (OwnS 2 ⟨some ⟨b, 0, none⟩, 0, 0⟩ (([] : List (Int × Int)).flatMap enc2) :: F) := h1.ownNew (n := 0) (sz := 2) rfl
    exact appN (s := ⟨some ⟨b, 0, none⟩, 0, 0⟩) (l := []) (ys := l) ty_pair enc2_len (by decide) enc2_scalar hnew (hnew.tells (Tells.cons hs)) (by simp only [List.length_nil]; omega) (by simp only [List.length_nil]; omega) fun s' w2 h2 _ => hK s' w2 (by rw [List.nil_append] at h2; exact h2)
set_option maxRecDepth 200000 in
theorem keyOk_P : KeyOk Try.prog (α := Int × Int) 75 keP where
  und := ⟨_, rfl, fun a b => .inl rfl⟩
  check := fun e a w => by
    have : ∀ (e : Bool) (c n : Int) (w : World), (Instr.checkKey e 10000 75 (.agg ⟨[.int .i64 c, .int .i64 n]⟩)).run Try.prog w = .ok () w := fun e c n w => by kernel_rfl
    exact this e a.1 a.2 w
  eq := fun a b w => by
    have key : ∀ c n d m : Int, eqV Try.prog 8 75 (.agg ⟨[.int .i64 c, .int .i64 n]⟩) (.agg ⟨[.int .i64 d, .int .i64 m]⟩) (fun r => r = ((c == d) && (n == m))) := fun c n d m => by
      have e : eqV Try.prog 8 75 (.agg ⟨[.int .i64 c, .int .i64 n]⟩) (.agg ⟨[.int .i64 d, .int .i64 m]⟩) (fun r => r = ((c == d) && (n == m))) = (((c == d) && (n == m)) = ((c == d) && (n == m))) := by kernel_rfl
      rw [e]
    obtain ⟨r, h1, h2⟩ := eqV_sound 8 _ _ _ _ (key a.1 a.2 b.1 b.2)
    have := h1 10000 (by decide) w
    have e : decide (a = b) = ((a.1 == b.1) && (a.2 == b.2)) := by
      rw [Bool.eq_iff_iff]
      simp [Prod.ext_iff]
    rw [e, ← h2]; exact this
  same := fun a => by
    unfold keP Instr.sameBits
    simp [Instr.sameBits]
theorem ty_mapP : Try.prog.underlying 92 = some (.map 75 3) := by kernel_rfl
theorem zero_intP (w : World) : (zeroValue 3).run Try.prog w = .ok (vN' 0) w := Try.zeroValue3 w
theorem pair_scalar {x : Int × Int} : ∀ v ∈ [Value.int .i64 x.1, .int .i64 x.2], scalarB v = true := by
  intro v hv
  simp only [List.mem_cons, List.not_mem_nil, or_false] at hv
  rcases hv with rfl | rfl <;> rfl
set_option maxRecDepth 20000 in
theorem ranked_c {s : Sl} {l : List (Int × Int)} {K : Sl → Int → World → Prop} (h : Hp E w F) (hs : Tells F (SlT 2 s (l.flatMap enc2))) (hn : l.length ≤ 1000000) (hK : ∀ s' w', Hp E w' (OwnS 1 s' ((l.map fun p => (rkP l p : Int)).map vI) :: F) → K s' ((dd l).length : Int) w') :
    Cl Try.prog [kS, kI] n_bwt_ranked ⟨[.slice s.base s.len s.cap]⟩ w K := by
  refine bwt_ranked.ok _ _ _ ?_
  unfold bwt_ranked.E
  have hlen := SlT.len enc2_len (by decide) (h.tells hs)
  have hsl := sort2_len l
  refine clone_c h hs hn fun s3 w1 h1 => sortPair_c h1 (by omega) fun w2 h2 => ?_
  have hlen3 := SlT.len enc2_len (by decide) (h2.tells Tells.own)
  refine run_makeMap (ke := keP) (ve := vN') h2 fun m w3 h3 => ?_
  refine ⟨fun i w' => ∃ k : Nat, i = (k : Int) ∧ k ≤ l.length ∧ Hp E w' (OwnM keP vN' m (nums (firsts ((sort2 l).take k))) :: OwnS 2 s3 ((sort2 l).flatMap enc2) :: F), fun i _ => l.length - i.toNat, ⟨0, rfl, by omega, h3⟩, ?_⟩
  rintro i w4 ⟨k, rfl, hk, h4⟩
  refine IfB.mk (fun hlt => ?_) (fun hge => ?_)
  · have hlt : k < (sort2 l).length := by have := of_decide_eq_true hlt; omega
    refine Idx.elT (g := enc2) enc2_len (by decide) h4 (Tells.cons Tells.own) rfl hlt fun p hp => ?_
    obtain ⟨x, hx⟩ : ∃ x, x = (sort2 l)[k] := ⟨_, rfl⟩
    rw [← hx] at hp
    refine Ld.st (x.1, x.2, ()) (fun j hj => h4.tells (hp j hj)) ?_
    refine Nw.mk h4 fun b14 w5 h5 => StC.blk h5 rfl pair_scalar fun w6 h6 => ?_
    refine Ld.stBlk h6 (x.1, x.2, ()) rfl ?_
    have h7 := h6.p1
    have hft := firsts_take (S := sort2 l) hlt
    rw [← hx] at hft
    have hfl := (firsts_full (S := sort2 l) k (by omega)).1
    have step : ∀ {w' : World} {A : HP}, Hp E w' (OwnM keP vN' m (nums (firsts ((sort2 l).take (k + 1)))) :: A :: OwnS 2 s3 ((sort2 l).flatMap enc2) :: F) →
        (∃ k' : Nat, i64 ((k : Int) + 1) = (k' : Int) ∧ k' ≤ l.length ∧ Hp E w' (OwnM keP vN' m (nums (firsts ((sort2 l).take k'))) :: OwnS 2 s3 ((sort2 l).flatMap enc2) :: F)) ∧ l.length - (i64 ((k : Int) + 1)).toNat < l.length - (k : Int).toNat := fun {w' A} h' =>
      ⟨⟨k + 1, by rw [i64_id (by omega)]; omega, by omega, h'.p1.drop⟩, by rw [i64_id (by omega)]; omega⟩
    have hlk := run_lookup (kt := 75) (vt := 3) (a := x) (z := vN' 0) keyOk_P ty_mapP zero_intP h7
    by_cases hm : x ∈ firsts ((sort2 l).take k)
    · obtain ⟨j, hj, hje⟩ := List.getElem_of_mem hm
      have hfa : findAt x (nums (firsts ((sort2 l).take k))) 0 = some (0 + j, (j : Int)) := findAt_at (by
        rw [nums_keys]
        exact (firsts_sorted (sort2_sorted l) k (by omega)).imp fun {a b} hab e => by subst e; rw [lt2_irr] at hab; cases hab) (by rw [nums_at hj, hje])
      rw [hfa] at hlk
      refine RunR.lk2 (j : Int) true hlk (IfB.f rfl ?_)
      have hfe : firsts ((sort2 l).take (k + 1)) = firsts ((sort2 l).take k) := by rw [hft]; unfold fi; rw [if_pos hm]
      exact step (by rw [hfe]; exact h7)
    · have hfa : findAt x (nums (firsts ((sort2 l).take k))) 0 = none := findAt_none (by rw [nums_keys]; exact hm)
      rw [hfa] at hlk
      refine RunR.lk2 0 false hlk (IfB.t rfl ?_)
      refine Ld.stBlk h6 (x.1, x.2, ()) rfl ?_
      refine run_lenM ty_mapP h7 ?_
      rw [nums_len]
      refine run_mapUpdate (kt := 75) (vt := 3) (a := x) (b := ((firsts ((sort2 l).take k)).length : Int)) keyOk_P ty_mapP h7 fun w7 h8 => ?_
      have hfe : firsts ((sort2 l).take (k + 1)) = firsts ((sort2 l).take k) ++ [x] := by rw [hft]; unfold fi; rw [if_neg hm]
      rw [updAt_new hfa, ← nums_snoc, ← hfe] at h8
      exact step h8
  have hge : k = (sort2 l).length := by have := of_decide_eq_false hge; omega
  subst hge
  rw [List.take_length] at h4
  have hdn : ((nums (dd l)).map (·.1)).Nodup := by
    rw [nums_keys]
    exact (dd_sorted l).imp fun {a b} hab e => by subst e; rw [lt2_irr] at hab; cases hab
  refine ⟨fun o i w' => ∃ k : Nat, i = (k : Int) ∧ k ≤ l.length ∧ Hp E w' (OwnS 1 o (((l.take k).map fun p => (rkP l p : Int)).map vI) :: OwnM keP vN' m (nums (dd l)) :: OwnS 2 s3 ((sort2 l).flatMap enc2) :: F), fun _ i _ => l.length - i.toNat, ⟨0, rfl, by omega, h4.ownNil 1⟩, ?_⟩
  rintro o i w5 ⟨k, rfl, hk, h5⟩
  refine IfB.mk (fun hlt => ?_) (fun hge => ?_)
  · have hlt : k < l.length := by have := of_decide_eq_true hlt; omega
    refine Idx.elT (g := enc2) enc2_len (by decide) h5 (Tells.cons (Tells.cons (Tells.cons hs))) rfl hlt fun p hp => ?_
    obtain ⟨x, hx⟩ : ∃ x, x = l[k] := ⟨_, rfl⟩
    have hxl : x ∈ l := by rw [hx]; exact List.getElem_mem hlt
    rw [← hx] at hp
    refine Ld.st (x.1, x.2, ()) (fun j hj => h5.tells (hp j hj)) ?_
    refine Nw.mk h5 fun b32 w6 h6 => StC.blk h6 rfl pair_scalar fun w7 h7 => ?_
    refine Ld.stBlk h7 (x.1, x.2, ()) rfl ?_
    obtain ⟨hj, hje⟩ := dd_at hxl
    have hfa : findAt x (nums (dd l)) 0 = some (0 + rkP l x, (rkP l x : Int)) := findAt_at hdn (by rw [nums_at hj, hje])
    have hlk := run_lookup1 (kt := 75) (vt := 3) (a := x) (z := vN' 0) keyOk_P ty_mapP zero_intP h7.p2
    rw [hfa] at hlk
    refine Run1.of (rkP l x : Int) hlk ?_
    refine app_n ty_zsB rfl h7.p1 (by rw [List.length_map, List.length_take, big_eq]; omega) fun s' w8 h8 _ => ⟨⟨k + 1, by rw [i64_id (by omega)]; omega, by omega, ?_⟩, by dsimp only; rw [i64_id (by omega)]; omega⟩
    have e : (l.take (k + 1)).map (fun p => (rkP l p : Int)) = (l.take k).map (fun p => (rkP l p : Int)) ++ [(rkP l x : Int)] := by
      rw [List.take_add_one, List.getElem?_eq_getElem hlt, List.map_append, ← hx]; rfl
    rw [e]
    exact h8.p1.drop
  · have hge : k = l.length := by have := of_decide_eq_false hge; omega
    subst hge
    rw [List.take_length] at h5
    refine run_lenM ty_mapP h5.p1 ?_
    rw [nums_len]
    exact hK o w5 h5.p1.drop.p1.drop
end
end Go.Proofs.Ytbldlpljfppmgaa
