/-
  The examples of winepresslaw06. Conditions: as each theorem states.
-/
import Derived.Test.YtbldlpljfppmgaaRef06b
import Derived.Test.YtbldlpljfppmgaaFlaw06
import Derived.Test.YtbldlpljfppmgaaInts02
namespace Go.Hs
open Go Go.Vc
/-- a strictly sorted list is what the sort leaves of any order of it -/
theorem sort2_eq {xs S : List (Int × Int)} (hp : S.Perm xs) (hs : S.Pairwise fun a b => lt2 a b = true) : sort2 xs = S := by
  have hn : xs.Nodup := hp.nodup_iff.1 (hs.imp fun {a b} h e => by subst e; rw [lt2_irr] at h; cases h)
  have h2 := sort2_strict hn
  have hpp := (sort2_perm xs).trans hp.symm
  apply List.ext_getElem hpp.length_eq
  intro r h1 h3
  have hr := rank_at h2 r h1
  rw [hpp.countP_eq] at hr
  obtain ⟨h4, h5⟩ := rank_of hs (hpp.mem_iff.1 (List.getElem_mem h1))
  rw [← h5]
  simp only [hr]
def zero258' : List Int := List.replicate 258 0
def ex1 : List Int := [0, 1, 0, 2] ++ List.replicate 253 0 ++ [1]
def ex2 : List Int := [0, 3, 0, 2] ++ List.replicate 253 0 ++ [1]
def exN : List Int := -1 :: List.replicate 257 0
theorem ex1_len : ex1.length = 258 := by decide +kernel
theorem ex2_len : ex2.length = 258 := by decide +kernel
theorem exN_len : exN.length = 258 := by decide +kernel
theorem ex_1 : addT zero258' [3, 1, 3, 257] = some ex1 := by decide +kernel
theorem ex_2 : addT zero258' [258] = none := by decide +kernel
theorem ex_3 : addT ex1 [1, 1] = some ex2 := by decide +kernel
theorem ex_4 : addT exN [] = none := by decide +kernel
theorem ex_5 : sumT ex1 = 4 := by decide +kernel
theorem ex_6 : usedT ex1 = [1, 3, 257] := by decide +kernel
theorem ex_7 : ranksT ex1 = [1, 257, 3] := by
  unfold ranksT pairsT
  rw [ex_6, sort2_eq (S := [(1, 1), (1, 257), (2, 3)]) (by decide +kernel) (by decide +kernel)]
  rfl
theorem ex_8 : validT ex1 = true := by decide +kernel
theorem ex_9 : validT exN = false := by decide +kernel
theorem ex_10 : (firsts [(⟨ex1, ex1_len⟩ : T258), ⟨ex2, ex2_len⟩, ⟨ex1, ex1_len⟩]).length = 2 := by decide +kernel
end Go.Hs
namespace Go.Proofs.Ytbldlpljfppmgaa
open Go Go.Vc Go.Hs
section
variable {E w : World} {F : List HP}
set_option maxRecDepth 100000 in
theorem bldS3 {a b c : T258} {K : Array Value → Prop} (hK : K ⟨[a, b, c].flatMap gT⟩) : BldS Try.prog 23 3 [(0, .agg (aT a.1)), (1, .agg (aT b.1)), (2, .agg (aT c.1))] K := by
  refine ⟨_, ?_, hK⟩
  have hi0 : (Try.prog.info? 23).map (fun i => (i.zero, i.size)) = some (some (.agg ⟨List.replicate 258 (.int .i64 0)⟩), 258) := by kernel_rfl
  obtain ⟨it, hi, hi2⟩ := Option.map_eq_some_iff.1 hi0
  simp only [Prod.mk.injEq] at hi2
  have e0 : rowOf Try.prog 23 3 [(0, .agg (aT a.1)), (1, .agg (aT b.1)), (2, .agg (aT c.1))] = Instr.fill (fun i => some (i * 258, 258)) ⟨[] ++ List.replicate 258 (Value.int .i64 0) ++ List.replicate 516 (Value.int .i64 0)⟩ [(0, .agg (aT a.1)), (1, .agg (aT b.1)), (2, .agg (aT c.1))] := by
    unfold rowOf
    rw [hi]
    simp only [hi2.1, hi2.2]
    rw [if_neg (by decide), if_neg (by decide)]
    congr 1
    have : (Value.agg ⟨List.replicate 258 (.int .i64 0)⟩).cells = ⟨List.replicate 258 (.int .i64 0)⟩ := rfl
    rw [this]
    apply Array.ext
    · simp
    · intro j h1 h2
      have hs : (⟨List.replicate 258 (Value.int .i64 0)⟩ : Array Value).size = 258 := List.length_replicate
      have hm : j % 258 < 258 := Nat.mod_lt _ (by decide)
      rw [Array.getElem_map, Array.getElem_range, hs, getElem!_pos (⟨List.replicate 258 (Value.int .i64 0)⟩ : Array Value) (j % 258) (by rw [hs]; exact hm)]
      have e1 : (⟨List.replicate 258 (Value.int .i64 0)⟩ : Array Value)[j % 258]'(by rw [hs]; exact hm) = Value.int .i64 0 := List.getElem_replicate ..
      have e2 : [] ++ List.replicate 258 (Value.int .i64 0) ++ List.replicate 516 (Value.int .i64 0) = List.replicate 774 (Value.int .i64 0) := by rw [List.nil_append, List.replicate_append_replicate]
      have e3 : ∀ (l : List Value) (hl : j < (⟨l⟩ : Array Value).size), l = List.replicate 774 (Value.int .i64 0) → (⟨l⟩ : Array Value)[j] = Value.int .i64 0 := by
        rintro l hl rfl
        exact List.getElem_replicate ..
      rw [e1, e3 _ h2 e2]
  have hl : ∀ x : T258, (Value.agg (aT x.1)).cells.size = 258 := fun x => by show (aT x.1).size = 258; rw [aT_size]; exact x.2
  have hc : ∀ x : T258, (Value.agg (aT x.1)).cells.toList = gT x := fun x => rfl
  have hsp : List.replicate 516 (Value.int .i64 0) = List.replicate 258 (Value.int .i64 0) ++ List.replicate 258 (Value.int .i64 0) := by rw [List.replicate_append_replicate]
  rw [e0, fill_step (off := 0) (size := 258) rfl rfl List.length_replicate (hl a), hc, List.nil_append, hsp, ← List.append_assoc,
    fill_step (off := 258) (size := 258) rfl (gT_len a) List.length_replicate (hl b), hc,
    show gT a ++ gT b ++ List.replicate 258 (Value.int .i64 0) = gT a ++ gT b ++ List.replicate 258 (Value.int .i64 0) ++ [] from (List.append_nil _).symm,
    fill_step (off := 516) (size := 258) rfl (by rw [List.length_append, gT_len, gT_len]) List.length_replicate (hl c), hc]
  simp [Instr.fill]
theorem bld_neg {K : Array Value → Prop} (hK : K (aT exN)) : Bld Try.prog 23 [(0, .int .i64 (-1))] K := ⟨aT exN, by kernel_rfl, hK⟩
set_option maxRecDepth 100000 in
theorem wakes06_c {K : Bool → World → Prop} (h : Hp E w F) (hK : ∀ w', Hp E w' F → K true w') : Cl Try.prog [kB] n_law06_wakes ⟨[]⟩ w K := by
  refine law06_wakes.ok _ _ ?_
  unfold law06_wakes.E
  rw [aT_zero]
  have hz : (aT (List.replicate 258 0)).size = 258 := by rw [aT_size]; exact List.length_replicate
  have s1 : (aT ex1).size = 258 := by rw [aT_size, ex1_len]
  have s2 : (aT ex2).size = 258 := by rw [aT_size, ex2_len]
  have sN : (aT exN).size = 258 := by rw [aT_size, exN_len]
  have sz : (aT zero258).size = 258 := by rw [aT_size, zero258_len]
  have e1 : addT zero258 [3, 1, 3, 257] = some ex1 := ex_1
  have e2 : addT zero258 [258] = none := ex_2
  refine Nw.mk h fun b2 w1 h1 => hOf_c (s := ⟨some ⟨b2, 0, none⟩, 4, 4⟩) (zs := [3, 1, 3, 257]) h1 (Tells.blk rfl rfl) (by decide) fun w2 h2 => ?_
  rw [e1, Option.getD_some]
  refine Nw.mk h2.drop fun b7 w3 h3 => StA.blk h3 hz s1 aT_scalar fun w4 h4 => ?_
  refine Nw.mk h4 fun b10 w5 h5 => hOf_c (s := ⟨some ⟨b10, 0, none⟩, 1, 1⟩) (zs := [258]) h5 (Tells.blk rfl rfl) (by decide) fun w6 h6 => ?_
  rw [e2, Option.getD_none]
  refine Nw.mk h6.drop fun b15 w7 h7 => StA.blk h7 hz sz aT_scalar fun w8 h8 => ?_
  have h8 := h8.drop
  refine Ld.arr h8 s1 (Nw.mk h8 fun b19 w9 h9 => hAdd_c (t := ex1) (s := ⟨some ⟨b19, 0, none⟩, 2, 2⟩) (zs := [1, 1]) h9 ex1_len (Tells.blk rfl rfl) (by decide) fun w10 h10 => ?_)
  rw [ex_3, Option.getD_some]
  refine Nw.mk h10.drop fun b24 w11 h11 => StA.blk h11 hz s2 aT_scalar fun w12 h12 => ?_
  refine bld_neg (hAdd_c (t := exN) (s := ⟨none, 0, 0⟩) (zs := []) h12 exN_len Tells.nil (by decide) fun w13 h13 => ?_)
  rw [ex_4, Option.getD_none]
  refine Nw.mk h13 fun b31 w14 h14 => StA.blk h14 hz sN aT_scalar fun w15 h15 => ?_
  have h15 := h15.drop
  refine IfB.t (by decide) (IdxP.aT (j := 3) h15.p1 rfl ex1_len (by decide) (IfB.t (by decide +kernel) ?_))
  refine IdxP.aT (j := 1) h15.p1 rfl ex1_len (by decide) (IfB.t (by decide +kernel) ?_)
  refine IdxP.aT (j := 257) h15.p1 rfl ex1_len (by decide) (IfB.t (by decide +kernel) ?_)
  refine IdxP.aT (j := 0) h15.p1 rfl ex1_len (by decide) (IfB.t (by decide +kernel) ?_)
  refine IfB.t (by decide) (IfB.t (by decide) ?_)
  refine IdxP.aT (j := 1) h15 rfl ex2_len (by decide) (IfB.t (by decide +kernel) ?_)
  refine IfB.t (by decide) (Ld.arr h15.p1 s1 (hSum_c h15 ex1_len fun w16 h16 => ?_))
  refine IfB.t (by rw [ex_5]; decide) (Ld.arr h16.p1 s1 (hUsed_c h16 ex1_len fun s48 w17 h17 => Nw.mk h17 fun b50 w18 h18 => ?_))
  refine ints02_c (s := s48) (s2 := ⟨some ⟨b50, 0, none⟩, 3, 3⟩) (a := usedT ex1) (b := [1, 3, 257]) h18 (Tells.cons Tells.own) (Tells.blk rfl rfl) (by rw [ex_6]; decide) fun w19 h19 => ?_
  have h19 := h19.drop.drop
  refine IfB.t (by rw [ex_6]; rfl) (Ld.arr h19.p1 s1 (hRanks_c h19 ex1_len fun s55 w20 h20 => Nw.mk h20 fun b57 w21 h21 => ?_))
  refine ints02_c (s := s55) (s2 := ⟨some ⟨b57, 0, none⟩, 3, 3⟩) (a := ranksT ex1) (b := [1, 257, 3]) h21 (Tells.cons Tells.own) (Tells.blk rfl rfl) (by rw [ex_7]; decide) fun w22 h22 => ?_
  have h22 := h22.drop.drop
  refine IfB.t (by rw [ex_7]; rfl) (Ld.arr h22.p1 s1 (Ld.arr h22 s2 (Ld.arr h22.p1 s1 ?_)))
  refine bldS3 (a := ⟨ex1, ex1_len⟩) (b := ⟨ex2, ex2_len⟩) (c := ⟨ex1, ex1_len⟩) (Nw.mk h22 fun b64 w23 h23 => ?_)
  refine hDiff_c (s := ⟨some ⟨b64, 0, none⟩, 3, 3⟩) (ts := [⟨ex1, ex1_len⟩, ⟨ex2, ex2_len⟩, ⟨ex1, ex1_len⟩]) h23 (Tells.blk rfl (by rw [fm_len gT_len]; rfl)) (by decide) fun w24 h24 => ?_
  have h24 := h24.drop
  refine IfB.t (by rw [ex_10]; decide) (Ld.arr h24.p1 s1 (hValid_c h24 ex1_len fun w25 h25 => IfB.t ex_8 ?_))
  refine bld_neg (hValid_c h25 exN_len fun w26 h26 => IfB.t (by rw [ex_9]; rfl) ?_)
  exact hDiff_c (s := ⟨none, 0, 0⟩) (ts := []) h26 Tells.nil (by decide) fun w27 h27 => hK w27 h27.drop.drop
end
end Go.Proofs.Ytbldlpljfppmgaa
