/-
  Comparisons of numbers and of pairs. Conditions: as each theorem states.
-/
import Derived.Test.YtbldlpljfppmgaaSortF
import Derived.Test.YtbldlpljfppmgaaHeld
import Derived.Test.YtbldlpljfppmgaaFcmp
namespace Go.Vc
open Go Go.Sort
/-- a world that has grown, and drawn -/
def Gr (W w : World) : Prop := ∃ q os, w = grow (W.drewN q) os
theorem Gr.refl (W : World) : Gr W W := ⟨0, #[], by simp [World.drewN]⟩
theorem Gr.alloc {W w : World} (h : Gr W w) (o : Obj) : Gr W (w.alloc o) := by
  obtain ⟨q, os, rfl⟩ := h
  exact ⟨q, os ++ #[o], by rw [alloc_eq_grow, grow_grow]⟩
theorem Gr.drew {W w : World} (h : Gr W w) : Gr W { w with drawn := w.drawn + 1 } := by
  obtain ⟨q, os, rfl⟩ := h
  exact ⟨q + 1, os, rfl⟩
theorem Nw.gr {W E w : World} {F : List HP} {t : TypeId} {cs : Array Value} {K : Nat → World → Prop} (hh : Hp E w F) (hg : Gr W w) (h : ∀ b w', Hp E w' (Blk b (.cells cs t (0, 0)) :: F) → Gr W w' → K b w') : Nw t cs w K := h _ _ (hh.alloc _) (hg.alloc _)
end Go.Vc
namespace Go.Proofs.Ytbldlpljfppmgaa
open Go Go.Vc Go.Sort
section
variable {E w : World} {F : List HP}
theorem isNaN_c {x : Int} {K : Bool → World → Prop} (hK : K false w) : Cl Try.prog [kB] n_cmp_isNaN_int ⟨[.int .i64 x]⟩ w K := by
  refine cmp_isNaN_int.ok _ _ _ ?_
  unfold cmp_isNaN_int.E
  simpa using hK
theorem compare_c {x y : Int} {K : Int → World → Prop} (hK : K (cmpI x y) w) : Cl Try.prog [kI] n_cmp_Compare_int ⟨[.int .i64 x, .int .i64 y]⟩ w K := by
  refine cmp_Compare_int.ok _ _ _ _ ?_
  unfold cmp_Compare_int.E
  refine isNaN_c (isNaN_c (IfB.f rfl (IfB.f rfl ?_)))
  unfold cmpI at hK
  by_cases h1 : x < y
  · rw [if_pos h1] at hK; exact IfB.t (decide_eq_true h1) hK
  · rw [if_neg h1] at hK
    refine IfB.f (decide_eq_false h1) ?_
    by_cases h2 : x > y
    · rw [if_pos h2] at hK; exact IfB.t (decide_eq_true h2) hK
    · rw [if_neg h2] at hK; exact IfB.f (decide_eq_false h2) hK
theorem or_c {a b : Int} {s : Sl} {K : Int → World → Prop} (hs : SlT 1 s [vI a, vI b] w) (hl : s.len = 2) (hK : K (if a != 0 then a else b) w) : Cl Try.prog [kI] n_cmp_Or_int ⟨[.slice s.base s.len s.cap]⟩ w K := by
  refine cmp_Or_int.ok _ _ _ ?_
  unfold cmp_Or_int.E
  refine ⟨fun i w' => w' = w ∧ (i = 0 ∨ (i = 1 ∧ a = 0) ∨ (i = 2 ∧ a = 0 ∧ b = 0)), fun i _ => (2 - i).toNat, ⟨rfl, .inl rfl⟩, ?_⟩
  rintro i w' ⟨rfl, hi⟩
  rw [hl]
  rcases hi with rfl | ⟨rfl, rfl⟩ | ⟨rfl, rfl, rfl⟩
  · refine IfB.t (by decide) (Idx.rd hs (by omega) (by rw [hl]; decide) fun p hp hc => Ld.sc (s := .int .i64) a hc ?_)
    refine IfB.mk (fun h => ?_) (fun h => ?_)
    · rw [h] at hK; exact hK
    · exact ⟨⟨rfl, .inr (.inl ⟨by decide, by simpa using h⟩)⟩, by dsimp only; decide⟩
  · refine IfB.t (by decide) (Idx.rd hs (by omega) (by rw [hl]; decide) fun p hp hc => Ld.sc (s := .int .i64) b hc ?_)
    refine IfB.mk (fun h => ?_) (fun h => ?_)
    · exact hK
    · exact ⟨⟨rfl, .inr (.inr ⟨by decide, rfl, by simpa using h⟩)⟩, by dsimp only; decide⟩
  · exact IfB.f (by decide) hK
/-- from a contract that knows how the world has grown to a comparison as the sort wants it -/
theorem gr_calls {i : FuncId} {args : Array Value} {r : Int} (h : Cl Try.prog [kI] i args w fun x w' => x = r ∧ Gr w w') : Calls Try.prog i args w fun e w' => e = .returned (.int .i64 r) ∧ ∃ q os', w' = grow (w.drewN q) os' := by
  refine Calls.mono h fun e w' he => ?_
  cases e with
  | returned v =>
    obtain ⟨x, rfl, rfl, hg⟩ := Ki.dec_sound (k := kI) he
    exact ⟨rfl, hg⟩
  | panicked => exact he.elim
  | outgrown => exact he.elim
end
end Go.Proofs.Ytbldlpljfppmgaa
