/-
  The comparison of histogram.Ranks. Conditions: as each theorem states.
-/
import Derived.Test.YtbldlpljfppmgaaCmp
import Derived.Test.YtbldlpljfppmgaaFhistogram
namespace Go.Proofs.Ytbldlpljfppmgaa
open Go Go.Vc Go.Sort
theorem ranks1_c (x y : Int × Int) (W : World) : Calls Try.prog n_histogram_Ranks_1 #[.agg ⟨enc2 x⟩, .agg ⟨enc2 y⟩] W fun e w' => e = .returned (.int .i64 (cmp2 x y)) ∧ ∃ q os', w' = grow (W.drewN q) os' := by
  refine gr_calls (histogram_Ranks_1.ok (x.1, x.2, ()) (y.1, y.2, ()) _ _ ?_)
  unfold histogram_Ranks_1.E
  refine Nw.gr (Hp.start W) (Gr.refl W) fun b1 w1 h1 g1 => Nw.gr h1 g1 fun b2 w2 h2 g2 => ?_
  refine ⟨HasF W _, HasF.mk h2.drew, ?_⟩
  refine LdS.blk (s := .int .i64) (fun w h => h.front2) x.1 rfl ?_
  refine LdS.blk (s := .int .i64) (fun w h => h.front) y.1 rfl ?_
  refine LdS.blk (s := .int .i64) (fun w h => h.front2) x.2 rfl ?_
  refine LdS.blk (s := .int .i64) (fun w h => h.front) y.2 rfl ?_
  refine compare_c ⟨HasF.mk h2.drew, compare_c ⟨HasF.mk h2.drew, ?_⟩⟩
  refine Nw.gr (h2.drew (n := w2.drawn + 1)) g2.drew fun b3 w3 h3 g3 => ⟨HasF.mk1 h3, ?_⟩
  refine or_c (a := cmpI x.1 y.1) (b := cmpI x.2 y.2) (s := ⟨some ⟨b3, 0, none⟩, 2, 2⟩) (h3.tells (Tells.blk rfl rfl)) rfl ⟨HasF.mk1 h3, rfl, g3⟩
end Go.Proofs.Ytbldlpljfppmgaa
