/-
  The formulas of the functions of this translation, printed by program: each is the verification condition of its function, and holds of no other. Conditions: none.
-/
import Derived.Test.YtbldlpljfppmgaaF
namespace Go.Proofs.Ytbldlpljfppmgaa
open Go Go.Vc
/-- slices.Clone[[]bwt.pair,bwt.pair] -/
def slices_Clone_bwt_pair_bwt_pair.E (s1 : Sl) (R : Sl → World → Prop) (w : World) : Prop :=
 IfB (Option.isNone (s1).base)
 (R ((⟨none, 0, 0⟩ : Sl)) w)
 (Nw 75 ⟨[]⟩ w fun (b3 : Nat) (w_2 : World) =>
 Run Try.prog (Builtin.append_ #[73, 73] 73 ⟨[(.slice (⟨some ⟨b3, 0, none⟩, 0, 0⟩ : Sl).base (⟨some ⟨b3, 0, none⟩, 0, 0⟩ : Sl).len (⟨some ⟨b3, 0, none⟩, 0, 0⟩ : Sl).cap), (.slice s1.base s1.len s1.cap)]⟩) kS w_2 fun (s5 : Sl) (w_4 : World) =>
 R (s5) w_4)
theorem slices_Clone_bwt_pair_bwt_pair.ok (s1 : Sl) (R : Sl → World → Prop) (w : World) (h : slices_Clone_bwt_pair_bwt_pair.E s1 R w) : Cl Try.prog [kS] n_slices_Clone_bwt_pair_bwt_pair ⟨[(.slice s1.base s1.len s1.cap)]⟩ w R :=
  calls_of_eq Try.mix Try.f68 [(.slice s1.base s1.len s1.cap)] [kS] R 8 [.tmp 2] (by kernel_rfl) (by kernel_rfl) (by kernel_rfl) (by kernel_rfl) (by kernel_rfl)
    (.s .o (.s (.s .o (.c (.s .o .o) .o)) (.s .o .o)))
    (by kernel_rfl) h
end Go.Proofs.Ytbldlpljfppmgaa
