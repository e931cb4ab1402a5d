/-
  Facts of the symbols in order. Conditions: as each theorem states.
-/
import Derived.Test.YtajpnkioigcejaaCode
import Derived.Test.YtajpnkioigcejaaMap
namespace Go.Proofs.Ytajpnkioigcejaa
open Go Go.Vc Go.Srt
/-- the map of Find, of the first symbols in order -/
def spell (l ys : List Nat) : Nat → List ((Int × Int) × Int)
  | 0 => []
  | k + 1 => updAt (((codesTo l ys ys.length).getD (ys.getD k 0) 0 : Int), (l.getD (ys.getD k 0) 0 : Int)) (ys.getD k 0 : Int) (spell l ys k)
def foundI (o : Option (Nat × Int)) : Int := match o with | some q => q.2 | none => 0
theorem ord_in {l ys : List Nat} (hl : l.length = 258) (h : IsOrd l ys) : ∀ s ∈ ys, s < 258 ∧ 0 < l.getD s 0 := fun s hs => by
  have := used_mem.1 (h.1.mem_iff.1 hs)
  rw [hl] at this; exact this
theorem ord_le {l ys : List Nat} (hl : l.length = 258) (h : IsOrd l ys) : ys.length ≤ 258 := by
  rw [h.1.length_eq, ← hl]
  have := List.length_filter_le (fun s => decide (0 < l.getD s 0)) (List.range l.length)
  simpa [used] using this
theorem ord_same {l ys zs : List Nat} (h : IsOrd l ys) (h2 : IsOrd l zs) : ys = zs := by
  refine List.Perm.eq_of_pairwise (le := fun a b => l.getD a 0 < l.getD b 0 ∨ (l.getD a 0 = l.getD b 0 ∧ a < b)) ?_ h.2 h2.2 (h.1.trans h2.1.symm)
  intro a b _ _ h3 h4
  omega
theorem codesTo_lt {l ys : List Nat} (hl : l.length = 258) (hv : ksum l ≤ 32768) (h : IsOrd l ys) {k : Nat} (hk : k < ys.length) : (codesTo l ys ys.length).getD ys[k] 0 = codeAt l ys k ∧ codeAt l ys k < 2 ^ l.getD ys[k] 0 ∧ codeAt l ys k < 32768 := by
  have h1 := codeAt_lt hv h hk
  have h2 := len15 hv ys[k]
  have h3 : 2 ^ l.getD ys[k] 0 ≤ 2 ^ 15 := Nat.pow_le_pow_right (by decide) h2
  exact ⟨codesTo_at h (fun s hs => (ord_in hl h s hs).1) _ (Nat.le_refl _) k hk hk, h1, by omega⟩
theorem getI {l : List Nat} {i : Nat} {k : IntKind} (h : i < l.length) : (ai k l)[((i : Nat) : Int).toNat]? = some (Sc.enc (.int k) (l.getD i 0 : Int)) := by
  rw [Int.toNat_natCast, ai_get h, List.getD_eq_getElem?_getD, List.getElem?_eq_getElem h]; rfl
end Go.Proofs.Ytajpnkioigcejaa
