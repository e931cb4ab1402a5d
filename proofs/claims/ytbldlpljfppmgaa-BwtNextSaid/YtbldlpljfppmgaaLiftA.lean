/-
  Arguments that are arrays of numbers. Conditions: none; every theorem here is about any program.
-/
import Derived.Test.YtbldlpljfppmgaaLift
import Derived.Test.YtbldlpljfppmgaaArr
namespace Go.Vc
open Go Go.RowKit Go.ChangeShapes Go.WideShapes
section
variable {H : Type} {enc : TypeId × Value → H} {P : Program} {W : World}
theorem Arg.agg {t e : TypeId} {n : Nat} {v : Value} (h : Arg enc P W t v) (ht : P.underlying t = some (.array n e)) : ∃ cs, v = .agg cs ∧ Trd enc P W t cs.toList := by
  obtain ⟨base, hb⟩ := h.1
  simp only [Value.okWide, ht] at hb
  obtain ⟨cs, rfl, _⟩ := hb
  exact ⟨cs, rfl, h.2⟩
/-- an array of numbers of one cell each -/
theorem Trd.nums {t e : TypeId} {n : Nat} {k : IntKind} {cs : List Value} (h : Trd enc P W t cs) (ht : P.underlying t = some (.array n e)) (he : P.underlying e = some (.int k)) (hc : P.cellsOf e = 1) (hn : P.cellsOf t = n) :
    ∃ l : List Int, cs = l.map (.int k) ∧ l.length = n ∧ ∀ y ∈ l, (Lit.int k y).wf = true := by
  obtain ⟨h1, h2⟩ := h.array ht
  rw [hn] at h1
  rw [hc] at h2
  have key : ∀ m, m ≤ n → ∃ l : List Int, cs.take m = l.map (.int k) ∧ l.length = m ∧ ∀ y ∈ l, (Lit.int k y).wf = true := by
    intro m
    induction m with
    | zero => exact fun _ => ⟨[], by simp, rfl, by simp⟩
    | succ m ih =>
      intro hm
      obtain ⟨l, e1, e2, e3⟩ := ih (by omega)
      obtain ⟨x, hx, hw⟩ := (h2 m (by omega)).int he
      rw [Nat.mul_one] at hx
      have hmc : m < cs.length := by omega
      have hx2 : cs[m] = .int k x := by
        rw [List.drop_eq_getElem_cons hmc, List.take_succ_cons, List.take_zero] at hx
        exact (List.cons.inj hx).1
      refine ⟨l ++ [x], ?_, by simp [e2], ?_⟩
      · rw [List.take_add_one, e1, List.getElem?_eq_getElem hmc, hx2]; simp
      · intro y hy
        rcases List.mem_append.1 hy with hy | hy
        · exact e3 y hy
        · have : y = x := by simpa using hy
          rw [this]; exact hw
  obtain ⟨l, e1, e2, e3⟩ := key n (Nat.le_refl _)
  rw [List.take_of_length_le (by omega)] at e1
  exact ⟨l, e1, e2, e3⟩
theorem nats_of {l : List Int} (h : ∀ y ∈ l, 0 ≤ y) : l = (l.map Int.toNat).map fun (n : Nat) => (n : Int) := by
  rw [List.map_map]
  refine (List.map_id l).symm.trans (List.map_congr_left fun x hx => ?_)
  have := h x hx
  simp; omega
/-- an array of bytes that came in -/
theorem Arg.u8s {t e : TypeId} {n : Nat} {v : Value} (h : Arg enc P W t v) (ht : P.underlying t = some (.array n e)) (he : P.underlying e = some (.int .u8)) (hc : P.cellsOf e = 1) (hn : P.cellsOf t = n) :
    ∃ l : List Nat, v = .agg (ai .u8 l) ∧ l.length = n ∧ ∀ y ∈ l, y < 256 := by
  obtain ⟨cs, rfl, h0⟩ := h.agg ht
  obtain ⟨l, h1, h2, h3⟩ 
    := Trd.nums h0 ht he hc hn
  refine ⟨l.map Int.toNat, ?_, by simpa using h2, ?_⟩
  · congr 1
    apply Array.ext'
    rw [h1]
    unfold ai
    conv => lhs; rw [nats_of fun y hy => (wf_u8 (h3 y hy)).1]
    rw [List.map_map]
    rfl
  · intro y hy
    obtain ⟨x, hx, rfl⟩ := List.mem_map.1 hy
    have := wf_u8 (h3 x hx)
    omega
/-- an array of numbers that came in -/
theorem Arg.i64s {t e : TypeId} {n : Nat} {v : Value} (h : Arg enc P W t v) (ht : P.underlying t = some (.array n e)) (he : P.underlying e = some (.int .i64)) (hc : P.cellsOf e = 1) (hn : P.cellsOf t = n) :
    ∃ l : List Int, v = .agg ⟨l.map (.int .i64)⟩ ∧ l.length = n ∧ ∀ y ∈ l, -9223372036854775808 ≤ y ∧ y ≤ 9223372036854775807 := by
  obtain ⟨cs, rfl, h0⟩ := h.agg ht
  obtain ⟨l, h1, h2, h3⟩ 
    := Trd.nums h0 ht he hc hn
  refine ⟨l, ?_, h2, fun y hy => wf_i64 (h3 y hy)⟩
  congr 1
  apply Array.ext'
  exact h1
end
end Go.Vc
