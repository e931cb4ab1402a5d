/-
  Texts packed together by program: Fvarint, Arr, More, Held, Auto, Var, Rk, Inc, HdP, Map, Map2, Hdr, Mrk, Mks, Flengthtable, Seg, Eqw, Fprefixdec, Fkraft, CanP, Kr. Conditions: as each theorem states.
-/
import Derived.MapKept
import Derived.Test.YtjnjjibmlalpiaaPb
set_option linter.unusedSimpArgs false
set_option linter.unusedVariables false
/- Fvarint -/
namespace Go.Proofs.Ytjnjjibmlalpiaa
open Go Go.Vc
set_option maxRecDepth 100000 in
/-- varint.Step -/
def varint_Step.E (v1 : (TT [.int .i64, .int .i64])) (c2 : Int) (R : (TT [.int .i64, .int .i64]) → Bool → Int → World → Prop) (w : World) : Prop :=
 Nw 52 ⟨[(.int .i64 v1.1), (.int .i64 v1.2.1)]⟩ w fun (b4 : Nat) (w_3 : World) =>
 Nw 52 ⟨[(.int .i64 0), (.int .i64 0)]⟩ w_3 fun (b6 : Nat) (w_5 : World) =>
 Ld kI ((⟨b4, 0, none⟩ : Addr).add 0) w_5 fun (Value7 : Int) =>
 0 ≤ (7 : Int) ∧
 Join (fun (w_33 : World) =>
 Ld kI ((⟨b4, 0, none⟩ : Addr).add 1) w_33 fun (Many34 : Int) =>
 StC (⟨b6, 0, none⟩ : Addr) [(.int .i64 (ior .i64 ((ishl .i64 (Value7 : Int) (7 : Int)) : Int) ((i64 (iand .u8 (c2 : Int) (127 : Int))) : Int))), (.int .i64 (i64 ((Many34 : Int) + (1 : Int))))] 0 w_33 fun (w_35 : World) =>
 Ld (.st [.int .i64, .int .i64]) (⟨b6, 0, none⟩ : Addr) w_35 fun (res36 : (TT [.int .i64, .int .i64])) =>
 R (res36) ((decide ((c2 : Int) < (128 : Int)))) (0) w_35) fun (K_8 : World → Prop) =>
 Ld (.st [.int .i64, .int .i64]) (⟨b4, 0, none⟩ : Addr) w_5 fun (x9 : (TT [.int .i64, .int .i64])) =>
 Cl Try.prog [kB] n_varint_Valid ⟨[(.agg ⟨[(.int .i64 x9.1), (.int .i64 x9.2.1)]⟩)]⟩ w_5 fun (r11 : Bool) (w_10 : World) =>
 IfB (!r11)
 (Ld (.st [.int .i64, .int .i64]) (⟨b6, 0, none⟩ : Addr) w_10 fun (x12 : (TT [.int .i64, .int .i64])) =>
 StC (⟨b6, 0, none⟩ : Addr) [(.int .i64 x12.1), (.int .i64 x12.2.1)] 0 w_10 fun (w_13 : World) =>
 Ld (.st [.int .i64, .int .i64]) (⟨b6, 0, none⟩ : Addr) w_13 fun (res14 : (TT [.int .i64, .int .i64])) =>
 R (res14) (false) (2) w_13)
 (IfB ((c2 : Int) == (128 : Int))
 (Ld kI ((⟨b4, 0, none⟩ : Addr).add 1) w_10 fun (Many15 : Int) =>
 IfB ((Many15 : Int) == (0 : Int))
 (Ld (.st [.int .i64, .int .i64]) (⟨b6, 0, none⟩ : Addr) w_10 fun (x16 : (TT [.int .i64, .int .i64])) =>
 StC (⟨b6, 0, none⟩ : Addr) [(.int .i64 x16.1), (.int .i64 x16.2.1)] 0 w_10 fun (w_17 : World) =>
 Ld (.st [.int .i64, .int .i64]) (⟨b6, 0, none⟩ : Addr) w_17 fun (res18 : (TT [.int .i64, .int .i64])) =>
 R (res18) (false) (51) w_17)
 (IfB (decide (((ior .i64 ((ishl .i64 (Value7 : Int) (7 : Int)) : Int) ((i64 (iand .u8 (c2 : Int) (127 : Int))) : Int)) : Int) > (2147483647 : Int)))
 (Ld (.st [.int .i64, .int .i64]) (⟨b6, 0, none⟩ : Addr) w_10 fun (x19 : (TT [.int .i64, .int .i64])) =>
 StC (⟨b6, 0, none⟩ : Addr) [(.int .i64 x19.1), (.int .i64 x19.2.1)] 0 w_10 fun (w_20 : World) =>
 Ld (.st [.int .i64, .int .i64]) (⟨b6, 0, none⟩ : Addr) w_20 fun (res21 : (TT [.int .i64, .int .i64])) =>
 R (res21) (false) (52) w_20)
 (Ld kI ((⟨b4, 0, none⟩ : Addr).add 1) w_10 fun (Many22 : Int) =>
 IfB ((Many22 : Int) == (4 : Int))
 (IfB (decide ((c2 : Int) ≥ (128 : Int)))
 (Ld (.st [.int .i64, .int .i64]) (⟨b6, 0, none⟩ : Addr) w_10 fun (x23 : (TT [.int .i64, .int .i64])) =>
 StC (⟨b6, 0, none⟩ : Addr) [(.int .i64 x23.1), (.int .i64 x23.2.1)] 0 w_10 fun (w_24 : World) =>
 Ld (.st [.int .i64, .int .i64]) (⟨b6, 0, none⟩ : Addr) w_24 fun (res25 : (TT [.int .i64, .int .i64])) =>
 R (res25) (false) (52) w_24)
 (K_8  w_10))
 (K_8  w_10))))
 (IfB (decide (((ior .i64 ((ishl .i64 (Value7 : Int) (7 : Int)) : Int) ((i64 (iand .u8 (c2 : Int) (127 : Int))) : Int)) : Int) > (2147483647 : Int)))
 (Ld (.st [.int .i64, .int .i64]) (⟨b6, 0, none⟩ : Addr) w_10 fun (x26 : (TT [.int .i64, .int .i64])) =>
 StC (⟨b6, 0, none⟩ : Addr) [(.int .i64 x26.1), (.int .i64 x26.2.1)] 0 w_10 fun (w_27 : World) =>
 Ld (.st [.int .i64, .int .i64]) (⟨b6, 0, none⟩ : Addr) w_27 fun (res28 : (TT [.int .i64, .int .i64])) =>
 R (res28) (false) (52) w_27)
 (Ld kI ((⟨b4, 0, none⟩ : Addr).add 1) w_10 fun (Many29 : Int) =>
 IfB ((Many29 : Int) == (4 : Int))
 (IfB (decide ((c2 : Int) ≥ (128 : Int)))
 (Ld (.st [.int .i64, .int .i64]) (⟨b6, 0, none⟩ : Addr) w_10 fun (x30 : (TT [.int .i64, .int .i64])) =>
 StC (⟨b6, 0, none⟩ : Addr) [(.int .i64 x30.1), (.int .i64 x30.2.1)] 0 w_10 fun (w_31 : World) =>
 Ld (.st [.int .i64, .int .i64]) (⟨b6, 0, none⟩ : Addr) w_31 fun (res32 : (TT [.int .i64, .int .i64])) =>
 R (res32) (false) (52) w_31)
 (K_8  w_10))
 (K_8  w_10))))
set_option maxRecDepth 100000 in
theorem varint_Step.ok (v1 : (TT [.int .i64, .int .i64])) (c2 : Int) (R : (TT [.int .i64, .int .i64]) → Bool → Int → World → Prop) (w : World) (h : varint_Step.E v1 c2 R w) : Cl Try.prog [(.st [.int .i64, .int .i64]), kB, kI] n_varint_Step ⟨[(.agg ⟨[(.int .i64 v1.1), (.int .i64 v1.2.1)]⟩), (.int .u8 c2)]⟩ w R :=
  calls_of_eq Try.mix Try.f68 [(.agg ⟨[(.int .i64 v1.1), (.int .i64 v1.2.1)]⟩), (.int .u8 c2)] [(.st [.int .i64, .int .i64]), kB, kI] R 49 [.cell 4 52, .tmp 5, .tmp 6] (by kernel_rfl) (by kernel_rfl) (by kernel_rfl) (by kernel_rfl) (by kernel_rfl)
    (.s .o (.s .o (.j [] (.b (.s .o (.c (.s .o .o) (.s .o (.c (.s .o .o) (.s .o (.c (.s .o .o) .o))))))) (.s .o .o))))
    (by kernel_rfl) h
set_option maxRecDepth 100000 in
/-- varint.Valid -/
def varint_Valid.E (v1 : (TT [.int .i64, .int .i64])) (R : Bool → World → Prop) (w : World) : Prop :=
 Nw 52 ⟨[(.int .i64 v1.1), (.int .i64 v1.2.1)]⟩ w fun (b3 : Nat) (w_2 : World) =>
 Ld kI ((⟨b3, 0, none⟩ : Addr).add 1) w_2 fun (Many4 : Int) =>
 IfB (decide ((Many4 : Int) < (1 : Int)))
 (Ld (.st [.int .i64, .int .i64]) (⟨b3, 0, none⟩ : Addr) w_2 fun (x5 : (TT [.int .i64, .int .i64])) =>
 R ((((x5.1 : Int) == (0 : Int)) && ((x5.2.1 : Int) == (0 : Int)))) w_2)
 (Ld kI ((⟨b3, 0, none⟩ : Addr).add 1) w_2 fun (Many6 : Int) =>
 IfB (decide ((Many6 : Int) > (4 : Int)))
 (Ld (.st [.int .i64, .int .i64]) (⟨b3, 0, none⟩ : Addr) w_2 fun (x7 : (TT [.int .i64, .int .i64])) =>
 R ((((x7.1 : Int) == (0 : Int)) && ((x7.2.1 : Int) == (0 : Int)))) w_2)
 (Drw w_2 fun (w_8 : World) =>
 Ld kI ((⟨b3, 0, none⟩ : Addr).add 0) w_8 fun (Value9 : Int) =>
 Ld kI ((⟨b3, 0, none⟩ : Addr).add 1) w_8 fun (Many10 : Int) =>
 0 ≤ ((i64 ((7 : Int) * ((i64 ((Many10 : Int) - (1 : Int))) : Int))) : Int) ∧
 IfB (decide ((Value9 : Int) ≥ ((ishl .i64 (1 : Int) ((i64 ((7 : Int) * ((i64 ((Many10 : Int) - (1 : Int))) : Int))) : Int)) : Int)))
 (Ld kI ((⟨b3, 0, none⟩ : Addr).add 0) w_8 fun (Value11 : Int) =>
 Ld kI ((⟨b3, 0, none⟩ : Addr).add 1) w_8 fun (Many12 : Int) =>
 0 ≤ ((i64 ((7 : Int) * (Many12 : Int))) : Int) ∧
 R ((decide ((Value11 : Int) < ((ishl .i64 (1 : Int) ((i64 ((7 : Int) * (Many12 : Int))) : Int)) : Int)))) w_8)
 (R (false) w_8)))
set_option maxRecDepth 100000 in
theorem varint_Valid.ok (v1 : (TT [.int .i64, .int .i64])) (R : Bool → World → Prop) (w : World) (h : varint_Valid.E v1 R w) : Cl Try.prog [kB] n_varint_Valid ⟨[(.agg ⟨[(.int .i64 v1.1), (.int .i64 v1.2.1)]⟩)]⟩ w R :=
  calls_of_eq Try.mix Try.f80 [(.agg ⟨[(.int .i64 v1.1), (.int .i64 v1.2.1)]⟩)] [kB] R 31 [.tmp 2] (by kernel_rfl) (by kernel_rfl) (by kernel_rfl) (by kernel_rfl) (by kernel_rfl)
    (.s .o (.s (.s .o (.c (.s .o .o) .o)) (.s .o .o)))
    (by kernel_rfl) h
end Go.Proofs.Ytjnjjibmlalpiaa
/- Arr -/
namespace Go.Vc
open Go
section
variable {E w : World} {F : List HP}
theorem Ld.arr {b n : Nat} {cs : Array Value} {t : TypeId} {fr : Nat × Nat} {K : Array Value → Prop} (h : Hp E w (Blk b (.cells cs t fr) :: F)) (hn : cs.size = n) (hK : K cs) : Ld (.arr n) ⟨b, 0, none⟩ w K := by
  refine ⟨cs, hn, fun w' hw i hi => ?_, hK⟩
  subst hw
  rw [add_mk, h.cell, Nat.zero_add]
  simp [hn, hi]
theorem StA.blk {b n : Nat} {c0 cs : Array Value} {t : TypeId} {K : World → Prop} (h : Hp E w (Blk b (.cells c0 t (0, 0)) :: F)) (h0 : c0.size = n) (hn : cs.size = n) (hs : ∀ v ∈ cs.toList, scalarB v = true)
    (hK : ∀ w', Hp E w' (Blk b (.cells cs t (0, 0)) :: F) → K w') : StA n ⟨b, 0, none⟩ cs w K := by
  refine ⟨hn, fun i hi => ⟨?_, ?_, ?_⟩, ?_⟩
  · have : cs.getD i undef ∈ cs.toList := by simp [hn, hi]
    exact hs _ this
  · rw [add_mk, h.cell]; simp [h0, hi]
  · rw [add_mk]; simp [World.frozen?, h.blk]
  · obtain ⟨arr', e1, e2, e3, h'⟩ := Hp.setRow (b := b) (off := 0) cs.toList 0 w c0 h (by simp; omega)
    have : arr' = cs := by
      apply Array.ext
      · omega
      · intro i hi1 hi2
        have := e2 i (by simpa using hi2)
        rw [show 0 + 0 + i = i by omega, Array.getElem?_eq_getElem hi1] at this
        simpa using this
    subst this
    exact hK _ h'
/-- an element of one cell is read -/
theorem IdxP.rd {b n : Nat} {cs : Array Value} {t : TypeId} {fr : Nat × Nat} {i : Int} {s : Sc} {K : s.T → Prop} (h : Hp E w (Blk b (.cells cs t fr) :: F)) (h0 : 0 ≤ i) (h1 : i < (n : Int)) (x : s.T) (hx : cs[i.toNat]? = some (s.enc x)) (hK : K x) :
    IdxP ⟨b, 0, none⟩ n i 1 fun q => Ld (.sc s) q w K := by
  refine ⟨h0, h1, ?_⟩
  rw [add_mk]
  exact Ld.blk h x (by simpa using hx) hK
/-- an element of one cell is written -/
theorem IdxP.wr {b n : Nat} {cs : Array Value} {t : TypeId} {i : Int} {v : Value} {K : World → Prop} (h : Hp E w (Blk b (.cells cs t (0, 0)) :: F)) (h0 : 0 ≤ i) (h1 : i < (n : Int)) (hn : cs.size = n) (hv : scalarB v = true)
    (hK : ∀ w', Hp E w' (Blk b (.cells (cs.setIfInBounds i.toNat v) t (0, 0)) :: F) → K w') : IdxP ⟨b, 0, none⟩ n i 1 fun q => St q v w K := by
  refine ⟨h0, h1, ?_⟩
  rw [add_mk]
  exact St.blk h (by omega) hv (by simpa using hK)
theorem IdxV.rd {s : Sc} {cs : Array Value} {n : Nat} {i : Int} {K : s.T → Prop} (h0 : 0 ≤ i) (h1 : i < (n : Int)) (x : s.T) (hx : cs[i.toNat]? = some (s.enc x)) (hK : K x) : IdxV s cs n i K := ⟨h0, h1, x, hx, hK⟩
end
/-- an array of numbers of one kind -/
def ai (k : IntKind) (l : List Nat) : Array Value := ⟨l.map fun (n : Nat) => .int k (n : Int)⟩
theorem ai_size {k : IntKind} {l : List Nat} : (ai k l).size = l.length := by simp [ai]
theorem ai_get {k : IntKind} {l : List Nat} {i : Nat} (h : i < l.length) : (ai k l)[i]? = some (Sc.enc (.int k) (l[i] : Int)) := by simp [ai, h]
theorem ai_scalar {k : IntKind} {l : List Nat} : ∀ v ∈ (ai k l).toList, scalarB v = true := by
  intro v hv
  simp only [ai, List.mem_map] at hv
  obtain ⟨x, _, rfl⟩ := hv
  rfl
theorem ai_set {k : IntKind} {l : List Nat} {i x : Nat} : (ai k l).setIfInBounds i (.int k (x : Int)) = ai k (l.set i x) := by
  unfold ai
  apply Array.ext'
  simp [List.map_set]
theorem ai_zero {k : IntKind} {n : Nat} : (⟨List.replicate n (.int k 0)⟩ : Array Value) = ai k (List.replicate n 0) := by
  unfold ai; simp
theorem EqA.mk {k : IntKind} {n : Nat} {a b : List Nat} {K : Bool → Prop} (ha : a.length = n) (hb : b.length = n) (h : K (a == b)) : EqA k n (ai k a) (ai k b) K := by
  refine ⟨a.map fun (x : Nat) => (x : Int), b.map fun (x : Nat) => (x : Int), by simp [ai], by simp [ai], by simpa using ha, by simpa using hb, ?_⟩
  have : ((a.map fun (x : Nat) => (x : Int)) == (b.map fun (x : Nat) => (x : Int))) = (a == b) := by
    rw [Bool.eq_iff_iff, beq_iff_eq, beq_iff_eq]
    constructor
    · intro h
      exact (List.map_inj_right (fun x y h => by have h : (x : Int) = (y : Int) := h; omega)).1 h
    · rintro rfl; rfl
  rw [this]; exact h
end Go.Vc
/- More -/
namespace Go.Vc
open Go
section
variable {E w w' : World} {F G : List HP} {sz : Nat} {s : Sl} {xs ys : List Value}
theorem Hp.dropL {l : List HP} (h : Hp E w (l ++ F)) : Hp E w F := by
  induction l with
  | nil => exact h
  | cons A l ih => exact ih h.drop
theorem Tells.app {φ : World → Prop} (l : List HP) (ht : Tells F φ) : Tells (l ++ F) φ := by
  induction l with
  | nil => exact ht
  | cons A l ih => exact ih.cons
theorem Tells.appL {φ : World → Prop} (ht : Tells G φ) : Tells (G ++ F) φ := (ht.app F).perm List.perm_append_comm
/-- a world that holds F, whatever else -/
def HasF (E : World) (F : List HP) (w : World) : Prop := ∃ l, Hp E w (l ++ F)
theorem HasF.mk (h : Hp E w F) : HasF E F w := ⟨[], h⟩
theorem HasF.mk1 {A : HP} (h : Hp E w (A :: F)) : HasF E F w := ⟨[A], h⟩
theorem HasF.mk2 {A B : HP} (h : Hp E w (A :: B :: F)) : HasF E F w := ⟨[A, B], h⟩
theorem HasF.mk3 {A B C : HP} (h : Hp E w (A :: B :: C :: F)) : HasF E F w := ⟨[A, B, C], h⟩
theorem HasF.tells {φ : World → Prop} (h : HasF E F w) (ht : Tells F φ) : φ w := by
  obtain ⟨l, h⟩ := h
  exact h.tells (ht.app l)
theorem Tells.blkCell {b i : Nat} {c : Array Value} {t : TypeId} {fr : Nat × Nat} {v : Value} (h : c[i]? = some v) : Tells (Blk b (.cells c t fr) :: F) (fun w => w.cell? ⟨b, i, none⟩ = some v) := by
  rintro w f a ⟨g, k, hd, rfl, rfl, h2⟩
  have : w.heap[b]? = some (.cells c t fr) := a b _ (by simp [Frag.add, Frag.one])
  simp only [World.cell?, this]
  exact h
/-- a part of a slice -/
theorem Slc.rdn {lo hi mx : Int} {K : Sl → Prop} (hl : xs.length = s.len * sz) (h0 : 0 ≤ lo) (h1 : lo ≤ hi) (h2 : hi ≤ (s.len : Int)) (h3 : hi ≤ mx) (h4 : mx ≤ (s.cap : Int))
    (h : ∀ s' : Sl, (∀ w', SlT sz s xs w' → SlT sz s' ((xs.drop (lo.toNat * sz)).take ((hi.toNat - lo.toNat) * sz)) w') → s'.len = hi.toNat - lo.toNat → s'.len ≤ s'.cap → K s') : Slc s lo hi mx sz K := by
  refine ⟨h0, h1, h3, h4, h _ (fun w' hs' => ?_) rfl (by simp only; omega)⟩
  have hm : hi.toNat * sz ≤ s.len * sz := Nat.mul_le_mul_right _ (by omega)
  have hsub : (hi.toNat - lo.toNat) * sz = hi.toNat * sz - lo.toNat * sz := Nat.sub_mul ..
  have hmono : lo.toNat * sz ≤ hi.toNat * sz := Nat.mul_le_mul_right _ (by omega)
  have hlen : ((xs.drop (lo.toNat * sz)).take ((hi.toNat - lo.toNat) * sz)).length = (hi.toNat - lo.toNat) * sz := by
    rw [List.length_take, List.length_drop]; omega
  refine ⟨hlen, fun i hi' => ?_⟩
  rw [hlen] at hi'
  obtain ⟨p, hp, hcell⟩ := hs'.2 (lo.toNat * sz + i) (by omega)
  have hne : mx.toNat ≠ lo.toNat := by
    intro e
    have : hi.toNat - lo.toNat = 0 := by omega
    rw [this] at hi'; omega
  refine ⟨p.add (lo.toNat * sz), by simp [hne, hp], ?_⟩
  have : (p.add (lo.toNat * sz)).add i = p.add (lo.toNat * sz + i) := by
    unfold Addr.add
    by_cases e1 : lo.toNat * sz = 0 <;> by_cases e2 : i = 0 <;> simp [e1, e2, Nat.add_assoc]
  rw [this, hcell]
  simp
theorem LdS.sc {S : World → Prop} {s : Sc} {p : Addr} {K : s.T → Prop} (x : s.T) (hc : ∀ w, S w → w.cell? p = some (s.enc x)) (h : K x) : LdS (.sc s) p S K := ⟨x, hc, h⟩
/-- a block as a slice -/
theorem Slc.whole {b n : Nat} {hi mx : Int} {K : Sl → Prop} (hn : 0 < n) (h1 : hi = (n : Int)) (h2 : mx = (n : Int)) (h : K ⟨some ⟨b, 0, none⟩, n, n⟩) : Slc ⟨some ⟨b, 0, none⟩, n, n⟩ 0 hi mx 1 K := by
  subst h1; subst h2
  refine ⟨by omega, by omega, by omega, by simp, ?_⟩
  have e : (if ((n : Int)).toNat = (0 : Int).toNat then (some ⟨b, 0, none⟩ : Option Addr) else (some ⟨b, 0, none⟩ : Option Addr).map (·.add ((0 : Int).toNat * 1))) = some ⟨b, 0, none⟩ := by
    rw [if_neg (by simp; omega)]; simp [Addr.add]
  rw [e]
  simpa using h
end
section
variable {α : Type} {g : α → List Value} {sz : Nat} {l : List α}
theorem fm_len (hg : ∀ x, (g x).length = sz) (l : List α) : (l.flatMap g).length = l.length * sz := by
  induction l with
  | nil => simp
  | cons x l ih => rw [List.flatMap_cons, List.length_append, ih, hg, List.length_cons, Nat.succ_mul]; omega
theorem fm_drop (hg : ∀ x, (g x).length = sz) : ∀ (l : List α) (n : Nat), (l.flatMap g).drop (n * sz) = (l.drop n).flatMap g
  | l, 0 => by simp
  | [], n + 1 => by simp
  | x :: l, n + 1 => by
    rw [List.drop_succ_cons, List.flatMap_cons, Nat.succ_mul, Nat.add_comm, ← List.drop_drop, ← hg x, List.drop_left, hg x]
    exact fm_drop hg l n
theorem fm_take (hg : ∀ x, (g x).length = sz) : ∀ (l : List α) (n : Nat), (l.flatMap g).take (n * sz) = (l.take n).flatMap g
  | l, 0 => by simp
  | [], n + 1 => by simp
  | x :: l, n + 1 => by
    rw [List.take_succ_cons, List.flatMap_cons, List.flatMap_cons, Nat.succ_mul, Nat.add_comm, List.take_append, hg x, List.take_of_length_le (by rw [hg x]; omega), show sz + n * sz - sz = n * sz by omega, fm_take hg l n]
theorem fm_get (hg : ∀ x, (g x).length = sz) : ∀ (l : List α) (i j : Nat) (hi : i < l.length), j < sz → (l.flatMap g)[i * sz + j]? = (g l[i])[j]?
  | x :: l, 0, j, _, hj => by rw [List.flatMap_cons, List.getElem?_append_left (by rw [hg]; omega), Nat.zero_mul, Nat.zero_add]; rfl
  | x :: l, i + 1, j, hi, hj => by
    rw [List.flatMap_cons, List.getElem?_append_right (by rw [hg, Nat.succ_mul]; omega), hg, show (i + 1) * sz + j - sz = i * sz + j by rw [Nat.succ_mul]; omega, fm_get hg l i j (by simpa using hi) hj]
    rfl
end
section
variable {E w w' : World} {F G : List HP} {sz : Nat} {s : Sl} {α : Type} {g : α → List Value} {l : List α}
/-- an element is read -/
theorem Idx.el {i : Int} {n : Nat} {K : Addr → Prop} (hg : ∀ x, (g x).length = sz) (hz : 0 < sz) (hs : SlT sz s (l.flatMap g) w) (hn : i = (n : Int)) (hi : n < l.length) (h : ∀ p, (∀ j, j < sz → w.cell? (p.add j) = (g l[n])[j]?) → K p) : Idx s i sz K := by
  subst hn
  have hl := hs.1
  rw [fm_len hg] at hl
  have hle : l.length = s.len := Nat.eq_of_mul_eq_mul_right hz hl
  refine Idx.rdn hs hz (by omega) (by omega) fun p hp => h p fun j hj => ?_
  have e := fm_get hg l n j hi hj
  have hlt : n * sz + j < (l.flatMap g).length := by
    rw [fm_len hg]
    have : (n + 1) * sz ≤ l.length * sz := Nat.mul_le_mul_right _ hi
    rw [Nat.succ_mul] at this; omega
  rw [hp j (by rw [Int.toNat_natCast]; exact hlt) hj]
  simp only [Int.toNat_natCast]
  rw [← e, List.getElem?_eq_getElem hlt]
theorem Idx.elT {i : Int} {n : Nat} {K : Addr → Prop} (hg : ∀ x, (g x).length = sz) (hz : 0 < sz) (hh : Hp E w F) (hs : Tells F (SlT sz s (l.flatMap g))) (hn : i = (n : Int)) (hi : n < l.length) (h : ∀ p, (∀ j, j < sz → Tells F (fun w => w.cell? (p.add j) = (g l[n])[j]?)) → K p) : Idx s i sz K := by
  subst hn
  have hl := (hh.tells hs).1
  rw [fm_len hg] at hl
  have hle : l.length = s.len := Nat.eq_of_mul_eq_mul_right hz hl
  refine Idx.rdT hh hs hz (by omega) (by omega) fun p hp => h p fun j hj => (hp j hj).imp fun w hw => ?_
  rw [hw, Int.toNat_natCast, fm_get hg l n j hi hj]
theorem SlT.len (hg : ∀ x, (g x).length = sz) (hz : 0 < sz) (hs : SlT sz s (l.flatMap g) w) : s.len = l.length := by
  have hl := hs.1
  rw [fm_len hg] at hl
  exact (Nat.eq_of_mul_eq_mul_right hz hl).symm
/-- a part of a slice of elements -/
theorem Slc.el {lo hi mx : Int} {a b : Nat} {K : Sl → Prop} (hg : ∀ x, (g x).length = sz) (hl : s.len = l.length) (ha : lo = (a : Int)) (hb : hi = (b : Int)) (h1 : a ≤ b) (h2 : b ≤ l.length) (h3 : hi ≤ mx) (h4 : mx ≤ (s.cap : Int))
    (h : ∀ s' : Sl, (∀ w', SlT sz s (l.flatMap g) w' → SlT sz s' (((l.drop a).take (b - a)).flatMap g) w') → s'.len = b - a → s'.len ≤ s'.cap → K s') : Slc s lo hi mx sz K := by
  subst ha; subst hb
  refine Slc.rdn (xs := l.flatMap g) (by rw [fm_len hg, hl]) (by omega) (by omega) (by omega) h3 h4 fun s' hs' hl' hc' => h s' (fun w' hw' => ?_) (by simpa using hl') hc'
  have := hs' w' hw'
  simp only [Int.toNat_natCast] at this
  rw [fm_drop hg, fm_take hg] at this
  exact this
/-- the cells of a struct are read -/
theorem LdC_mk {S : World → Prop} {p : Addr} : ∀ {ks : List Sc} {i : Nat} {K : TT ks → Prop} (x : TT ks) (_ : ∀ w, S w → ∀ j (hj : j < (encs ks x).length), w.cell? (p.add (i + j)) = some (encs ks x)[j]) (_ : K x), LdC S p ks i K
  | [], _, _, _, _, h => h
  | k :: ks, i, K, (x, y), hc, h => ⟨x, fun w hw => by have := hc w hw 0 (by simp); simpa using this, LdC_mk (ks := ks) (i := i + 1) y (fun w hw j hj => by
      have := hc w hw (j + 1) (by simp; omega)
      simpa [Nat.add_assoc, Nat.add_comm 1 j] using this) h⟩
theorem Ld.st {ks : List Sc} {p : Addr} {K : TT ks → Prop} (x : TT ks) (hc : ∀ j, j < (encs ks x).length → w.cell? (p.add j) = (encs ks x)[j]?) (h : K x) : Ld (.st ks) p w K :=
  LdC_mk x (fun w' hw' j hj => by
    have hw' : w' = w := hw'
    subst hw'
    rw [Nat.zero_add, hc j hj, List.getElem?_eq_getElem hj]) h
/-- a struct in a block of its own is read -/
theorem Ld.stBlk {ks : List Sc} {b : Nat} {cs : Array Value} {t : TypeId} {fr : Nat × Nat} {K : TT ks → Prop} (hh : Hp E w (Blk b (.cells cs t fr) :: F)) (x : TT ks) (hc : cs = ⟨encs ks x⟩) (h : K x) : Ld (.st ks) ⟨b, 0, none⟩ w K := by
  subst hc
  refine Ld.st x (fun j hj => ?_) h
  rw [add_mk, hh.cell]; simp
/-- a struct is stored in a block of its own -/
theorem StC.go {b : Nat} {t : TypeId} {K : World → Prop} : ∀ (vs : List Value) (i : Nat) (w : World) (c : Array Value), Hp E w (Blk b (.cells c t (0, 0)) :: F) → i + vs.length = c.size → (∀ v ∈ vs, scalarB v = true) →
    (∀ c' w', c'.toList = c.toList.take i ++ vs → Hp E w' (Blk b (.cells c' t (0, 0)) :: F) → K w') → StC ⟨b, 0, none⟩ vs i w K
  | [], i, w, c, hh, hi, _, hK => hK c w (by rw [List.append_nil, List.take_of_length_le (by simp; simp at hi; omega)]) hh
  | v :: vs, i, w, c, hh, hi, hv, hK => by
    have h1 := hv v (by simp)
    simp only [List.length_cons] at hi
    unfold StC
    rw [h1]
    have h2 := hh.setCell (i := i) v
    refine ⟨?_, ?_, ?_⟩
    · rw [add_mk, hh.cell]; simp; omega
    · rw [add_mk]; simp [World.frozen?, hh.blk]
    · rw [add_mk, Nat.zero_add]
      refine StC.go vs (i + 1) _ _ h2 (by simp; omega) (fun x hx => hv x (List.mem_cons_of_mem _ hx)) fun c' w' e h3 => hK c' w' ?_ h3
      rw [e, Array.toList_setIfInBounds, List.take_add_one, List.take_set_of_le (by omega)]
      rw [List.getElem?_set_self (by simp; omega)]
      simp
theorem StC.blk {b : Nat} {c : Array Value} {t : TypeId} {vs : List Value} {K : World → Prop} (hh : Hp E w (Blk b (.cells c t (0, 0)) :: F)) (hi : vs.length = c.size) (hv : ∀ v ∈ vs, scalarB v = true)
    (hK : ∀ w', Hp E w' (Blk b (.cells ⟨vs⟩ t (0, 0)) :: F) → K w') : StC ⟨b, 0, none⟩ vs 0 w K :=
  StC.go vs 0 w c hh (by omega) hv fun c' w' e h => by
    have : c' = ⟨vs⟩ := by apply Array.ext'; simpa using e
    subst this
    exact hK w' h
/-- one element is appended -/
theorem app1 {P : Program} {t ty e e2 : TypeId} {bytes : Nat} {x : α} {cs : Array Value} {K : Sl → World → Prop} (he : ElemT P t e sz bytes) (hg : ∀ x, (g x).length = sz) (hz : 0 < sz) (hcs : cs = ⟨g x⟩) (hsc : ∀ y ∈ g x, scalarB y = true)
    (hh : Hp E w (OwnS sz s (l.flatMap g) :: F)) (hb : (2 * (l.length + 1) + 1024) * bytes ≤ 2 ^ 48) (hb2 : l.length + 1 < 2 ^ 62)
    (h : ∀ s' w', Hp E w' (OwnS sz s' ((l ++ [x]).flatMap g) :: F) → s'.len = l.length + 1 → K s' w') :
    Nw e2 cs w fun b w1 => Run P (Builtin.append_ #[t, t] ty ⟨[.slice s.base s.len s.cap, .slice (some ⟨b, 0, none⟩) 1 1]⟩) kS w1 K := by
  have hlen := SlT.len hg hz (hh.tells Tells.own)
  refine Nw.mk hh fun b w1 h1 => ?_
  refine run_append (ys := g x) (n := 1) he hz (.inl ⟨e, he.und⟩) h1.p1 (.inl ⟨_, _, _, rfl, rfl, h1.tells (Tells.blk (xs := g x) (by rw [hcs]) (by rw [hg]; simp))⟩) (by rw [hg]; simp) hsc (by rw [hlen]; exact hb) (by rw [hlen]; exact hb2) fun s' w2 h2 hs' => h s' w2 ?_ (by rw [hs', hlen])
  rw [List.flatMap_append, show [x].flatMap g = g x by simp]
  exact h2.p1.drop
/-- the elements of a slice are appended -/
theorem appN {P : Program} {t ty e : TypeId} {bytes : Nat} {s2 : Sl} {ys : List α} {K : Sl → World → Prop} (he : ElemT P t e sz bytes) (hg : ∀ x, (g x).length = sz) (hz : 0 < sz) (hsc : ∀ x, ∀ y ∈ g x, scalarB y = true)
    (hh : Hp E w (OwnS sz s (l.flatMap g) :: F)) (hs : SlT sz s2 (ys.flatMap g) w) (hb : (2 * (l.length + ys.length) + 1024) * bytes ≤ 2 ^ 48) (hb2 : l.length + ys.length < 2 ^ 62)
    (h : ∀ s' w', Hp E w' (OwnS sz s' ((l ++ ys).flatMap g) :: F) → s'.len = l.length + ys.length → K s' w') :
    Run P (Builtin.append_ #[t, t] ty ⟨[.slice s.base s.len s.cap, .slice s2.base s2.len s2.cap]⟩) kS w K := by
  have hlen := SlT.len hg hz (hh.tells Tells.own)
  have hlen2 := SlT.len hg hz hs
  refine run_append (ys := ys.flatMap g) (n := ys.length) he hz (.inl ⟨e, he.und⟩) hh (.inl ⟨_, _, _, rfl, hlen2.symm, hs⟩) (fm_len hg ys) (fun y hy => ?_) (by rw [hlen]; exact hb) (by rw [hlen]; exact hb2) fun s' w2 h2 hs' => h s' w2 ?_ (by rw [hs', hlen])
  · obtain ⟨x, _, hx⟩ := List.mem_flatMap.1 hy
    exact hsc x y hx
  · rw [List.flatMap_append]; exact h2
end
end Go.Vc
/- Held -/
namespace Go.Vc
open Go
section
variable {E w : World} {F : List HP} {A : HP}
theorem HasF.mem (h : HasF E F w) (hm : A ∈ F) : ∃ G, Hp E w (A :: G) := by
  obtain ⟨l, h⟩ := h
  obtain ⟨s, t, rfl⟩ := List.append_of_mem hm
  refine ⟨(l ++ s) ++ t, ?_⟩
  rw [← List.append_assoc] at h
  exact h.perm List.perm_middle
theorem HasF.front (h : HasF E (A :: F) w) : ∃ G, Hp E w (A :: G) := h.mem (by simp)
theorem HasF.front2 {B : HP} (h : HasF E (A :: B :: F) w) : ∃ G, Hp E w (B :: G) := h.mem (by simp)
theorem LdS.arrBlk {S : World → Prop} {b n : Nat} {cs : Array Value} {t : TypeId} {fr : Nat × Nat} {K : Array Value → Prop} (hS : ∀ w, S w → ∃ G, Hp E w (Blk b (.cells cs t fr) :: G)) (hn : cs.size = n) (hK : K cs) : LdS (.arr n) ⟨b, 0, none⟩ S K := by
  refine ⟨cs, hn, fun w' hw i hi => ?_, hK⟩
  obtain ⟨G, h⟩ := hS w' hw
  rw [add_mk, h.cell, Nat.zero_add]
  simp [hn, hi]
theorem LdS.blk {S : World → Prop} {s : Sc} {b i : Nat} {c : Array Value} {t : TypeId} {fr : Nat × Nat} {K : s.T → Prop} (hS : ∀ w, S w → ∃ G, Hp E w (Blk b (.cells c t fr) :: G)) (x : s.T) (hx : c[i]? = some (s.enc x)) (hk : K x) : LdS (.sc s) ⟨b, i, none⟩ S K := by
  refine LdS.sc x (fun w' hw => ?_) hk
  obtain ⟨G, h⟩ := hS w' hw
  rw [h.cell]; exact hx
/-- a part of a block is loaded -/
theorem LdS.sub {S : World → Prop} {b n off : Nat} {pre mid post : List Value} {t : TypeId} {fr : Nat × Nat} {K : Array Value → Prop} (hS : ∀ w, S w → ∃ G, Hp E w (Blk b (.cells ⟨pre ++ mid ++ post⟩ t fr) :: G)) (ho : pre.length = off) (hn : mid.length = n) (hK : K ⟨mid⟩) : LdS (.arr n) ⟨b, off, none⟩ S K := by
  refine ⟨⟨mid⟩, hn, fun w' hw i hi => ?_, hK⟩
  obtain ⟨G, h⟩ := hS w' hw
  rw [add_mk, h.cell]
  subst ho
  rw [List.getElem?_toArray, List.append_assoc, List.getElem?_append_right (by omega), List.getElem?_append_left (by omega), show pre.length + i - pre.length = i by omega]
  rw [List.getElem?_eq_getElem (by omega)]
  simp [show i < mid.length by omega]
theorem Ld.sub {b n off : Nat} {pre mid post : List Value} {t : TypeId} {fr : Nat × Nat} {K : Array Value → Prop} (h : Hp E w (Blk b (.cells ⟨pre ++ mid ++ post⟩ t fr) :: F)) (ho : pre.length = off) (hn : mid.length = n) (hK : K ⟨mid⟩) : Ld (.arr n) ⟨b, off, none⟩ w K :=
  LdS.sub (E := E) (fun w' hw => ⟨F, by rw [hw]; exact h⟩) ho hn hK
end
/-! a row of numbers in a block -/
def rowI (n : Nat) (f : Nat → Int) : Array Value := ⟨(List.range n).map fun j => .int .i64 (f j)⟩
theorem rowI_size {n : Nat} {f : Nat → Int} : (rowI n f).size = n := by simp [rowI]
theorem rowI_get {n : Nat} {f : Nat → Int} {i : Nat} (h : i < n) : (rowI n f)[i]? = some (Sc.enc (.int .i64) (f i)) := by
  unfold rowI
  rw [List.getElem?_toArray, List.getElem?_map, List.getElem?_range h]; rfl
theorem rowI_set {n : Nat} {f : Nat → Int} {i : Nat} {v : Int} : (rowI n f).setIfInBounds i (.int .i64 v) = rowI n fun j => if j = i then v else f j := by
  apply Array.ext_getElem?
  intro j
  rw [Array.getElem?_setIfInBounds]
  unfold rowI
  simp only [List.getElem?_toArray, List.getElem?_map, List.size_toArray, List.length_map, List.length_range]
  by_cases hj : j < n
  · rw [List.getElem?_range hj]
    by_cases e : i = j
    · subst e; simp [hj]
    · rw [if_neg e]; simp [Ne.symm e]
  · rw [List.getElem?_eq_none (by simpa using hj)]
    by_cases e : i = j
    · subst e; simp [hj]
    · simp [e]
theorem rowI_ext {n : Nat} {f g : Nat → Int} (h : ∀ i, i < n → f i = g i) : rowI n f = rowI n g := by
  unfold rowI
  congr 1
  exact List.map_congr_left fun j hj => by rw [h j (by simpa using hj)]
/-! built aggregates -/
theorem fold_put {off : Nat} : ∀ (vs : List Value) (k : Nat) (pre mid post : List Value), mid.length = vs.length → pre.length = off + k →
    (vs.zipIdx k).foldl (fun (cs : Array Value) (x : Value × Nat) => cs.setIfInBounds (off + x.2) x.1) ⟨pre ++ mid ++ post⟩ = ⟨pre ++ vs ++ post⟩
  | [], k, pre, mid, post, hm, _ => by
    have : mid = [] := List.length_eq_zero_iff.1 hm
    subst this; rfl
  | v :: vs, k, pre, mid, post, hm, hp => by
    obtain ⟨m, mid, rfl⟩ : ∃ m mid', mid = m :: mid' := by
      cases mid with
      | nil => simp at hm
      | cons m mid => exact ⟨m, mid, rfl⟩
    rw [List.zipIdx_cons, List.foldl_cons]
    have e : (⟨pre ++ m :: mid ++ post⟩ : Array Value).setIfInBounds (off + k) v = ⟨(pre ++ [v]) ++ mid ++ post⟩ := by
      rw [← hp]
      apply Array.ext'
      simp
    show ((vs.zipIdx (k + 1)).foldl _ ((⟨pre ++ m :: mid ++ post⟩ : Array Value).setIfInBounds (off + k) v)) = _
    rw [e, fold_put vs (k + 1) (pre ++ [v]) mid post (by simpa using hm) (by simp; omega)]
    simp
theorem fill_step {place : Nat → Option (Nat × Nat)} {i off size : Nat} {v : Value} {rest : List (Nat × Value)} {pre mid post : List Value} (hpl : place i = some (off, size)) (ho : pre.length = off) (hm : mid.length = size) (hv : v.cells.size = size) :
    Instr.fill place ⟨pre ++ mid ++ post⟩ ((i, v) :: rest) = Instr.fill place ⟨pre ++ v.cells.toList ++ post⟩ rest := by
  rw [Instr.fill, hpl]
  simp only
  rw [if_neg (by simp [hv]; omega)]
  congr 1
  rw [← Array.foldl_toList, Array.toList_zipIdx]
  exact fold_put (off := off) v.cells.toList 0 pre mid post (by simp [hm, hv]) (by omega)
end Go.Vc
/- Auto -/
namespace Go.Vc
open Go

/-- block b in a list of assertions: its cells, and the list with another object in its place -/
class FindB (b : Nat) (l : List HP) (c : outParam (Array Value)) (t : outParam TypeId) (fr : outParam (Nat × Nat)) (put : outParam (Obj → List HP)) : Prop where
  perm : ∃ r, l.Perm (Blk b (.cells c t fr) :: r) ∧ ∀ o, (Blk b o :: r).Perm (put o)
instance FindB.head {b : Nat} {l : List HP} {c : Array Value} {t : TypeId} {fr : Nat × Nat} : FindB b (Blk b (.cells c t fr) :: l) c t fr (fun o => Blk b o :: l) :=
  ⟨l, .refl _, fun _ => .refl _⟩
instance FindB.tail {b : Nat} {A : HP} {l : List HP} {c : Array Value} {t : TypeId} {fr : Nat × Nat} {put : Obj → List HP} [h : FindB b l c t fr put] : FindB b (A :: l) c t fr (fun o => A :: put o) :=
  ⟨by
    obtain ⟨r, h1, h2⟩ := h.perm
    exact ⟨A :: r, (h1.cons A).trans (.swap ..), fun o => (List.Perm.swap ..).trans ((h2 o).cons A)⟩⟩
/-- the assertion number n of a list -/
class Nth (n : Nat) (l : List HP) (A : outParam HP) (r : outParam (List HP)) : Prop where
  perm : l.Perm (A :: r)
instance Nth.zero {A : HP} {l : List HP} : Nth 0 (A :: l) A l := ⟨.refl _⟩
instance Nth.succ {n : Nat} {A B : HP} {l r : List HP} [h : Nth n l A r] : Nth (n + 1) (B :: l) A (B :: r) := ⟨(h.perm.cons B).trans (.swap ..)⟩
section
variable {E w : World} {l : List HP} {b i : Nat} {c : Array Value} {t : TypeId} {fr : Nat × Nat} {put : Obj → List HP}
theorem Hp.at {A : HP} {r : List HP} (h : Hp E w l) (n : Nat) [hn : Nth n l A r] : Hp E w (A :: r) := h.perm hn.perm
theorem Hp.no {A : HP} {r : List HP} (h : Hp E w l) (n : Nat) [hn : Nth n l A r] : Hp E w r := (h.perm hn.perm).drop
theorem Tells.at {A : HP} {r : List HP} {φ : World → Prop} (n : Nat) [hn : Nth n l A r] (ht : Tells (A :: r) φ) : Tells l φ := ht.perm hn.perm.symm
theorem Hp.fb [hf : FindB b l c t fr put] (h : Hp E w l) : w.heap[b]? = some (.cells c t fr) := by
  obtain ⟨r, h1, _⟩ := hf.perm
  exact (h.perm h1).blk
theorem Hp.fc [FindB b l c t fr put] (h : Hp E w l) : w.cell? ⟨b, i, none⟩ = c[i]? := by
  simp [World.cell?, h.fb]
/-- a class of worlds that hold an object in a block -/
def HoldB (b : Nat) (c : Array Value) (t : TypeId) (fr : Nat × Nat) (w : World) : Prop := w.heap[b]? = some (.cells c t fr)
theorem Hp.hb [FindB b l c t fr put] (h : Hp E w l) : HoldB b c t fr w := h.fb
theorem HoldB.cell (h : HoldB b c t fr w) : w.cell? ⟨b, i, none⟩ = c[i]? := by simp [World.cell?, show w.heap[b]? = _ from h]
def Sc.decO : (s : Sc) → Value → Option s.T
  | .int k, .int k' n => match k == k' with | true => some n | false => none
  | .bool, .bool b => some b
  | .ptr, .pointer p => some p
  | .sl, .slice b l c => some ⟨b, l, c⟩
  | .str, .string s => some s
  | .mp, .map m => some m
  | .any, v => some v
  | .addr, .pointer (some p) => some p
  | _, _ => none
def decsO : (l : List Sc) → List Value → Option (TT l)
  | [], _ => some ()
  | s :: l, v :: vs => match s.decO v, decsO l vs with
    | some x, some y => some (x, y)
    | _, _ => none
  | _ :: _, [] => none
theorem Sc.decO_enc {s : Sc} {v : Value} {x : s.T} (h : s.decO v = some x) : v = s.enc x := by
  cases s <;> cases v <;> simp only [Sc.decO] at h <;> first | cases h; rfl | cases h | skip
  · rename_i k k' n
    by_cases e : k = k'
    · subst e; simp at h; subst h; rfl
    · have : (k == k') = false := by simpa using e
      rw [this] at h; cases h
  · rename_i p
    cases p with
    | none => cases h
    | some p => simp only [Option.some.injEq] at h; subst h; rfl
theorem decsO_enc : ∀ {l : List Sc} {vs : List Value} {x : TT l}, decsO l vs = some x → ∃ r, vs = encs l x ++ r
  | [], vs, (), _ => ⟨vs, rfl⟩
  | s :: l, v :: vs, (x, y), h => by
    simp only [decsO] at h
    split at h
    · rename_i x' y' hx hy
      simp only [Option.some.injEq, Prod.mk.injEq] at h
      obtain ⟨rfl, rfl⟩ := h
      obtain ⟨r, e⟩ := decsO_enc hy
      exact ⟨r, by rw [e, Sc.decO_enc hx]; rfl⟩
    · cases h
  | _ :: _, [], _, h => by cases h
/-- the tail of a list -/
class TailOf (l F : List HP) : Prop where
  sub : ∃ p, l = p ++ F
instance TailOf.refl {F : List HP} : TailOf F F := ⟨[], rfl⟩
instance TailOf.cons {A : HP} {l F : List HP} [h : TailOf l F] : TailOf (A :: l) F := ⟨by obtain ⟨p, e⟩ := h.sub; exact ⟨A :: p, by rw [e]; rfl⟩⟩
theorem Hp.tl {F : List HP} [h2 : TailOf l F] (h : Hp E w l) : Hp E w F := by
  obtain ⟨p, e⟩ := h2.sub
  subst e; exact h.dropL
theorem as1 {α β : Type} {K : α → β → Prop} {a a' : α} {w : β} (e : a = a') (h : K a' w) : K a w := e ▸ h
/-- ifs whose condition is known -/
theorem IfB.dt {p : Prop} [Decidable p] {X Y : Prop} (hp : p) (h : X) : IfB (decide p) X Y := IfB.t (decide_eq_true hp) h
theorem IfB.df {p : Prop} [Decidable p] {X Y : Prop} (hp : ¬ p) (h : Y) : IfB (decide p) X Y := IfB.f (decide_eq_false hp) h
theorem IfB.ndt {p : Prop} [Decidable p] {X Y : Prop} (hp : p) (h : Y) : IfB (!decide p) X Y := IfB.f (by rw [decide_eq_true hp]; rfl) h
theorem IfB.ndf {p : Prop} [Decidable p] {X Y : Prop} (hp : ¬ p) (h : X) : IfB (!decide p) X Y := IfB.t (by rw [decide_eq_false hp]; rfl) h
theorem IfB.ntt {X Y : Prop} (h : Y) : IfB (!true) X Y := h
theorem IfB.nff {X Y : Prop} (h : X) : IfB (!false) X Y := h
theorem IfB.et {a b : Int} {X Y : Prop} (hp : a = b) (h : X) : IfB (a == b) X Y := IfB.t (beq_iff_eq.2 hp) h
theorem IfB.ef {a b : Int} {X Y : Prop} (hp : ¬ a = b) (h : Y) : IfB (a == b) X Y := IfB.f (beq_eq_false_iff_ne.2 hp) h
theorem IfB.nt {a b : Int} {X Y : Prop} (hp : ¬ a = b) (h : X) : IfB (a != b) X Y := IfB.t (bne_iff_ne.2 hp) h
theorem IfB.nf {a b : Int} {X Y : Prop} (hp : a = b) (h : Y) : IfB (a != b) X Y := IfB.f (bne_eq_false_iff_eq.2 hp) h
theorem IfB.dm {p : Prop} [Decidable p] {X Y : Prop} (h1 : p → X) (h2 : ¬ p → Y) : IfB (decide p) X Y := IfB.mk (fun h => h1 (of_decide_eq_true h)) (fun h => h2 (of_decide_eq_false h))
theorem IfB.em {a b : Int} {X Y : Prop} (h1 : a = b → X) (h2 : ¬ a = b → Y) : IfB (a == b) X Y := IfB.mk (fun h => h1 (beq_iff_eq.1 h)) (fun h => h2 (beq_eq_false_iff_ne.1 h))
theorem IfB.nm {a b : Int} {X Y : Prop} (h1 : ¬ a = b → X) (h2 : a = b → Y) : IfB (a != b) X Y := IfB.mk (fun h => h1 (bne_iff_ne.1 h)) (fun h => h2 (bne_eq_false_iff_eq.1 h))
/-- loads -/
theorem LdS.xb {S : World → Prop} {s : Sc} {K : s.T → Prop} {x : s.T} (hS : ∀ w, S w → HoldB b c t fr w) (hx : c.toList[i]? = some (s.enc x)) (hK : K x) : LdS (.sc s) ⟨b, i, none⟩ S K :=
  ⟨x, fun w hw => by rw [(hS w hw).cell]; rw [← hx]; simp, hK⟩
theorem LdS.xt {S : World → Prop} {ks : List Sc} {K : TT ks → Prop} {x : TT ks} (hS : ∀ w, S w → HoldB b c t fr w) (hx : decsO ks (c.toList.drop i) = some x) (hK : K x) : LdS (.st ks) ⟨b, i, none⟩ S K := by
  obtain ⟨r, e⟩ := decsO_enc hx
  refine LdC_mk x (fun w hw j hj => ?_) hK
  rw [Nat.zero_add, add_mk, (hS w hw).cell]
  have h1 : (c.toList.drop i)[j]? = (encs ks x)[j]? := by rw [e, List.getElem?_append_left hj]
  rw [List.getElem?_drop, List.getElem?_eq_getElem hj] at h1
  rw [← h1]; simp
theorem LdS.xa {S : World → Prop} {n : Nat} {mid post : List Value} {K : Array Value → Prop} (hS : ∀ w, S w → HoldB b c t fr w) (hx : c.toList.drop i = mid ++ post) (hn : mid.length = n) (hK : K ⟨mid⟩) : LdS (.arr n) ⟨b, i, none⟩ S K := by
  refine ⟨⟨mid⟩, hn, fun w hw j hj => ?_, hK⟩
  rw [add_mk, (hS w hw).cell]
  have h1 : (c.toList.drop i)[j]? = mid[j]? := by rw [hx, List.getElem?_append_left (by omega)]
  rw [List.getElem?_drop] at h1
  rw [show c[i + j]? = c.toList[i + j]? by simp, h1]
  simp [show j < mid.length by omega]
theorem Ld.xb {s : Sc} {K : s.T → Prop} {x : s.T} [FindB b l c t fr put] (h : Hp E w l) (hx : c.toList[i]? = some (s.enc x)) (hK : K x) : Ld (.sc s) ⟨b, i, none⟩ w K := LdS.xb (fun w' hw => by rw [hw]; exact h.fb) hx hK
theorem Ld.xt {ks : List Sc} {K : TT ks → Prop} {x : TT ks} [FindB b l c t fr put] (h : Hp E w l) (hx : decsO ks (c.toList.drop i) = some x) (hK : K x) : Ld (.st ks) ⟨b, i, none⟩ w K := LdS.xt (fun w' hw => by rw [hw]; exact h.fb) hx hK
theorem Ld.xa {n : Nat} {mid post : List Value} {K : Array Value → Prop} [FindB b l c t fr put] (h : Hp E w l) (hx : c.toList.drop i = mid ++ post) (hn : mid.length = n) (hK : K ⟨mid⟩) : Ld (.arr n) ⟨b, i, none⟩ w K := LdS.xa (fun w' hw => by rw [hw]; exact h.fb) hx hn hK
/-- all of a block -/
theorem Ld.xw {n : Nat} {K : Array Value → Prop} [FindB b l c t fr put] (h : Hp E w l) (hn : c.size = n) (hK : K c) : Ld (.arr n) ⟨b, 0, none⟩ w K :=
  Ld.xa (mid := c.toList) (post := []) h (by simp) (by simpa using hn) (by simpa using hK)
theorem LdS.xw {S : World → Prop} {n : Nat} {K : Array Value → Prop} (hS : ∀ w, S w → HoldB b c t fr w) (hn : c.size = n) (hK : K c) : LdS (.arr n) ⟨b, 0, none⟩ S K :=
  LdS.xa (mid := c.toList) (post := []) hS (by simp) (by simpa using hn) (by simpa using hK)
/-- stores -/
theorem StC.goM {b : Nat} {t : TypeId} {F : List HP} {K : World → Prop} : ∀ (vs : List Value) (i o : Nat) (w : World) (c : Array Value), Hp E w (Blk b (.cells c t (0, 0)) :: F) → o + i + vs.length ≤ c.size → (∀ v ∈ vs, scalarB v = true) →
    (∀ c' w', c'.toList = c.toList.take (o + i) ++ vs ++ c.toList.drop (o + i + vs.length) → Hp E w' (Blk b (.cells c' t (0, 0)) :: F) → K w') → StC ⟨b, o, none⟩ vs i w K
  | [], i, o, w, c, hh, hi, _, hK => hK c w (by simp) hh
  | v :: vs, i, o, w, c, hh, hi, hv, hK => by
    have h1 := hv v (by simp)
    simp only [List.length_cons] at hi
    unfold StC
    rw [h1]
    have h2 := hh.setCell (i := o + i) v
    refine ⟨?_, ?_, ?_⟩
    · rw [add_mk, hh.cell]; simp; omega
    · rw [add_mk]; simp [World.frozen?, hh.blk]
    · rw [add_mk]
      refine StC.goM vs (i + 1) o _ _ h2 (by simp; omega) (fun x hx => hv x (List.mem_cons_of_mem _ hx)) fun c' w' e h3 => hK c' w' ?_ h3
      rw [e, Array.toList_setIfInBounds, show o + (i + 1) = o + i + 1 by omega, List.take_add_one, List.take_set_of_le (by omega)]
      rw [List.getElem?_set_self (by simp; omega)]
      rw [List.drop_set_of_lt (by omega), List.length_cons]
      simp only [Option.toList_some, List.append_assoc, List.cons_append, List.nil_append]
      rw [show o + i + 1 + vs.length = o + i + (vs.length + 1) by omega]
theorem StC.xm {o : Nat} {vs pre mid post : List Value} {K : World → Prop} [hf : FindB b l c t (0, 0) put] (h : Hp E w l) (hc : c.toList = pre ++ (mid ++ post)) (ho : pre.length = o) (hn : mid.length = vs.length) (hv : vs.all scalarB = true)
    (hK : ∀ w', Hp E w' (put (.cells ⟨pre ++ (vs ++ post)⟩ t (0, 0))) → K w') : StC ⟨b, o, none⟩ vs 0 w K := by
  obtain ⟨r, h1, h2⟩ := hf.perm
  have hs : c.size = pre.length + (mid.length + post.length) := by rw [← Array.length_toList, hc]; simp
  refine StC.goM vs 0 o w c (h.perm h1) (by omega) (List.all_eq_true.1 hv) fun c' w' e h' => hK w' ?_
  have : c' = ⟨pre ++ (vs ++ post)⟩ := by
    apply Array.ext'
    rw [e, hc, Nat.add_zero, ← ho, List.take_left, ← hn, ← List.length_append, ← List.append_assoc, List.drop_left, List.append_assoc]
  rw [this] at h'
  exact h'.perm (h2 _)
/-- all of a block -/
theorem StC.xw {vs : List Value} {K : World → Prop} [hf : FindB b l c t (0, 0) put] (h : Hp E w l) (hn : vs.length = c.size) (hv : vs.all scalarB = true)
    (hK : ∀ w', Hp E w' (put (.cells ⟨vs⟩ t (0, 0))) → K w') : StC ⟨b, 0, none⟩ vs 0 w K :=
  StC.xm (pre := []) (mid := c.toList) (post := []) h (by simp) rfl (by simpa using hn.symm) hv (by simpa using hK)
theorem St.xb {o : Nat} {v : Value} {K : World → Prop} [hf : FindB b l c t (0, 0) put] (h : Hp E w l) (hi : o < c.size) (hv : scalarB v = true)
    (hK : ∀ w', Hp E w' (put (.cells (c.setIfInBounds o v) t (0, 0))) → K w') : St ⟨b, o, none⟩ v w K := by
  obtain ⟨r, h1, h2⟩ := hf.perm
  exact St.mk rfl (h.perm h1) hi hv fun w' h' => hK w' (h'.perm (h2 _))
theorem St.xm {o : Nat} {v u : Value} {pre post : List Value} {K : World → Prop} [hf : FindB b l c t (0, 0) put] (h : Hp E w l) (hc : c.toList = pre ++ (u :: post)) (ho : pre.length = o) (hv : scalarB v = true)
    (hK : ∀ w', Hp E w' (put (.cells ⟨pre ++ (v :: post)⟩ t (0, 0))) → K w') : St ⟨b, o, none⟩ v w K := by
  refine St.xb h ?_ hv fun w' h' => hK w' ?_
  · rw [← Array.length_toList, hc]; simp; omega
  · have : c.setIfInBounds o v = ⟨pre ++ (v :: post)⟩ := by
      apply Array.ext'
      rw [Array.toList_setIfInBounds, hc, ← ho]
      simp
    rwa [this] at h'
/-- a list with values written over it -/
def over : List Value → List Value → List Value
  | [], l => l
  | _ :: _, [] => []
  | v :: vs, _ :: l => v :: over vs l
def spl : List Value → Nat → List Value → List Value
  | l, 0, vs => over vs l
  | a :: l, o + 1, vs => a :: spl l o vs
  | [], _ + 1, _ => []
theorem over_eq : ∀ {l vs : List Value}, vs.length ≤ l.length → over vs l = vs ++ l.drop vs.length
  | _, [], _ => rfl
  | [], _ :: _, h => by simp at h
  | a :: l, v :: vs, h => by
    rw [over, over_eq (by simpa using h)]; rfl
theorem spl_eq : ∀ {l : List Value} {o : Nat} {vs : List Value}, o + vs.length ≤ l.length → spl l o vs = l.take o ++ (vs ++ l.drop (o + vs.length))
  | l, 0, vs, h => by
    have : spl l 0 vs = over vs l := by cases l <;> rfl
    rw [this, over_eq (by omega)]; simp
  | a :: l, o + 1, vs, h => by
    rw [spl, spl_eq (by simp at h; omega), show o + 1 + vs.length = o + vs.length + 1 by omega]; rfl
  | [], o + 1, vs, h => by simp at h
theorem StC.xs {o : Nat} {vs : List Value} {K : World → Prop} [hf : FindB b l c t (0, 0) put] (h : Hp E w l) (hb : Nat.ble (o + vs.length) c.toList.length = true) (hv : vs.all scalarB = true)
    (hK : ∀ w', Hp E w' (put (.cells ⟨spl c.toList o vs⟩ t (0, 0))) → K w') : StC ⟨b, o, none⟩ vs 0 w K := by
  have hb := Nat.le_of_ble_eq_true hb
  rw [spl_eq hb] at hK
  refine StC.xm (mid := (c.toList.drop o).take vs.length) h ?_ (by simp; simp at hb; omega) (by simp; simp at hb; omega) hv hK
  rw [← List.drop_drop, List.take_append_drop, List.take_append_drop]
theorem St.xs {o : Nat} {v : Value} {K : World → Prop} [hf : FindB b l c t (0, 0) put] (h : Hp E w l) (hb : Nat.ble (o + 1) c.toList.length = true) (hv : scalarB v = true)
    (hK : ∀ w', Hp E w' (put (.cells ⟨spl c.toList o [v]⟩ t (0, 0))) → K w') : St ⟨b, o, none⟩ v w K := by
  have hb := Nat.le_of_ble_eq_true hb
  have hb2 : o < c.toList.length := by omega
  rw [spl_eq (by simpa using hb)] at hK
  refine St.xm (u := c.toList[o]'hb2) (pre := c.toList.take o) (post := c.toList.drop (o + 1)) h ?_ (by simp; simp at hb; omega) hv (by simpa using hK)
  rw [List.getElem_cons_drop, List.take_append_drop]
theorem StA.xm {n o : Nat} {cs : Array Value} {pre mid post : List Value} {K : World → Prop} [hf : FindB b l c t (0, 0) put] (h : Hp E w l) (hc : c.toList = pre ++ (mid ++ post)) (ho : pre.length = o) (hn : mid.length = n) (hcs : cs.size = n) (hv : ∀ v ∈ cs.toList, scalarB v = true)
    (hK : ∀ w', Hp E w' (put (.cells ⟨pre ++ (cs.toList ++ post)⟩ t (0, 0))) → K w') : StA n ⟨b, o, none⟩ cs w K := by
  obtain ⟨r, h1, h2⟩ := hf.perm
  have hh := h.perm h1
  have hs : c.size = pre.length + (mid.length + post.length) := by rw [← Array.length_toList, hc]; simp
  refine ⟨hcs, fun i hi => ⟨?_, ?_, ?_⟩, ?_⟩
  · have : cs.getD i undef ∈ cs.toList := by simp [Array.getD, hcs, hi]
    exact hv _ this
  · rw [add_mk, hh.cell]; simp; omega
  · rw [add_mk]; simp [World.frozen?, hh.blk]
  · have key : ∀ (vs : List Value) (i : Nat) (w : World) (c : Array Value), Hp E w (Blk b (.cells c t (0, 0)) :: r) → o + i + vs.length ≤ c.size →
        Hp E (StA.setRow w ⟨b, o, none⟩ vs i) (Blk b (.cells ⟨c.toList.take (o + i) ++ vs ++ c.toList.drop (o + i + vs.length)⟩ t (0, 0)) :: r) := by
      intro vs
      induction vs with
      | nil => intro i w c hh hi; simpa [StA.setRow] using hh
      | cons v vs ih =>
        intro i w c hh hi
        simp only [List.length_cons] at hi
        have h2 := hh.setCell (i := o + i) v
        have := ih (i + 1) _ _ h2 (by simp; omega)
        unfold StA.setRow
        rw [add_mk]
        rw [Array.toList_setIfInBounds, show o + (i + 1) = o + i + 1 by omega, List.take_add_one, List.take_set_of_le (by omega), List.getElem?_set_self (by simp; omega), List.drop_set_of_lt (by omega)] at this
        rw [List.length_cons, show o + i + (vs.length + 1) = o + i + 1 + vs.length by omega]
        simpa using this
    have := key cs.toList 0 w c hh (by rw [Array.length_toList]; omega)
    refine hK _ ((this.perm (h2 _)).perm (by
      rw [hc, Nat.add_zero, ← ho, List.take_left, show cs.toList.length = mid.length by simp; omega, ← List.length_append, ← List.append_assoc, List.drop_left, List.append_assoc]))
theorem StA.xw {n : Nat} {cs : Array Value} {K : World → Prop} [hf : FindB b l c t (0, 0) put] (h : Hp E w l) (hn : c.size = n) (hcs : cs.size = n) (hv : ∀ v ∈ cs.toList, scalarB v = true)
    (hK : ∀ w', Hp E w' (put (.cells cs t (0, 0))) → K w') : StA n ⟨b, 0, none⟩ cs w K :=
  StA.xm (pre := []) (mid := c.toList) (post := []) h (by simp) rfl (by simpa using hn) hcs hv (by simpa using hK)
end
end Go.Vc
/- Var -/
namespace Go.Srt
/-- the number of groups of a number in progress -/
def vm (v : Nat) : Nat := if v = 0 then 0 else if v < 128 then 1 else if v < 16384 then 2 else if v < 2097152 then 3 else 4
theorem vm_next {v c : Nat} (hv : v ≤ 65536) (hc : 128 ≤ c) (hc2 : c < 256) (h0 : ¬ (v = 0 ∧ c = 128)) : vm v + 1 = vm (128 * v + c % 128) := by
  unfold vm
  repeat' split
  all_goals omega
theorem vm_cases {v : Nat} (hv : v ≤ 65536) : (v = 0 ∧ vm v = 0) ∨ (1 ≤ v ∧ v < 128 ∧ vm v = 1) ∨ (128 ≤ v ∧ v < 16384 ∧ vm v = 2) ∨ (16384 ≤ v ∧ v < 2097152 ∧ vm v = 3) := by
  unfold vm
  repeat' split
  all_goals omega
theorem vm_le {v : Nat} (hv : v ≤ 65536) : vm v ≤ 3 ∧ (vm v = 0 ↔ v = 0) := by
  have := vm_cases hv
  omega
end Go.Srt
namespace Go.Vc
theorem or128 {v c : Nat} (hv : v ≤ 65536) (hc : c < 256) : ior .i64 (ishl .i64 (v : Int) 7) (i64 (iand .u8 (c : Int) 127)) = ((128 * v + c % 128 : Nat) : Int) := by
  have hmx : IntKind.max .i64 = 9223372036854775807 := rfl
  have hm8 : IntKind.max .u8 = 255 := rfl
  have e1 : ishl .i64 (v : Int) 7 = ((v * 128 : Nat) : Int) := by
    have := ishl_nat (k := .i64) (a := v) (b := 7) (by decide) (by rw [hmx]; omega)
    simpa using this
  have e2 : iand .u8 (c : Int) 127 = ((c % 128 : Nat) : Int) := by
    have := iand_nat (k := .u8) (a := c) (b := 127) (by rw [hm8]; omega) (by rw [hm8]; omega)
    rw [show c &&& 127 = c % 128 from Nat.and_two_pow_sub_one_eq_mod c 7] at this
    simpa using this
  have e3 : v * 128 ||| c % 128 = 128 * v + c % 128 := by
    rw [Nat.mul_comm v 128]
    exact (Nat.two_pow_add_eq_or_of_lt (i := 7) (by omega) v).symm
  rw [e1, e2, i64_id (by omega), ior_nat (by rw [hmx]; omega) (by rw [hmx]; omega) (by rw [e3, hmx]; omega), e3]
end Go.Vc
namespace Go.Proofs.Ytjnjjibmlalpiaa
open Go Go.Vc Go.Srt
section
variable {E w : World} {F : List HP}
theorem vvalid_c {v : Nat} {K : Bool → World → Prop} (h : Hp E w F) (hv : v ≤ 65536) (hK : ∀ w', Hp E w' F → K true w') :
    Cl Try.prog [kB] n_varint_Valid ⟨[.agg ⟨[.int .i64 (v : Int), .int .i64 (vm v : Int)]⟩]⟩ w K := by
  refine varint_Valid.ok ((v : Int), (vm v : Int), ()) _ _ ?_
  unfold varint_Valid.E
  (try simp only [Join_eq, NilCk_some, add_mk, Nat.zero_add, Nat.add_zero, Nat.reduceAdd, Bool.not_true, Bool.not_false, IfB_t, IfB_f, Option.isNone])
  (repeat (first | with_reducible refine Nw.mk h (fun b w h => ?_) | with_reducible refine Drw.mk h (fun w h => ?_) | with_reducible refine Ld.xb h rfl ?_ | with_reducible refine Ld.xt h rfl ?_ | with_reducible refine LdS.xb (fun _ h => h) rfl ?_ | with_reducible refine LdS.xt (fun _ h => h) rfl ?_ | with_reducible refine And.intro h.hb ?_ | with_reducible refine StC.xw h rfl rfl (fun w h => ?_) | (with_reducible refine StC.xs h rfl rfl (fun w h => ?_); dsimp only [spl, over] at h) | (with_reducible refine St.xs h rfl rfl (fun w h => ?_); dsimp only [spl, over] at h) | with_reducible refine IfB.ntt ?_ | with_reducible refine IfB.nff ?_ | with_reducible refine IfB.t rfl ?_ | with_reducible refine IfB.f rfl ?_ | with_reducible refine IfB.dt (by omega) ?_ | with_reducible refine IfB.df (by omega) ?_ | with_reducible refine IfB.ndt (by omega) ?_ | with_reducible refine IfB.ndf (by omega) ?_ | with_reducible refine IfB.et (by omega) ?_ | with_reducible refine IfB.ef (by omega) ?_ | with_reducible refine IfB.nt (by omega) ?_ | with_reducible refine IfB.nf (by omega) ?_ | with_reducible refine And.intro (by first | omega | decide) ?_))
  rcases vm_cases hv with ⟨h1, h2⟩ | ⟨h0, h1, h2⟩ | ⟨h0, h1, h2⟩ | ⟨h0, h1, h2⟩
  all_goals rw [h2] at h ⊢
  · subst h1
    (repeat (first | with_reducible refine Nw.mk h (fun b w h => ?_) | with_reducible refine Drw.mk h (fun w h => ?_) | with_reducible refine Ld.xb h rfl ?_ | with_reducible refine Ld.xt h rfl ?_ | with_reducible refine LdS.xb (fun _ h => h) rfl ?_ | with_reducible refine LdS.xt (fun _ h => h) rfl ?_ | with_reducible refine And.intro h.hb ?_ | with_reducible refine StC.xw h rfl rfl (fun w h => ?_) | (with_reducible refine StC.xs h rfl rfl (fun w h => ?_); dsimp only [spl, over] at h) | (with_reducible refine St.xs h rfl rfl (fun w h => ?_); dsimp only [spl, over] at h) | with_reducible refine IfB.ntt ?_ | with_reducible refine IfB.nff ?_ | with_reducible refine IfB.t rfl ?_ | with_reducible refine IfB.f rfl ?_ | with_reducible refine IfB.dt (by omega) ?_ | with_reducible refine IfB.df (by omega) ?_ | with_reducible refine IfB.ndt (by omega) ?_ | with_reducible refine IfB.ndf (by omega) ?_ | with_reducible refine IfB.et (by omega) ?_ | with_reducible refine IfB.ef (by omega) ?_ | with_reducible refine IfB.nt (by omega) ?_ | with_reducible refine IfB.nf (by omega) ?_ | with_reducible refine And.intro (by first | omega | decide) ?_))
    exact hK _ h.tl
  all_goals
    (repeat (first | with_reducible refine Nw.mk h (fun b w h => ?_) | with_reducible refine Drw.mk h (fun w h => ?_) | with_reducible refine Ld.xb h rfl ?_ | with_reducible refine Ld.xt h rfl ?_ | with_reducible refine LdS.xb (fun _ h => h) rfl ?_ | with_reducible refine LdS.xt (fun _ h => h) rfl ?_ | with_reducible refine And.intro h.hb ?_ | with_reducible refine StC.xw h rfl rfl (fun w h => ?_) | (with_reducible refine StC.xs h rfl rfl (fun w h => ?_); dsimp only [spl, over] at h) | (with_reducible refine St.xs h rfl rfl (fun w h => ?_); dsimp only [spl, over] at h) | with_reducible refine IfB.ntt ?_ | with_reducible refine IfB.nff ?_ | with_reducible refine IfB.t rfl ?_ | with_reducible refine IfB.f rfl ?_ | with_reducible refine IfB.dt (by omega) ?_ | with_reducible refine IfB.df (by omega) ?_ | with_reducible refine IfB.ndt (by omega) ?_ | with_reducible refine IfB.ndf (by omega) ?_ | with_reducible refine IfB.et (by omega) ?_ | with_reducible refine IfB.ef (by omega) ?_ | with_reducible refine IfB.nt (by omega) ?_ | with_reducible refine IfB.nf (by omega) ?_ | with_reducible refine And.intro (by first | omega | decide) ?_))
    refine IfB.dt ?_ ?_
    · first
      | rw [show ishl .i64 1 (i64 (7 * i64 (((1 : Nat) : Int) - 1))) = 1 by decide]; omega
      | rw [show ishl .i64 1 (i64 (7 * i64 (((2 : Nat) : Int) - 1))) = 128 by decide]; omega
      | rw [show ishl .i64 1 (i64 (7 * i64 (((3 : Nat) : Int) - 1))) = 16384 by decide]; omega
    (repeat (first | with_reducible refine Nw.mk h (fun b w h => ?_) | with_reducible refine Drw.mk h (fun w h => ?_) | with_reducible refine Ld.xb h rfl ?_ | with_reducible refine Ld.xt h rfl ?_ | with_reducible refine LdS.xb (fun _ h => h) rfl ?_ | with_reducible refine LdS.xt (fun _ h => h) rfl ?_ | with_reducible refine And.intro h.hb ?_ | with_reducible refine StC.xw h rfl rfl (fun w h => ?_) | (with_reducible refine StC.xs h rfl rfl (fun w h => ?_); dsimp only [spl, over] at h) | (with_reducible refine St.xs h rfl rfl (fun w h => ?_); dsimp only [spl, over] at h) | with_reducible refine IfB.ntt ?_ | with_reducible refine IfB.nff ?_ | with_reducible refine IfB.t rfl ?_ | with_reducible refine IfB.f rfl ?_ | with_reducible refine IfB.dt (by omega) ?_ | with_reducible refine IfB.df (by omega) ?_ | with_reducible refine IfB.ndt (by omega) ?_ | with_reducible refine IfB.ndf (by omega) ?_ | with_reducible refine IfB.et (by omega) ?_ | with_reducible refine IfB.ef (by omega) ?_ | with_reducible refine IfB.nt (by omega) ?_ | with_reducible refine IfB.nf (by omega) ?_ | with_reducible refine And.intro (by first | omega | decide) ?_))
    refine as1 ?_ (hK _ h.tl)
    refine decide_eq_true ?_
    first
      | rw [show ishl .i64 1 (i64 (7 * ((1 : Nat) : Int))) = 128 by decide]; omega
      | rw [show ishl .i64 1 (i64 (7 * ((2 : Nat) : Int))) = 16384 by decide]; omega
      | rw [show ishl .i64 1 (i64 (7 * ((3 : Nat) : Int))) = 2097152 by decide]; omega
theorem vstep_c {v c : Nat} {K : Int × Int × Unit → Bool → Int → World → Prop} (h : Hp E w F) (hv : v ≤ 65536) (hc : c < 256)
    (hbad : v = 0 ∧ c = 128 → ∀ w', Hp E w' F → K (0, 0, ()) false 51 w')
    (hK : ¬ (v = 0 ∧ c = 128) → ∀ w', Hp E w' F → K (((128 * v + c % 128 : Nat) : Int), ((vm v + 1 : Nat) : Int), ()) (decide (c < 128)) 0 w') :
    Cl Try.prog [.st [.int .i64, .int .i64], kB, kI] n_varint_Step ⟨[.agg ⟨[.int .i64 (v : Int), .int .i64 (vm v : Int)]⟩, .int .u8 (c : Int)]⟩ w K := by
  refine varint_Step.ok ((v : Int), (vm v : Int), ()) _ _ _ ?_
  unfold varint_Step.E
  (try simp only [Join_eq, NilCk_some, add_mk, Nat.zero_add, Nat.add_zero, Nat.reduceAdd, Bool.not_true, Bool.not_false, IfB_t, IfB_f, Option.isNone])
  (repeat (first | with_reducible refine Nw.mk h (fun b w h => ?_) | with_reducible refine Drw.mk h (fun w h => ?_) | with_reducible refine Ld.xb h rfl ?_ | with_reducible refine Ld.xt h rfl ?_ | with_reducible refine LdS.xb (fun _ h => h) rfl ?_ | with_reducible refine LdS.xt (fun _ h => h) rfl ?_ | with_reducible refine And.intro h.hb ?_ | with_reducible refine StC.xw h rfl rfl (fun w h => ?_) | (with_reducible refine StC.xs h rfl rfl (fun w h => ?_); dsimp only [spl, over] at h) | (with_reducible refine St.xs h rfl rfl (fun w h => ?_); dsimp only [spl, over] at h) | with_reducible refine IfB.ntt ?_ | with_reducible refine IfB.nff ?_ | with_reducible refine IfB.t rfl ?_ | with_reducible refine IfB.f rfl ?_ | with_reducible refine IfB.dt (by omega) ?_ | with_reducible refine IfB.df (by omega) ?_ | with_reducible refine IfB.ndt (by omega) ?_ | with_reducible refine IfB.ndf (by omega) ?_ | with_reducible refine IfB.et (by omega) ?_ | with_reducible refine IfB.ef (by omega) ?_ | with_reducible refine IfB.nt (by omega) ?_ | with_reducible refine IfB.nf (by omega) ?_ | with_reducible refine And.intro (by first | omega | decide) ?_))
  refine vvalid_c h hv fun w h => ?_
  (try simp only [Join_eq, NilCk_some, add_mk, Nat.zero_add, Nat.add_zero, Nat.reduceAdd, Bool.not_true, Bool.not_false, IfB_t, IfB_f, Option.isNone])
  rw [or128 hv hc]
  have hvm := vm_le hv
  have fin : ∀ w, ¬ (v = 0 ∧ c = 128) → Hp E w F → K (((128 * v + c % 128 : Nat) : Int), i64 ((vm v : Int) + 1), ()) (decide ((c : Int) < 128)) 0 w := fun w hn h => by
    have := hK hn w h
    rw [i64_id (by omega)]
    rw [show ((vm v + 1 : Nat) : Int) = (vm v : Int) + 1 from rfl] at this
    rwa [show decide ((c : Int) < 128) = decide (c < 128) from decide_eq_decide.2 (by omega)]
  (first | refine IfB.dm (fun hb => ?_) (fun hb => ?_) | refine IfB.em (fun hb => ?_) (fun hb => ?_) | refine IfB.nm (fun hb => ?_) (fun hb => ?_) | refine IfB.mk (fun hb => ?_) (fun hb => ?_))
  · (repeat (first | with_reducible refine Nw.mk h (fun b w h => ?_) | with_reducible refine Drw.mk h (fun w h => ?_) | with_reducible refine Ld.xb h rfl ?_ | with_reducible refine Ld.xt h rfl ?_ | with_reducible refine LdS.xb (fun _ h => h) rfl ?_ | with_reducible refine LdS.xt (fun _ h => h) rfl ?_ | with_reducible refine And.intro h.hb ?_ | with_reducible refine StC.xw h rfl rfl (fun w h => ?_) | (with_reducible refine StC.xs h rfl rfl (fun w h => ?_); dsimp only [spl, over] at h) | (with_reducible refine St.xs h rfl rfl (fun w h => ?_); dsimp only [spl, over] at h) | with_reducible refine IfB.ntt ?_ | with_reducible refine IfB.nff ?_ | with_reducible refine IfB.t rfl ?_ | with_reducible refine IfB.f rfl ?_ | with_reducible refine IfB.dt (by omega) ?_ | with_reducible refine IfB.df (by omega) ?_ | with_reducible refine IfB.ndt (by omega) ?_ | with_reducible refine IfB.ndf (by omega) ?_ | with_reducible refine IfB.et (by omega) ?_ | with_reducible refine IfB.ef (by omega) ?_ | with_reducible refine IfB.nt (by omega) ?_ | with_reducible refine IfB.nf (by omega) ?_ | with_reducible refine And.intro (by first | omega | decide) ?_))
    (first | refine IfB.dm (fun hb => ?_) (fun hb => ?_) | refine IfB.em (fun hb => ?_) (fun hb => ?_) | refine IfB.nm (fun hb => ?_) (fun hb => ?_) | refine IfB.mk (fun hb => ?_) (fun hb => ?_))
    · (repeat (first | with_reducible refine Nw.mk h (fun b w h => ?_) | with_reducible refine Drw.mk h (fun w h => ?_) | with_reducible refine Ld.xb h rfl ?_ | with_reducible refine Ld.xt h rfl ?_ | with_reducible refine LdS.xb (fun _ h => h) rfl ?_ | with_reducible refine LdS.xt (fun _ h => h) rfl ?_ | with_reducible refine And.intro h.hb ?_ | with_reducible refine StC.xw h rfl rfl (fun w h => ?_) | (with_reducible refine StC.xs h rfl rfl (fun w h => ?_); dsimp only [spl, over] at h) | (with_reducible refine St.xs h rfl rfl (fun w h => ?_); dsimp only [spl, over] at h) | with_reducible refine IfB.ntt ?_ | with_reducible refine IfB.nff ?_ | with_reducible refine IfB.t rfl ?_ | with_reducible refine IfB.f rfl ?_ | with_reducible refine IfB.dt (by omega) ?_ | with_reducible refine IfB.df (by omega) ?_ | with_reducible refine IfB.ndt (by omega) ?_ | with_reducible refine IfB.ndf (by omega) ?_ | with_reducible refine IfB.et (by omega) ?_ | with_reducible refine IfB.ef (by omega) ?_ | with_reducible refine IfB.nt (by omega) ?_ | with_reducible refine IfB.nf (by omega) ?_ | with_reducible refine And.intro (by first | omega | decide) ?_))
      exact hbad (by omega) _ h.tl
    · (repeat (first | with_reducible refine Nw.mk h (fun b w h => ?_) | with_reducible refine Drw.mk h (fun w h => ?_) | with_reducible refine Ld.xb h rfl ?_ | with_reducible refine Ld.xt h rfl ?_ | with_reducible refine LdS.xb (fun _ h => h) rfl ?_ | with_reducible refine LdS.xt (fun _ h => h) rfl ?_ | with_reducible refine And.intro h.hb ?_ | with_reducible refine StC.xw h rfl rfl (fun w h => ?_) | (with_reducible refine StC.xs h rfl rfl (fun w h => ?_); dsimp only [spl, over] at h) | (with_reducible refine St.xs h rfl rfl (fun w h => ?_); dsimp only [spl, over] at h) | with_reducible refine IfB.ntt ?_ | with_reducible refine IfB.nff ?_ | with_reducible refine IfB.t rfl ?_ | with_reducible refine IfB.f rfl ?_ | with_reducible refine IfB.dt (by omega) ?_ | with_reducible refine IfB.df (by omega) ?_ | with_reducible refine IfB.ndt (by omega) ?_ | with_reducible refine IfB.ndf (by omega) ?_ | with_reducible refine IfB.et (by omega) ?_ | with_reducible refine IfB.ef (by omega) ?_ | with_reducible refine IfB.nt (by omega) ?_ | with_reducible refine IfB.nf (by omega) ?_ | with_reducible refine And.intro (by first | omega | decide) ?_))
      exact fin _ (by omega) h.tl
  · (repeat (first | with_reducible refine Nw.mk h (fun b w h => ?_) | with_reducible refine Drw.mk h (fun w h => ?_) | with_reducible refine Ld.xb h rfl ?_ | with_reducible refine Ld.xt h rfl ?_ | with_reducible refine LdS.xb (fun _ h => h) rfl ?_ | with_reducible refine LdS.xt (fun _ h => h) rfl ?_ | with_reducible refine And.intro h.hb ?_ | with_reducible refine StC.xw h rfl rfl (fun w h => ?_) | (with_reducible refine StC.xs h rfl rfl (fun w h => ?_); dsimp only [spl, over] at h) | (with_reducible refine St.xs h rfl rfl (fun w h => ?_); dsimp only [spl, over] at h) | with_reducible refine IfB.ntt ?_ | with_reducible refine IfB.nff ?_ | with_reducible refine IfB.t rfl ?_ | with_reducible refine IfB.f rfl ?_ | with_reducible refine IfB.dt (by omega) ?_ | with_reducible refine IfB.df (by omega) ?_ | with_reducible refine IfB.ndt (by omega) ?_ | with_reducible refine IfB.ndf (by omega) ?_ | with_reducible refine IfB.et (by omega) ?_ | with_reducible refine IfB.ef (by omega) ?_ | with_reducible refine IfB.nt (by omega) ?_ | with_reducible refine IfB.nf (by omega) ?_ | with_reducible refine And.intro (by first | omega | decide) ?_))
    exact fin _ (by omega) h.tl
end
end Go.Proofs.Ytjnjjibmlalpiaa
/- Rk -/
namespace Go.Rk
section
variable {α : Type} {lt : α → α → Bool}
/-- a strict weak order -/
structure SO (lt : α → α → Bool) : Prop where
  irr : ∀ a, lt a a = false
  trans : ∀ a b c, lt a b = true → lt b c = true → lt a c = true
  ntrans : ∀ a b c, lt a b = false → lt b c = false → lt a c = false
theorem SO.asym (h : SO lt) {a b : α} (hab : lt a b = true) : lt b a = false := by
  cases hb : lt b a with
  | false => rfl
  | true => have := h.trans _ _ _ hab hb; rw [h.irr] at this; cases this
theorem countP_lt {p q : α → Bool} : ∀ {l : List α}, (∀ z ∈ l, p z = true → q z = true) → (∃ x, x ∈ l ∧ q x = true ∧ p x = false) → l.countP p < l.countP q
  | [], _, ⟨x, hx, _⟩ => by cases hx
  | a :: l, h, ⟨x, hx, hq, hp⟩ => by
    have hle : l.countP p ≤ l.countP q := List.countP_mono_left fun z hz => h z (List.mem_cons_of_mem _ hz)
    rw [List.countP_cons, List.countP_cons]
    rcases List.mem_cons.1 hx with rfl | hx
    · rw [hq, hp]; simp; omega
    · have ih := countP_lt (fun z hz => h z (List.mem_cons_of_mem _ hz)) ⟨x, hx, hq, hp⟩
      cases hpa : p a with
      | false => simp; split <;> omega
      | true => rw [h a (by simp) hpa]; simp; omega
/-- in a strictly sorted list as many elements are less than one as stand ahead of it -/
theorem rank_at (h : SO lt) : ∀ {S : List α}, S.Pairwise (fun a b => lt a b = true) → ∀ (j : Nat) (hj : j < S.length), S.countP (fun x => lt x S[j]) = j
  | [], _, j, hj => by simp at hj
  | a :: S, hp, 0, _ => by
    rw [List.pairwise_cons] at hp
    rw [List.countP_cons, List.getElem_cons_zero, h.irr, List.countP_eq_zero.2 fun x hx => by rw [h.asym (hp.1 x hx)]; decide]
    rfl
  | a :: S, hp, j + 1, hj => by
    rw [List.pairwise_cons] at hp
    have hj' : j < S.length := by simpa using hj
    rw [List.countP_cons, List.getElem_cons_succ, rank_at h hp.2 j hj', hp.1 _ (List.getElem_mem hj')]
    rfl
theorem rank_of (h : SO lt) {S : List α} (hp : S.Pairwise (fun a b => lt a b = true)) {x : α} (hx : x ∈ S) : ∃ hj : S.countP (fun y => lt y x) < S.length, S[S.countP (fun y => lt y x)] = x := by
  obtain ⟨j, hj, rfl⟩ := List.getElem_of_mem hx
  have := rank_at h hp j hj
  exact ⟨by omega, by simp only [this]⟩
theorem sorted_eq (h : SO lt) {S T : List α} (hpm : S.Perm T) (hS : S.Pairwise (fun a b => lt a b = true)) (hT : T.Pairwise (fun a b => lt a b = true)) : S = T := by
  apply List.ext_getElem hpm.length_eq
  intro r h1 h3
  have hr := rank_at h hS r h1
  rw [hpm.countP_eq] at hr
  obtain ⟨h4, h5⟩ := rank_of h hT (hpm.mem_iff.1 (List.getElem_mem h1))
  rw [← h5]
  simp only [hr]
/-- the number of elements that are less -/
def rk (lt : α → α → Bool) (dom : List α) (x : α) : Nat := dom.countP fun y => lt y x
theorem rk_lt (h : SO lt) {dom : List α} {x y : α} (hx : x ∈ dom) (hl : lt x y = true) : rk lt dom x < rk lt dom y :=
  countP_lt (fun _ _ hz => h.trans _ _ _ hz hl) ⟨x, hx, hl, h.irr x⟩
def Tot (lt : α → α → Bool) (dom : List α) : Prop := ∀ x ∈ dom, ∀ y ∈ dom, x ≠ y → lt x y = true ∨ lt y x = true
theorem rk_iff (h : SO lt) {dom : List α} (ht : Tot lt dom) {x y : α} (hx : x ∈ dom) (hy : y ∈ dom) : rk lt dom x < rk lt dom y ↔ lt x y = true := by
  constructor
  · intro hlt
    by_cases e : x = y
    · subst e; omega
    · rcases ht x hx y hy e with h1 | h1
      · exact h1
      · have := rk_lt h hy h1; omega
  · exact rk_lt h hx
theorem rk_inj (h : SO lt) {dom : List α} (ht : Tot lt dom) {x y : α} (hx : x ∈ dom) (hy : y ∈ dom) (he : rk lt dom x = rk lt dom y) : x = y := by
  by_cases e : x = y
  · exact e
  · rcases ht x hx y hy e with h1 | h1
    · have := rk_lt h hx h1; omega
    · have := rk_lt h hy h1; omega
theorem rk_le {dom : List α} (x : α) : rk lt dom x ≤ dom.length := List.countP_le_length
/-- the elements in order -/
def srt (lt : α → α → Bool) (dom : List α) : List α := dom.mergeSort fun a b => !lt b a
theorem srt_perm (dom : List α) : (srt lt dom).Perm dom := List.mergeSort_perm ..
theorem srt_len (dom : List α) : (srt lt dom).length = dom.length := (srt_perm dom).length_eq
theorem srt_sorted (h : SO lt) {dom : List α} (hn : dom.Nodup) (ht : Tot lt dom) : (srt lt dom).Pairwise fun a b => lt a b = true := by
  have h1 := List.pairwise_mergeSort (le := fun a b => !lt b a) (fun a b c h1 h2 => by
      simp only [Bool.not_eq_true'] at *; exact h.ntrans _ _ _ h2 h1) (fun a b => by
      cases hab : lt a b with
      | true => simp [h.asym hab]
      | false => simp) dom
  have h2 : (srt lt dom).Nodup := (srt_perm dom).nodup_iff.2 hn
  have h3 : (srt lt dom).Pairwise fun a b => a ∈ dom ∧ b ∈ dom := List.Pairwise.imp_of_mem (fun {a b} ha hb _ => ⟨(srt_perm dom).mem_iff.1 ha, (srt_perm dom).mem_iff.1 hb⟩) h2
  exact ((h1.and h2).and h3).imp fun {a b} hh => by
    rcases ht a hh.2.1 b hh.2.2 hh.1.2 with h4 | h4
    · exact h4
    · have := hh.1.1; simp [h4] at this
theorem srt_at (h : SO lt) {dom : List α} (hn : dom.Nodup) (ht : Tot lt dom) {x : α} (hx : x ∈ dom) : ∃ hj : rk lt dom x < (srt lt dom).length, (srt lt dom)[rk lt dom x] = x := by
  have := rank_of h (srt_sorted h hn ht) ((srt_perm dom).mem_iff.2 hx)
  rw [(srt_perm dom).countP_eq] at this
  exact this
theorem rk_at (h : SO lt) {dom : List α} (hn : dom.Nodup) (ht : Tot lt dom) {r : Nat} (hr : r < (srt lt dom).length) : rk lt dom (srt lt dom)[r] = r := by
  have := rank_at h (srt_sorted h hn ht) r hr
  rwa [(srt_perm dom).countP_eq] at this
theorem rk_lt_len (h : SO lt) {dom : List α} (hn : dom.Nodup) (ht : Tot lt dom) {x : α} (hx : x ∈ dom) : rk lt dom x < dom.length := by
  obtain ⟨hj, _⟩ := srt_at h hn ht hx
  rwa [srt_len] at hj
/-- a list that has each element at its rank is the sorted one -/
theorem placed_eq (h : SO lt) {dom out : List α} (hn : dom.Nodup) (ht : Tot lt dom) (hl : out.length = dom.length) (hp : ∀ x ∈ dom, out[rk lt dom x]? = some x) : out = srt lt dom := by
  apply List.ext_getElem (by rw [srt_len, hl])
  intro r h1 h2
  have hx := (srt_perm dom).mem_iff.1 (List.getElem_mem h2)
  have := hp _ hx
  rw [rk_at h hn ht h2, List.getElem?_eq_getElem h1] at this
  exact Option.some.inj this
end
/-- numbers below n, all of them different, n in number: all of them -/
theorem perm_range {l : List Nat} (hn : l.Nodup) (hb : ∀ x ∈ l, x < l.length) : l.Perm (List.range l.length) := by
  have hso : SO (fun a b : Nat => decide (a < b)) := ⟨fun a => by simp, fun a b c h1 h2 => by simp at *; omega, fun a b c h1 h2 => by simp at *; omega⟩
  have htot : Tot (fun a b : Nat => decide (a < b)) l := fun x _ y _ e => by simp; omega
  have hs := srt_sorted hso hn htot
  have hp := srt_perm (lt := fun a b : Nat => decide (a < b)) l
  generalize srt (fun a b : Nat => decide (a < b)) l = S at hs hp
  have hSl := hp.length_eq
  have low : ∀ i (hi : i < S.length), i ≤ S[i] := by
    intro i
    induction i with
    | zero => intro _; omega
    | succ i ih =>
      intro hi
      have h1 := ih (by omega)
      have h2 := List.pairwise_iff_getElem.1 hs i (i + 1) (by omega) hi (by omega)
      simp at h2; omega
  have high : ∀ d i (hi : i < S.length), S.length - 1 - i = d → S[i] ≤ i := by
    intro d
    induction d with
    | zero =>
      intro i hi hd
      have := hb S[i] (hp.mem_iff.1 (List.getElem_mem hi))
      omega
    | succ d ih =>
      intro i hi hd
      have h1 := ih (i + 1) (by omega) (by omega)
      have h2 := List.pairwise_iff_getElem.1 hs i (i + 1) hi (by omega) (by omega)
      simp at h2; omega
  have : S = List.range l.length := by
    apply List.ext_getElem (by simpa using hSl)
    intro i h1 h2
    have := low i h1
    have := high _ i h1 rfl
    simp; omega
  rw [← this]; exact hp.symm
end Go.Rk
/- Inc -/
namespace Go.Inc
/-- what a step answers: go on, the end, or an error -/
inductive Stp (σ β ε : Type) where
  | more (s : σ) | fin (b : β) | bad (e : ε)
/-- what a run answers: the input ended, the end and the rest, or an error -/
inductive Ran (α σ β ε : Type) where
  | short (s : σ) | fin (b : β) (rest : List α) | bad (e : ε)
def run {α σ β ε : Type} (f : σ → α → Stp σ β ε) : σ → List α → Ran α σ β ε
  | s, [] => .short s
  | s, c :: l => match f s c with
    | .more s' => run f s' l
    | .fin b => .fin b l
    | .bad e => .bad e
section
variable {α σ β ε : Type} {f : σ → α → Stp σ β ε}
theorem run_nil (s : σ) : run f s [] = .short s := rfl
theorem run_cons (s : σ) (c : α) (l : List α) : run f s (c :: l) = match f s c with
    | .more s' => run f s' l
    | .fin b => .fin b l
    | .bad e => .bad e := rfl
theorem run_more {s s' : σ} {c : α} {l : List α} (h : f s c = .more s') : run f s (c :: l) = run f s' l := by rw [run_cons, h]
theorem run_fin {s : σ} {b : β} {c : α} {l : List α} (h : f s c = .fin b) : run f s (c :: l) = .fin b l := by rw [run_cons, h]
theorem run_bad {s : σ} {e : ε} {c : α} {l : List α} (h : f s c = .bad e) : run f s (c :: l) = .bad e := by rw [run_cons, h]
/-- more input -/
theorem run_app : ∀ (a : List α) (s : σ) (l : List α), run f s (a ++ l) = match run f s a with
    | .short s' => run f s' l
    | .fin b r => .fin b (r ++ l)
    | .bad e => .bad e
  | [], s, l => rfl
  | c :: a, s, l => by
    rw [List.cons_append, run_cons, run_cons]
    cases f s c with
    | more s' => exact run_app a s' l
    | fin b => rfl
    | bad e => rfl
theorem run_short {s s' : σ} {a : List α} (h : run f s a = .short s') (l : List α) : run f s (a ++ l) = run f s' l := by rw [run_app, h]
theorem run_done {s : σ} {b : β} {a r : List α} (h : run f s a = .fin b r) (l : List α) : run f s (a ++ l) = .fin b (r ++ l) := by rw [run_app, h]
theorem run_err {s : σ} {e : ε} {a : List α} (h : run f s a = .bad e) (l : List α) : run f s (a ++ l) = .bad e := by rw [run_app, h]
/-- the end comes with the last item read, and not earlier -/
theorem run_split : ∀ {l : List α} {s : σ} {b : β} {r : List α}, run f s l = .fin b r → ∃ a c s', l = a ++ c :: r ∧ run f s a = .short s' ∧ f s' c = .fin b
  | [], s, b, r, h => by cases h
  | c :: l, s, b, r, h => by
    rw [run_cons] at h
    cases hc : f s c with
    | more s' =>
      rw [hc] at h
      obtain ⟨a, c', s'', rfl, h1, h2⟩ := run_split h
      exact ⟨c :: a, c', s'', rfl, by rw [run_more hc, h1], h2⟩
    | fin b' =>
      rw [hc] at h
      cases h
      exact ⟨[], c, s, rfl, rfl, hc⟩
    | bad e => rw [hc] at h; cases h
/-- a prefix of an input whose run goes on -/
theorem run_pre {a l : List α} {s s' : σ} (h : run f s (a ++ l) = .short s') : ∃ s'', run f s a = .short s'' := by
  rw [run_app] at h
  cases ha : run f s a with
  | short s'' => exact ⟨s'', rfl⟩
  | fin b r => rw [ha] at h; cases h
  | bad e => rw [ha] at h; cases h
/-- what was read, without its last items -/
theorem run_cut {l r : List α} {s : σ} {b : β} (h : run f s (l ++ r) = .fin b r) {k : Nat} (hk : k < l.length) : ∃ s', run f s (l.take k) = .short s' := by
  obtain ⟨a, c, s', e, h1, h2⟩ := run_split h
  have e : l = a ++ [c] := List.append_cancel_right (bs := r) (by rw [e]; simp)
  subst e
  rw [List.length_append] at hk
  have : ((a ++ [c]).take k) = a.take k := by rw [List.take_append_of_le_length (by simp at hk; omega)]
  rw [this]
  refine run_pre (l := a.drop k) (s' := s') ?_
  rw [List.take_append_drop]; exact h1
end
end Go.Inc
/- HdP -/
namespace Go.Hd
open Go.Inc
/-! numbers in groups of seven bits -/
/-- the groups ahead of the last one -/
def vgr (n : Nat) : List Nat := if _h : n = 0 then [] else vgr (n / 128) ++ [128 + n % 128]
termination_by n
decreasing_by omega
def vput (n : Nat) : List Nat := vgr (n / 128) ++ [n % 128]
theorem vgr_zero : vgr 0 = [] := by rw [vgr]; simp
theorem vgr_pos {n : Nat} (h : 0 < n) : vgr n = vgr (n / 128) ++ [128 + n % 128] := by rw [vgr, dif_neg (by omega)]
theorem vgr_nil {n : Nat} : vgr n = [] ↔ n = 0 := by
  constructor
  · intro h
    rcases Nat.eq_zero_or_pos n with e | e
    · exact e
    · rw [vgr_pos e] at h; simp at h
  · intro h; rw [h, vgr_zero]
theorem vgr_b (n : Nat) : ∀ x ∈ vgr n, x < 256 := by
  induction n using Nat.strongRecOn with
  | ind n ih =>
    rcases Nat.eq_zero_or_pos n with e | e
    · rw [e, vgr_zero]; simp
    · rw [vgr_pos e]
      intro x hx
      rcases List.mem_append.1 hx with h | h
      · exact ih (n / 128) (by omega) x h
      · rw [List.mem_singleton] at h; omega
theorem vput_b (n : Nat) : ∀ x ∈ vput n, x < 256 := by
  intro x hx
  rcases List.mem_append.1 hx with h | h
  · exact vgr_b _ x h
  · rw [List.mem_singleton] at h; omega
/-- a number in progress: the value so far, whether it began, and a byte -/
def grow (most v c : Nat) : Option (Nat × Bool) :=
  if v = 0 ∧ c = 128 then none else
  if 128 * v + c % 128 ≤ most ∧ (c < 128 → 0 < 128 * v + c % 128) then some (128 * v + c % 128, decide (c < 128)) else none
theorem grow_on {most n : Nat} (h0 : 0 < n) (h : n ≤ most) : grow most (n / 128) (128 + n % 128) = some (n, false) := by
  unfold grow
  have e : 128 * (n / 128) + (128 + n % 128) % 128 = n := by omega
  rw [if_neg (by omega), e, if_pos ⟨h, fun _ => h0⟩, decide_eq_false (by omega)]
theorem grow_end {most n : Nat} (h0 : 0 < n) (h : n ≤ most) : grow most (n / 128) (n % 128) = some (n, true) := by
  unfold grow
  have e : 128 * (n / 128) + n % 128 % 128 = n := by omega
  rw [if_neg (by omega), e, if_pos ⟨h, fun _ => h0⟩, decide_eq_true (by omega)]
theorem grow_le {most v c n : Nat} {d : Bool} (hc : c < 256) (h : grow most v c = some (n, d)) : n ≤ most ∧ 0 < n ∧ n = 128 * v + c % 128 ∧ d = decide (c < 128) := by
  unfold grow at h
  split at h
  · cases h
  · split at h
    · rename_i h1 h2
      cases h
      refine ⟨h2.1, ?_, rfl, rfl⟩
      by_cases hc : c < 128
      · exact h2.2 hc
      · omega
    · cases h
/-! the header of a stream -/
/-- the state: the first bytes read, or 3; and the number in progress -/
structure HS where
  at_ : Nat
  v : Nat
deriving DecidableEq
def magicAt (i : Nat) : Nat := if i = 0 then 0x57 else if i = 1 then 0x50 else 1
def hstep (s : HS) (c : Nat) : Stp HS Nat Nat :=
  if s.at_ < 3 then
    if c = magicAt s.at_ then .more ⟨s.at_ + 1, 0⟩ else .bad (if s.at_ = 2 then 241 else 240)
  else match grow 65536 s.v c with
    | none => .bad 242
    | some (n, true) => .fin n
    | some (n, false) => .more ⟨3, n⟩
def hput (n : Nat) : List Nat := [0x57, 0x50, 1] ++ vput n
theorem h_gr {n : Nat} (h : n ≤ 65536) : run hstep ⟨3, 0⟩ (vgr n) = .short ⟨3, n⟩ := by
  induction n using Nat.strongRecOn with
  | ind n ih =>
    rcases Nat.eq_zero_or_pos n with e | e
    · rw [e, vgr_zero]; rfl
    · rw [vgr_pos e, run_short (ih (n / 128) (by omega) (by omega))]
      refine run_more ?_
      simp only [hstep]
      rw [if_neg (by decide), grow_on e h]
theorem h_back {n : Nat} (h0 : 0 < n) (h : n ≤ 65536) (r : List Nat) : run hstep ⟨0, 0⟩ (hput n ++ r) = .fin n r := by
  unfold hput vput
  rw [List.append_assoc, List.append_assoc]
  show run hstep ⟨3, 0⟩ (vgr (n / 128) ++ ([n % 128] ++ r)) = _
  rw [run_short (h_gr (by omega))]
  refine run_fin ?_
  simp only [hstep]
  rw [if_neg (by decide), grow_end h0 h]
/-! the marks -/
structure MS where
  at_ : Nat
  v : Nat
  M : Nat
  P : Nat
  sum : Nat
  many : Nat
deriving DecidableEq
/-- what a mark begins: a block, or the end -/
inductive Mk where
  | blk (M P sum : Nat) | tail (sum : Nat)
deriving DecidableEq
def ms0 : MS := ⟨0, 0, 0, 0, 0, 0⟩
def mstep (n : Nat) (s : MS) (c : Nat) : Stp MS Mk Nat :=
  if s.at_ = 0 then
    if c = 0 then .more ⟨5, 0, 0, 0, 0, 0⟩ else if c = 1 then .more ⟨1, 0, 0, 0, 0, 0⟩ else .bad 242
  else if s.at_ = 1 then
    match grow n s.v c with
    | none => .bad 242
    | some (m, true) => .more ⟨2, 0, m, 0, 0, 0⟩
    | some (m, false) => .more ⟨1, m, 0, 0, 0, 0⟩
  else if s.at_ = 2 then
    match grow s.M s.v c with
    | none => .bad 242
    | some (p, true) => .more ⟨3, 0, s.M, p, 0, 0⟩
    | some (p, false) => .more ⟨2, p, s.M, 0, 0, 0⟩
  else if s.many = 3 then
    if s.at_ = 3 then .fin (.blk s.M s.P (256 * s.sum + c)) else .fin (.tail (256 * s.sum + c))
  else .more { s with sum := 256 * s.sum + c, many := s.many + 1 }
/-- a sum as four bytes -/
def be4 (s : Nat) : List Nat := [s / 16777216 % 256, s / 65536 % 256, s / 256 % 256, s % 256]
theorem be4_b (s : Nat) : ∀ x ∈ be4 s, x < 256 := by
  intro x hx
  simp [be4] at hx
  omega
def mblk (M P sum : Nat) : List Nat := 1 :: (vput M ++ vput P ++ be4 sum)
def mend (sum : Nat) : List Nat := 0 :: be4 sum
def mput : Mk → List Nat
  | .blk M P sum => mblk M P sum
  | .tail sum => mend sum
theorem m1_gr {n v : Nat} (h : v ≤ n) : run (mstep n) ⟨1, 0, 0, 0, 0, 0⟩ (vgr v) = .short ⟨1, v, 0, 0, 0, 0⟩ := by
  induction v using Nat.strongRecOn with
  | ind v ih =>
    rcases Nat.eq_zero_or_pos v with e | e
    · rw [e, vgr_zero]; rfl
    · rw [vgr_pos e, run_short (ih (v / 128) (by omega) (by omega))]
      refine run_more ?_
      simp only [mstep]
      rw [if_neg (by decide), if_pos trivial, grow_on e h]
theorem m2_gr {n M v : Nat} (h : v ≤ M) : run (mstep n) ⟨2, 0, M, 0, 0, 0⟩ (vgr v) = .short ⟨2, v, M, 0, 0, 0⟩ := by
  induction v using Nat.strongRecOn with
  | ind v ih =>
    rcases Nat.eq_zero_or_pos v with e | e
    · rw [e, vgr_zero]; rfl
    · rw [vgr_pos e, run_short (ih (v / 128) (by omega) (by omega))]
      refine run_more ?_
      simp only [mstep]
      rw [if_neg (by decide), if_neg (by decide), if_pos trivial, grow_on e h]
theorem m1_put {n M : Nat} (h0 : 0 < M) (h : M ≤ n) (r : List Nat) : run (mstep n) ⟨1, 0, 0, 0, 0, 0⟩ (vput M ++ r) = run (mstep n) ⟨2, 0, M, 0, 0, 0⟩ r := by
  unfold vput
  rw [List.append_assoc, run_short (m1_gr (by omega))]
  refine run_more ?_
  simp only [mstep]
  rw [if_neg (by decide), if_pos trivial, grow_end h0 h]
theorem m2_put {n M P : Nat} (h0 : 0 < P) (h : P ≤ M) (r : List Nat) : run (mstep n) ⟨2, 0, M, 0, 0, 0⟩ (vput P ++ r) = run (mstep n) ⟨3, 0, M, P, 0, 0⟩ r := by
  unfold vput
  rw [List.append_assoc, run_short (m2_gr (by omega))]
  refine run_more ?_
  simp only [mstep]
  rw [if_neg (by decide), if_neg (by decide), if_pos trivial, grow_end h0 h]
theorem be4_eq {s : Nat} (h : s < 4294967296) : 256 * (256 * (256 * (256 * 0 + s / 16777216 % 256) + s / 65536 % 256) + s / 256 % 256) + s % 256 = s := by omega
theorem m3_put {n M P s : Nat} (h : s < 4294967296) (r : List Nat) : run (mstep n) ⟨3, 0, M, P, 0, 0⟩ (be4 s ++ r) = .fin (.blk M P s) r := by
  show Ran.fin (Mk.blk M P (256 * (256 * (256 * (256 * 0 + s / 16777216 % 256) + s / 65536 % 256) + s / 256 % 256) + s % 256)) r = _
  rw [be4_eq h]
theorem m5_put {n s : Nat} (h : s < 4294967296) (r : List Nat) : run (mstep n) ⟨5, 0, 0, 0, 0, 0⟩ (be4 s ++ r) = .fin (.tail s) r := by
  show Ran.fin (Mk.tail (256 * (256 * (256 * (256 * 0 + s / 16777216 % 256) + s / 65536 % 256) + s / 256 % 256) + s % 256)) r = _
  rw [be4_eq h]
theorem mblk_back {n M P s : Nat} (h0 : 0 < M) (h1 : M ≤ n) (h2 : 0 < P) (h3 : P ≤ M) (h4 : s < 4294967296) (r : List Nat) : run (mstep n) ms0 (mblk M P s ++ r) = .fin (.blk M P s) r := by
  show run (mstep n) ⟨1, 0, 0, 0, 0, 0⟩ (vput M ++ vput P ++ be4 s ++ r) = _
  rw [List.append_assoc, List.append_assoc, m1_put h0 h1, m2_put h2 h3, m3_put h4]
theorem mend_back {n s : Nat} (h4 : s < 4294967296) (r : List Nat) : run (mstep n) ms0 (mend s ++ r) = .fin (.tail s) r := by
  show run (mstep n) ⟨5, 0, 0, 0, 0, 0⟩ (be4 s ++ r) = _
  rw [m5_put h4]
end Go.Hd
/- Map -/
namespace Go.Vc
open Go
set_option linter.unusedSectionVars false
/-- what a key type must meet -/
structure KeyOk (P : Program) {α : Type} [DecidableEq α] (kt : TypeId) (ke : α → Value) : Prop where
  und : ∃ d, P.underlying kt = some d ∧ ∀ a b, Instr.sameNow d (ke a) (ke b) = none ∨ Instr.sameNow d (ke a) (ke b) = some (decide (a = b))
  check : ∀ e a w, (Instr.checkKey e 10000 kt (ke a)).run P w = .ok () w
  eq : ∀ a b w, (Op.equal kt (ke a) (ke b)).run P w = .ok (decide (a = b)) w
  same : ∀ a, Instr.sameBits 10000 (ke a) (ke a) = true
section
variable {P : Program} {α β : Type} [DecidableEq α] {ke : α → Value} {ve : β → Value} {kt : TypeId}
/-- the entries es are the pairs of l -/
def Ents (ke : α → Value) (ve : β → Value) (es : List MapEntry) (l : List (α × β)) : Prop := es.map (fun e => (e.key, e.val)) = l.map fun p => (ke p.1, ve p.2)
/-- the place of a key -/
def findAt (a : α) : List (α × β) → Nat → Option (Nat × β)
  | [], _ => none
  | p :: l, i => if a = p.1 then some (i, p.2) else findAt a l (i + 1)
theorem ents_cons {e : MapEntry} {es : List MapEntry} {l : List (α × β)} (h : Ents ke ve (e :: es) l) : ∃ p l', l = p :: l' ∧ e.key = ke p.1 ∧ e.val = ve p.2 ∧ Ents ke ve es l' := by
  unfold Ents at h
  cases l with
  | nil => simp at h
  | cons p l' =>
    simp only [List.map_cons, List.cons.injEq, Prod.mk.injEq] at h
    exact ⟨p, l', rfl, h.1.1, h.1.2, h.2⟩
theorem asking_run (hk : KeyOk P kt ke) (a : α) (w : World) : ∀ (es : List MapEntry) (l : List (α × β)) (i : Nat), Ents ke ve es l → (Instr.findAsking kt (ke a) es i).run P w = .ok ((findAt a l i).map fun q => (q.1, ve q.2)) w
  | [], l, i, h => by
    have : l = [] := by unfold Ents at h; cases l <;> simp at h ⊢
    subst this
    simp [Instr.findAsking, findAt]
  | e :: es, l, i, h => by
    obtain ⟨p, l', rfl, h1, h2, h3⟩ := ents_cons h
    simp only [Instr.findAsking, Sem.run_bind, h1, hk.eq, Result.andThen_ok, findAt]
    by_cases hq : a = p.1
    · simp [hq, h2]
    · simp [hq, asking_run hk a w es l' (i + 1) h3]
theorem now_eq {d : TypeDesc} (hd : ∀ a b, Instr.sameNow d (ke a) (ke b) = none ∨ Instr.sameNow d (ke a) (ke b) = some (decide (a = b))) (a : α) : ∀ (es : List MapEntry) (l : List (α × β)) (i : Nat), Ents ke ve es l →
    Instr.findNow d (ke a) es i = none ∨ Instr.findNow d (ke a) es i = some ((findAt a l i).map fun q => (q.1, ve q.2))
  | [], l, i, h => by
    have : l = [] := by unfold Ents at h; cases l <;> simp at h ⊢
    subst this
    exact .inr rfl
  | e :: es, l, i, h => by
    obtain ⟨p, l', rfl, h1, h2, h3⟩ := ents_cons h
    unfold Instr.findNow
    rw [h1]
    rcases hd a p.1 with h0 | h0
    · rw [h0]; exact .inl rfl
    · rw [h0]
      by_cases hq : a = p.1
      · right; simp [findAt, hq, h2]
      · simp only [hq, decide_false, findAt, if_false]
        exact now_eq hd a es l' (i + 1) h3
theorem findKey_run (hk : KeyOk P kt ke) (a : α) (w : World) (es : List MapEntry) (l : List (α × β)) (h : Ents ke ve es l) : (Instr.findKey kt (ke a) es).run P w = .ok ((findAt a l 0).map fun q => (q.1, ve q.2)) w := by
  obtain ⟨d, hu, hd⟩ := hk.und
  simp only [Instr.findKey, Sem.run_bind, run_underlying hu, Result.andThen_ok]
  rcases now_eq (ve := ve) hd a es l 0 h with h0 | h0
  · rw [h0]; exact asking_run hk a w es l 0 h
  · rw [h0]; rfl
/-- a key is given a value -/
def updAt (a : α) (b : β) : List (α × β) → List (α × β)
  | [] => [(a, b)]
  | p :: l => if a = p.1 then (a, b) :: l else p :: updAt a b l
theorem findAt_ge {a : α} : ∀ {l : List (α × β)} {i j : Nat} {v : β}, findAt a l i = some (j, v) → i ≤ j
  | [], i, j, v, h => by simp [findAt] at h
  | p :: l, i, j, v, h => by
    unfold findAt at h
    split at h
    · simp at h; omega
    · have := findAt_ge h; omega
theorem ents_upd {a : α} {b : β} {f : MapEntry → MapEntry} (hf : ∀ e, e.key = ke a → (f e).key = ke a ∧ (f e).val = ve b) : ∀ {es : List MapEntry} {l : List (α × β)} {i j : Nat} {v : β}, Ents ke ve es l → findAt a l i = some (i + j, v) →
    Ents ke ve (es.modify j f) (updAt a b l)
  | [], l, i, j, v, h, hf2 => by
    have : l = [] := by unfold Ents at h; cases l <;> simp at h ⊢
    subst this
    simp [findAt] at hf2
  | e :: es, l, i, j, v, h, hf2 => by
    obtain ⟨p, l', rfl, h1, h2, h3⟩ := ents_cons h
    unfold findAt at hf2
    unfold updAt
    by_cases hq : a = p.1
    · rw [if_pos hq] at hf2 ⊢
      have : j = 0 := by simp at hf2; omega
      subst this
      obtain ⟨q1, q2⟩ := hf e (by rw [h1, hq])
      unfold Ents at h3 ⊢
      simp [List.modify, q1, q2, h3]
    · rw [if_neg hq] at hf2 ⊢
      have hge := findAt_ge hf2
      obtain ⟨j, rfl⟩ : ∃ j', j = j' + 1 := ⟨j - 1, by omega⟩
      have ih := ents_upd (f := f) hf (i := i + 1) (j := j) (v := v) h3 (by rw [hf2]; congr 2; omega)
      unfold Ents at ih ⊢
      simp only [List.modify_succ_cons, List.map_cons, ih, h1, h2]
theorem ents_key {a : α} : ∀ {es : List MapEntry} {l : List (α × β)} {i j : Nat} {v : β}, Ents ke ve es l → findAt a l i = some (i + j, v) → ∃ e, es[j]? = some e ∧ e.key = ke a
  | [], l, i, j, v, h, hf2 => by
    have : l = [] := by unfold Ents at h; cases l <;> simp at h ⊢
    subst this
    simp [findAt] at hf2
  | e :: es, l, i, j, v, h, hf2 => by
    obtain ⟨p, l', rfl, h1, h2, h3⟩ := ents_cons h
    unfold findAt at hf2
    by_cases hq : a = p.1
    · rw [if_pos hq] at hf2
      have : j = 0 := by simp at hf2; omega
      subst this
      exact ⟨e, rfl, by rw [h1, hq]⟩
    · rw [if_neg hq] at hf2
      have hge := findAt_ge hf2
      obtain ⟨j, rfl⟩ : ∃ j', j = j' + 1 := ⟨j - 1, by omega⟩
      obtain ⟨e', h4, h5⟩ := ents_key (i := i + 1) (j := j) (v := v) h3 (by rw [hf2]; congr 2; omega)
      exact ⟨e', by simpa using h4, h5⟩
theorem updAt_new {a : α} {b : β} : ∀ {l : List (α × β)} {i : Nat}, findAt a l i = none → updAt a b l = l ++ [(a, b)]
  | [], _, _ => rfl
  | p :: l, i, h => by
    unfold findAt at h
    unfold updAt
    by_cases hq : a = p.1
    · rw [if_pos hq] at h; cases h
    · rw [if_neg hq] at h ⊢
      rw [updAt_new h]; rfl
end
/-- a map of the code's own: its pairs, in the order in which the keys came -/
def OwnM {α β : Type} (ke : α → Value) (ve : β → Value) (m : Option Nat) (l : List (α × β)) : HP := fun f => ∃ b es clock, m = some b ∧ Ents ke ve es.toList l ∧ f = Frag.one b (.map es clock)
section
variable {P : Program} {α β : Type} [DecidableEq α] {ke : α → Value} {ve : β → Value} {kt vt t : TypeId} {E w : World} {F : List HP} {m : Option Nat} {l : List (α × β)}
theorem Hp.mapOpen (h : Hp E w (OwnM ke ve m l :: F)) : ∃ b es clock, m = some b ∧ Ents ke ve es.toList l ∧ Hp E w (Blk b (.map es clock) :: F) := by
  obtain ⟨f, a, g, k, hd, e, ⟨b, es, clock, h1, h2, h3⟩, h4⟩ := h.frag
  exact ⟨b, es, clock, h1, h2, h.os, h.output, h.tape, f, a, g, k, hd, e, h3, h4⟩
theorem Hp.mapShut {b clock : Nat} {es : Array MapEntry} (h : Hp E w (Blk b (.map es clock) :: F)) (he : Ents ke ve es.toList l) : Hp E w (OwnM ke ve (some b) l :: F) :=
  h.weak fun _ hf => ⟨b, es, clock, rfl, he, hf⟩
theorem run_makeMap {K : Option Nat → World → Prop} (h : Hp E w F) (hK : ∀ m w', Hp E w' (OwnM ke ve m [] :: F) → K m w') : Run P (Instr.makeMap t none) kM w K := by
  unfold Run
  have e : (Instr.makeMap t none).run P w = .ok (.map (some w.heap.size)) (w.alloc (.map #[] 0)) := rfl
  rw [e]
  exact hK _ _ (Hp.mapShut (h.alloc _) rfl)
theorem run_mapUpdate (hk : KeyOk P kt ke) (hu : P.underlying t = some (.map kt vt)) {a : α} {b : β} {K : Value → World → Prop} (h : Hp E w (OwnM ke ve m l :: F)) (hK : ∀ w', Hp E w' (OwnM ke ve m (updAt a b l) :: F) → K undef w') :
    Run P (do Instr.mapUpdate t (.map m) (ke a) (ve b); pure undef) kV w K := by
  obtain ⟨r, es, clock, rfl, he, hB⟩ := h.mapOpen
  have hb := hB.blk
  have hfk := findKey_run (ve := ve) hk a w es.toList l he
  have key : ∀ es' clock', (do Instr.mapUpdate t (.map (some r)) (ke a) (ve b); pure undef : Sem Value).run P w = .ok undef { w with heap := w.heap.setIfInBounds r (.map es' clock') } → Ents ke ve es'.toList (updAt a b l) →
      Run P (do Instr.mapUpdate t (.map (some r)) (ke a) (ve b); pure undef) kV w K := by
    intro es' clock' h1 h2
    unfold Run
    rw [h1]
    exact hK _ (Hp.mapShut (hB.setObj rfl rfl rfl rfl) h2)
  cases hf : findAt a l 0 with
  | none =>
    rw [hf] at hfk
    refine key (es.push ⟨ke a, ve b, clock⟩) (clock + 1) ?_ ?_
    · simp [Instr.mapUpdate, run_underlying hu, MapKept.run_getObj_map hb, hk.check, hfk, MapKept.run_setObj_map _ hb]
    · rw [updAt_new hf]
      unfold Ents at he ⊢
      simp [he]
  | some q =>
    obtain ⟨j, v⟩ := q
    rw [hf] at hfk
    have hfk' : (Instr.findKey kt (ke a) es.toList).run P w = .ok (some (j, ve v)) w := hfk
    have hkey : ((es[j]?).map (·.key)).getD (ke a) = ke a := by
      obtain ⟨e, he1, he2⟩ := ents_key (ke := ke) (ve := ve) he (i := 0) (j := j) (v := v) (by simpa using hf)
      have : es[j]? = some e := by simpa using he1
      rw [this]; exact he2
    refine key (es.modify j fun e => { e with key := ke a, val := ve b }) clock ?_ ?_
    · simp [Instr.mapUpdate, run_underlying hu, MapKept.run_getObj_map hb, hk.check, hfk', hkey, Instr.keyThatStays, hk.same, MapKept.run_setObj_map _ hb]
    · rw [Array.toList_modify]
      exact ents_upd (ke := ke) (ve := ve) (a := a) (b := b) (fun e _ => ⟨rfl, rfl⟩) he (i := 0) (j := j) (v := v) (by simpa using hf)
theorem run_lookup (hk : KeyOk P kt ke) (hu : P.underlying t = some (.map kt vt)) {a : α} {z : Value} (hz : ∀ w, (zeroValue vt).run P w = .ok z w) (h : Hp E w (OwnM ke ve m l :: F)) :
    (Instr.lookup t (.map m) (ke a) true).run P w = .ok (.tuple #[(match findAt a l 0 with | some q => ve q.2 | none => z), .bool (findAt a l 0).isSome]) w := by
  obtain ⟨r, es, clock, rfl, he, hB⟩ := h.mapOpen
  have hb := hB.blk
  have hfk := findKey_run (ve := ve) hk a w es.toList l he
  cases hf : findAt a l 0 with
  | none =>
    rw [hf] at hfk
    simp [Instr.lookup, run_underlying hu, MapKept.run_getObj_map hb, hk.check, hfk, hz]
  | some q =>
    rw [hf] at hfk
    simp [Instr.lookup, run_underlying hu, MapKept.run_getObj_map hb, hk.check, hfk]
end
end Go.Vc
/- Map2 -/
namespace Go.Vc
open Go
set_option linter.unusedSectionVars false
section
variable {P : Program} {α β : Type} [DecidableEq α] {ke : α → Value} {ve : β → Value} {kt vt t ty : TypeId} {E w : World} {F : List HP} {m : Option Nat} {l : List (α × β)}
theorem ents_len {es : List MapEntry} (h : Ents ke ve es l) : es.length = l.length := by
  have := congrArg List.length h
  simpa using this
theorem run_lookup1 (hk : KeyOk P kt ke) (hu : P.underlying t = some (.map kt vt)) {a : α} {z : Value} (hz : ∀ w, (zeroValue vt).run P w = .ok z w) (h : Hp E w (OwnM ke ve m l :: F)) :
    (Instr.lookup t (.map m) (ke a) false).run P w = .ok (match findAt a l 0 with | some q => ve q.2 | none => z) w := by
  obtain ⟨r, es, clock, rfl, he, hB⟩ := h.mapOpen
  have hb := hB.blk
  have hfk := findKey_run (ve := ve) hk a w es.toList l he
  cases hf : findAt a l 0 with
  | none =>
    rw [hf] at hfk
    simp [Instr.lookup, run_underlying hu, MapKept.run_getObj_map hb, hk.check, hfk, hz]
  | some q =>
    rw [hf] at hfk
    simp [Instr.lookup, run_underlying hu, MapKept.run_getObj_map hb, hk.check, hfk]
theorem run_lenM (hu : P.underlying t = some (.map kt vt)) {K : Int → World → Prop} (h : Hp E w (OwnM ke ve m l :: F)) (hK : K (l.length : Int) w) : Run P (Builtin.len_ #[t] ty ⟨[.map m]⟩) kI w K := by
  obtain ⟨r, es, clock, rfl, he, hB⟩ := h.mapOpen
  have hb := hB.blk
  have hl := ents_len he
  unfold Run
  have : (Builtin.len_ #[t] ty ⟨[.map (some r)]⟩).run P w = .ok (.int .i64 (l.length : Int)) w := by
    simp [Builtin.len_, run_underlying hu, MapKept.run_getObj_map hb, goInt, ← hl]
  rw [this]
  exact hK
/-- the entries' marks: ascending, below the clock -/
def Bn (es : List MapEntry) (clock : Nat) : Prop := es.Pairwise (fun a b => a.born < b.born) ∧ ∀ e ∈ es, e.born < clock
/-- a map of the code's own with its marks -/
def OwnC {α β : Type} (ke : α → Value) (ve : β → Value) (m : Option Nat) (l : List (α × β)) : HP := fun f => ∃ b es clock, m = some b ∧ Ents ke ve es.toList l ∧ Bn es.toList clock ∧ f = Frag.one b (.map es clock)
/-- .. where one entry is at hand: number j, with its mark -/
def OwnJ {α β : Type} (ke : α → Value) (ve : β → Value) (m : Option Nat) (l : List (α × β)) (j : Nat) (born : Int) : HP := fun f => ∃ b es clock, m = some b ∧ Ents ke ve es.toList l ∧ Bn es.toList clock ∧ (∃ e, es[j]? = some e ∧ (e.born : Int) = born) ∧ f = Frag.one b (.map es clock)
theorem Hp.cOpen (h : Hp E w (OwnC ke ve m l :: F)) : ∃ b es clock, m = some b ∧ Ents ke ve es.toList l ∧ Bn es.toList clock ∧ Hp E w (Blk b (.map es clock) :: F) := by
  obtain ⟨f, a, g, k, hd, e, ⟨b, es, clock, h1, h2, h2b, h3⟩, h4⟩ := h.frag
  exact ⟨b, es, clock, h1, h2, h2b, h.os, h.output, h.tape, f, a, g, k, hd, e, h3, h4⟩
theorem Hp.cShut {b clock : Nat} {es : Array MapEntry} (h : Hp E w (Blk b (.map es clock) :: F)) (he : Ents ke ve es.toList l) (hn : Bn es.toList clock) : Hp E w (OwnC ke ve (some b) l :: F) :=
  h.weak fun _ hf => ⟨b, es, clock, rfl, he, hn, hf⟩
theorem Hp.cToM (h : Hp E w (OwnC ke ve m l :: F)) : Hp E w (OwnM ke ve m l :: F) := h.weak fun _ ⟨b, es, clock, h1, h2, _, h3⟩ => ⟨b, es, clock, h1, h2, h3⟩
theorem Hp.jToM {j : Nat} {born : Int} (h : Hp E w (OwnJ ke ve m l j born :: F)) : Hp E w (OwnM ke ve m l :: F) := h.weak fun _ ⟨b, es, clock, h1, h2, _, _, h3⟩ => ⟨b, es, clock, h1, h2, h3⟩
theorem Hp.jOpen {j : Nat} {born : Int} (h : Hp E w (OwnJ ke ve m l j born :: F)) : ∃ b es clock, m = some b ∧ Ents ke ve es.toList l ∧ Bn es.toList clock ∧ (∃ e, es[j]? = some e ∧ (e.born : Int) = born) ∧ Hp E w (Blk b (.map es clock) :: F) := by
  obtain ⟨f, a, g, k, hd, e, ⟨b, es, clock, h1, h2, h2b, h2c, h3⟩, h4⟩ := h.frag
  exact ⟨b, es, clock, h1, h2, h2b, h2c, h.os, h.output, h.tape, f, a, g, k, hd, e, h3, h4⟩
theorem run_makeMapC {K : Option Nat → World → Prop} (h : Hp E w F) (hK : ∀ m w', Hp E w' (OwnC ke ve m [] :: F) → K m w') : Run P (Instr.makeMap t none) kM w K := by
  unfold Run
  have e : (Instr.makeMap t none).run P w = .ok (.map (some w.heap.size)) (w.alloc (.map #[] 0)) := rfl
  rw [e]
  exact hK _ _ (Hp.cShut (h.alloc _) rfl ⟨List.Pairwise.nil, by simp⟩)
/-- an entry is found, or laid -/
def entL (a : α) (z : β) (l : List (α × β)) : List (α × β) := match findAt a l 0 with | some _ => l | none => l ++ [(a, z)]
def entV (a : α) (z : β) (l : List (α × β)) : β := match findAt a l 0 with | some q => q.2 | none => z
def entJ (a : α) (l : List (α × β)) : Nat := match findAt a l 0 with | some q => q.1 | none => l.length
theorem findAt_app {a : α} {z : β} : ∀ (l : List (α × β)) (i : Nat), findAt a (l ++ [(a, z)]) i = match findAt a l i with | some q => some q | none => some (i + l.length, z)
  | [], i => by simp [findAt]
  | p :: l, i => by
    rw [List.cons_append]
    unfold findAt
    by_cases h : a = p.1
    · rw [if_pos h, if_pos h]
    · rw [if_neg h, if_neg h, findAt_app l (i + 1)]
      rw [List.length_cons, show i + 1 + l.length = i + (l.length + 1) by omega]
theorem entL_find (a : α) (z : β) (l : List (α × β)) : findAt a (entL a z l) 0 = some (entJ a l, entV a z l) := by
  unfold entL entJ entV
  cases h : findAt a l 0 with
  | some q => simp only [h]
  | none => simp only [findAt_app, h, Nat.zero_add]
theorem ents_get {es : List MapEntry} {a : α} {i j : Nat} {v : β} (h : Ents ke ve es l) (hf : findAt a l i = some (i + j, v)) : ∃ e, es[j]? = some e ∧ e.key = ke a := ents_key h hf
theorem Bn.modify {es : List MapEntry} {clock j : Nat} {f : MapEntry → MapEntry} (h : Bn es clock) (hf : ∀ e, (f e).born = e.born) : Bn (es.modify j f) clock := by
  have key : ∀ (es : List MapEntry) (j : Nat), (es.modify j f).map (·.born) = es.map (·.born) := by
    intro es
    induction es with
    | nil => intro j; simp
    | cons e es ih => intro j; cases j <;> simp [List.modify_succ_cons, hf, ih]
  refine ⟨?_, fun e he => ?_⟩
  · have := List.pairwise_map (f := fun e : MapEntry => e.born) (R := fun a b => a < b) (l := es.modify j f)
    rw [← this, key, List.pairwise_map]
    exact h.1
  · have : e.born ∈ (es.modify j f).map (·.born) := List.mem_map_of_mem he
    rw [key] at this
    obtain ⟨e', h1, h2⟩ := List.mem_map.1 this
    rw [← h2]; exact h.2 e' h1
theorem Bn.push {es : List MapEntry} {clock : Nat} {e : MapEntry} (h : Bn es clock) (he : e.born = clock) : Bn (es ++ [e]) (clock + 1) := by
  refine ⟨List.pairwise_append.2 ⟨h.1, by simp, fun a ha b hb => ?_⟩, fun x hx => ?_⟩
  · rw [List.mem_singleton] at hb; subst hb; rw [he]; exact h.2 a ha
  · rcases List.mem_append.1 hx with hx | hx
    · have := h.2 x hx; omega
    · rw [List.mem_singleton] at hx; subst hx; omega
theorem run_mapEntry (hk : KeyOk P kt ke) (hu : P.underlying t = some (.map kt vt)) {a : α} {z : β} (hz : ∀ w, (zeroValue vt).run P w = .ok (ve z) w) {k : Ki} {x : k.T} (hx : ve (entV a z l) = k.enc x) {K : k.T → Int → World → Prop} (h : Hp E w (OwnC ke ve m l :: F))
    (hK : ∀ born w', Hp E w' (OwnJ ke ve m (entL a z l) (entJ a l) born :: F) → K x born w') : RunR P (Instr.mapEntry t (.map m) (ke a)) [k, kI] w K := by
  obtain ⟨r, es, clock, rfl, he, hn, hB⟩ := h.cOpen
  have hb := hB.blk
  have hfk := findKey_run (ve := ve) hk a w es.toList l he
  have key : ∀ es' clock' (born : Nat) (e : MapEntry), (Instr.mapEntry t (.map (some r)) (ke a)).run P w = .ok (.tuple #[k.enc x, .int .i64 (born : Int)]) { w with heap := w.heap.setIfInBounds r (.map es' clock') } → Ents ke ve es'.toList (entL a z l) → Bn es'.toList clock' →
      es'[entJ a l]? = some e → e.born = born → RunR P (Instr.mapEntry t (.map (some r)) (ke a)) [k, kI] w K := by
    intro es' clock' born e h1 h2 h3 h4 h5
    unfold RunR
    rw [h1]
    show decL [k, kI] [k.enc x, .int .i64 (born : Int)] K _
    unfold decL
    rw [Ki.dec_enc]
    have hB' : Hp E { w with heap := w.heap.setIfInBounds r (.map es' clock') } (Blk r (.map es' clock') :: F) := hB.setObj rfl rfl rfl rfl
    exact hK (born : Int) _ (hB'.weak fun _ hf => ⟨r, es', clock', rfl, h2, h3, ⟨e, h4, by rw [h5]⟩, hf⟩)
  cases hf : findAt a l 0 with
  | none =>
    rw [hf] at hfk
    have hlen := ents_len he
    refine key (es.push { key := ke a, val := ve z, born := clock }) (clock + 1) clock { key := ke a, val := ve z, born := clock } ?_ ?_ ?_ ?_ rfl
    · rw [← hx]
      unfold entV
      rw [hf]
      simp [Instr.mapEntry, run_underlying hu, MapKept.run_getObj_map hb, hk.check, hfk, MapKept.run_setObj_map _ hb, hz, goInt]
    · unfold entL
      rw [hf]
      unfold Ents at he ⊢
      simp [he]
    · rw [Array.toList_push]
      exact hn.push rfl
    · unfold entJ
      rw [hf]
      simp [← hlen]
  | some q =>
    obtain ⟨j, v⟩ := q
    rw [hf] at hfk
    have hfk' : (Instr.findKey kt (ke a) es.toList).run P w = .ok (some (j, ve v)) w := hfk
    obtain ⟨e, he1, he2⟩ := ents_key (ke := ke) (ve := ve) he (i := 0) (j := j) (v := v) (by simpa using hf)
    have he1 : es[j]? = some e := by simpa using he1
    have hkey : ((es[j]?).map (·.key)).getD (ke a) = ke a := by rw [he1]; exact he2
    have hmod : (es.modify j fun e => { e with key := ke a }).toList = es.toList := by
      rw [Array.toList_modify]
      apply List.ext_getElem?
      intro i
      rw [List.getElem?_modify]
      by_cases hi : j = i
      · subst hi
        have : es.toList[j]? = some e := by simpa using he1
        simp [this, ← he2]
      · simp [hi]
    refine key (es.modify j fun e => { e with key := ke a }) clock e.born e ?_ ?_ ?_ ?_ rfl
    · rw [← hx]
      unfold entV
      rw [hf]
      simp [Instr.mapEntry, run_underlying hu, MapKept.run_getObj_map hb, hk.check, hfk', Instr.keyThatStays, hk.same, MapKept.run_setObj_map _ hb, he1, he2, goInt]
    · unfold entL
      rw [hf, hmod]; exact he
    · rw [hmod]; exact hn
    · unfold entJ
      rw [hf]
      have : (es.modify j fun e => { e with key := ke a })[j]? = (es.modify j fun e => { e with key := ke a }).toList[j]? := (Array.getElem?_toList ..).symm
      rw [this, hmod]
      simpa using he1
theorem find_born : ∀ (es : List MapEntry) (j : Nat) (e : MapEntry), es.Pairwise (fun a b => a.born < b.born) → es[j]? = some e → es.findIdx? (fun x => (x.born : Int) == (e.born : Int)) = some j
  | [], j, e, _, h => by simp at h
  | x :: es, 0, e, _, h => by
    have : x = e := by simpa using h
    subst this
    rw [List.findIdx?_cons]; simp
  | x :: es, j + 1, e, hp, h => by
    have he : es[j]? = some e := by simpa using h
    rw [List.pairwise_cons] at hp
    have hlt := hp.1 e (List.mem_of_getElem? he)
    rw [List.findIdx?_cons, show ((x.born : Int) == (e.born : Int)) = false by rw [beq_eq_false_iff_ne]; omega, find_born es j e hp.2 he]
    rfl
/-- the entry at hand is given its value -/
theorem run_entryStore {a : α} {b : β} {j : Nat} {v : β} {born : Int} {K : Value → World → Prop} (hf : findAt a l 0 = some (j, v)) (h : Hp E w (OwnJ ke ve m l j born :: F)) (hK : ∀ w', Hp E w' (OwnC ke ve m (updAt a b l) :: F) → K undef w') :
    Run P (do Instr.entryStore t (.map m) (.int .i64 born) (ve b); pure undef) kV w K := by
  obtain ⟨r, es, clock, rfl, he, hn, ⟨e, he1, rfl⟩, hB⟩ := h.jOpen
  have hb := hB.blk
  have hfi : es.findIdx? (fun x => (x.born : Int) == (e.born : Int)) = some j := by
    obtain ⟨es⟩ := es
    rw [List.findIdx?_toArray]
    exact find_born es j e hn.1 (by simpa using he1)
  obtain ⟨e', he1', he2⟩ := ents_key (ke := ke) (ve := ve) he (i := 0) (j := j) (v := v) (by simpa using hf)
  unfold Run
  have h1 : (do Instr.entryStore t (.map (some r)) (.int .i64 (e.born : Int)) (ve b); pure undef : Sem Value).run P w = .ok undef { w with heap := w.heap.setIfInBounds r (.map (es.modify j fun e => { e with val := ve b }) clock) } := by
    simp [Instr.entryStore, MapKept.run_getObj_map hb, asInt, asIntOf, hfi, MapKept.run_setObj_map _ hb]
  rw [h1]
  have hB' : Hp E { w with heap := w.heap.setIfInBounds r (.map (es.modify j fun e => { e with val := ve b }) clock) } (Blk r (.map (es.modify j fun e => { e with val := ve b }) clock) :: F) := hB.setObj rfl rfl rfl rfl
  refine hK _ (hB'.cShut ?_ ?_)
  · rw [Array.toList_modify]
    exact ents_upd (ke := ke) (ve := ve) (a := a) (b := b) (f := fun e => { e with val := ve b }) (fun e hk => ⟨hk, rfl⟩) he (i := 0) (j := j) (v := v) (by simpa using hf)
  · rw [Array.toList_modify]
    exact hn.modify fun _ => rfl
theorem entL_keys (a : α) (z b : β) (l : List (α × β)) : (updAt a b (entL a z l)).map (·.1) = if a ∈ l.map (·.1) then l.map (·.1) else l.map (·.1) ++ [a] := by
  have key : ∀ (l : List (α × β)) (i : Nat), (∀ q, findAt a l i = some q → a ∈ l.map (·.1) ∧ (updAt a b l).map (·.1) = l.map (·.1)) ∧ (findAt a l i = none → a ∉ l.map (·.1)) := by
    intro l
    induction l with
    | nil => intro i; simp [findAt]
    | cons p l ih =>
      intro i
      unfold findAt updAt
      by_cases h : a = p.1
      · rw [if_pos h, if_pos h]
        exact ⟨fun q _ => ⟨by simp [h], by simp [h]⟩, fun hh => by cases hh⟩
      · rw [if_neg h, if_neg h]
        obtain ⟨h1, h2⟩ := ih (i + 1)
        refine ⟨fun q hq => ?_, fun hn => ?_⟩
        · obtain ⟨h3, h4⟩ := h1 q hq
          exact ⟨by simp only [List.map_cons, List.mem_cons]; exact .inr h3, by simp only [List.map_cons, h4]⟩
        · simp only [List.map_cons, List.mem_cons, not_or]
          exact ⟨h, h2 hn⟩
  unfold entL
  cases hf : findAt a l 0 with
  | some q =>
    obtain ⟨h1, h2⟩ := (key l 0).1 q hf
    rw [if_pos h1]; exact h2
  | none =>
    rw [if_neg ((key l 0).2 hf)]
    have h3 : findAt a (l ++ [(a, z)]) 0 = some (0 + l.length, z) := by rw [findAt_app, hf]
    have := ((key (l ++ [(a, z)]) 0).1 _ h3).2
    rw [this]; simp
end
/-! arrays of numbers as keys -/
theorem check_arr {P : Program} {t e : TypeId} {n : Nat} {k : IntKind} {it : TypeInfo} (hu : P.underlying t = some (.array n e)) (hi : P.info? e = some it) (hsz : it.size = 1) (hue : P.underlying e = some (.int k)) {l : List Int} (hl : l.length = n) (em : Bool) (d : Nat) (w : World) :
    (Instr.checkKey em (d + 2) t (.agg ⟨l.map (.int k)⟩)).run P w = .ok () w := by
  rw [show d + 2 = (d + 1) + 1 from rfl, Instr.checkKey]
  simp only [Sem.run_bind, run_underlying hu, Result.andThen_ok]
  simp only [Std.Legacy.Range.forIn_eq_forIn_range', Std.Legacy.Range.size, Nat.sub_zero, Nat.add_one_sub_one, Nat.div_one]
  have each : ∀ j ∈ List.range' 0 n, j < l.length := fun j hj => by rw [List.mem_range'_1] at hj; omega
  generalize List.range' 0 n = is at each
  induction is with
  | nil => simp
  | cons j is ih =>
    have hj := each j (by simp)
    have p1 : (part e ⟨l.map (.int k)⟩ (j * 1)).run P w = .ok (.int k l[j]) w := by simp [part, isAgg, run_underlying hue, hj]
    have p2 : (Instr.checkKey em (d + 1) e (.int k l[j])).run P w = .ok () w := by simp [Instr.checkKey, run_underlying hue]
    simp only [List.forIn_cons, Sem.run_bind, run_size hi, hsz, Result.andThen_ok, p1, p2, Sem.run_pure]
    exact ih fun y hy => each y (by simp [hy])
theorem same_arr {k : IntKind} (l : List Int) (n : Nat) : Instr.sameBits (n + 1) (.agg ⟨l.map (.int k)⟩) (.agg ⟨l.map (.int k)⟩) = true := by
  have key : ∀ l : List Int, ((l.map (Value.int k)).zip (l.map (Value.int k))).all (fun x => Instr.sameBits n x.1 x.2) = true := by
    intro l
    induction l with
    | nil => rfl
    | cons x l ih => simp [Instr.sameBits, ih]
  unfold Instr.sameBits
  simp only [beq_self_eq_true, Bool.true_and]
  exact key l
end Go.Vc
/- Hdr -/
namespace Go.Vc
theorem or256 {v c : Nat} (hv : v < 16777216) (hc : c < 256) : ior .u32 (ishl .u32 (v : Int) 8) (u32 (c : Int)) = ((256 * v + c : Nat) : Int) := by
  have hmx : IntKind.max .u32 = 4294967295 := rfl
  have e1 : ishl .u32 (v : Int) 8 = ((v * 256 : Nat) : Int) := by
    have := ishl_nat (k := .u32) (a := v) (b := 8) (by decide) (by rw [hmx]; omega)
    simpa using this
  have e3 : v * 256 ||| c = 256 * v + c := by
    rw [Nat.mul_comm v 256]
    exact (Nat.two_pow_add_eq_or_of_lt (i := 8) (by omega) v).symm
  rw [e1, u32_id (by omega), ior_nat (by rw [hmx]; omega) (by rw [hmx]; omega) (by rw [e3, hmx]; omega), e3]
end Go.Vc
namespace Go.Hd
open Go.Inc Go.Srt
def HsOk (s : HS) : Prop := s.at_ ≤ 3 ∧ (s.at_ < 3 → s.v = 0) ∧ s.v ≤ 65536
def MsOk (n : Nat) (m : MS) : Prop :=
  (m.at_ = 0 ∧ m = ms0) ∨ (m.at_ = 1 ∧ m.v ≤ n ∧ m.M = 0 ∧ m.P = 0 ∧ m.sum = 0 ∧ m.many = 0) ∨ (m.at_ = 2 ∧ 1 ≤ m.M ∧ m.M ≤ n ∧ m.v ≤ m.M ∧ m.P = 0 ∧ m.sum = 0 ∧ m.many = 0) ∨
  (m.at_ = 3 ∧ 1 ≤ m.M ∧ m.M ≤ n ∧ 1 ≤ m.P ∧ m.P ≤ m.M ∧ m.v = 0 ∧ m.many ≤ 3 ∧ m.sum < 256 ^ m.many) ∨
  (m.at_ = 5 ∧ m.M = 0 ∧ m.P = 0 ∧ m.v = 0 ∧ m.many ≤ 3 ∧ m.sum < 256 ^ m.many)
theorem hstep_ok {s s' : HS} {c : Nat} (h : HsOk s) (hc : c < 256) (he : hstep s c = .more s') : HsOk s' := by
  unfold hstep at he
  split at he
  · split at he
    · cases he
      exact ⟨by dsimp only; omega, fun _ => rfl, by dsimp only; omega⟩
    · cases he
  · split at he
    · cases he
    · cases he
    · rename_i n hg
      cases he
      exact ⟨by dsimp only; omega, fun h => by dsimp only at h; omega, (grow_le hc hg).1⟩
theorem hstep_fin {s : HS} {c n : Nat} (hc : c < 256) (he : hstep s c = .fin n) : 1 ≤ n ∧ n ≤ 65536 := by
  unfold hstep at he
  split at he
  · split at he <;> cases he
  · split at he
    · cases he
    · rename_i n hg
      cases he
      have := grow_le hc hg
      omega
    · cases he
theorem mstep_ok {n : Nat} {s s' : MS} {c : Nat} (h : MsOk n s) (hc : c < 256) (he : mstep n s c = .more s') : MsOk n s' := by
  obtain ⟨at_, v, M, P, sum, many⟩ := s
  unfold MsOk at h
  unfold mstep at he
  dsimp only at h he
  split at he
  · split at he
    · cases he
      right; right; right; right; simp
    · split at he
      · cases he
        right; left; simp
      · cases he
  · split at he
    · split at he
      · cases he
      · rename_i m hg
        have := grow_le hc hg
        cases he
        right; right; left; simp; omega
      · rename_i m hg
        have := grow_le hc hg
        cases he
        right; left; simp; omega
    · split at he
      · split at he
        · cases he
        · rename_i m hg
          have := grow_le hc hg
          cases he
          right; right; right; left; simp; omega
        · rename_i m hg
          have := grow_le hc hg
          cases he
          right; right; left; simp; omega
      · split at he
        · split at he <;> cases he
        · cases he
          rename_i h3
          rcases h with ⟨h, _⟩ | ⟨h, _⟩ | ⟨h, _⟩ | ⟨h, h1⟩ | ⟨h, h1⟩
          · omega
          · omega
          · omega
          · right; right; right; left
            simp only
            have : 256 * sum + c < 256 ^ (many + 1) := by rw [Nat.pow_succ]; omega
            refine ⟨h, ?_⟩
            omega
          · right; right; right; right
            simp only
            have : 256 * sum + c < 256 ^ (many + 1) := by rw [Nat.pow_succ]; omega
            refine ⟨h, ?_⟩
            omega
theorem mstep_fin {n : Nat} {s : MS} {c : Nat} {M P u : Nat} (h : MsOk n s) (he : mstep n s c = .fin (.blk M P u)) : 1 ≤ M ∧ M ≤ n ∧ 1 ≤ P ∧ P ≤ M := by
  obtain ⟨at_, v, M', P', sum, many⟩ := s
  unfold MsOk at h
  unfold mstep at he
  dsimp only at h he
  split at he
  · split at he
    · cases he
    · split at he <;> cases he
  · split at he
    · split at he <;> cases he
    · split at he
      · split at he <;> cases he
      · split at he
        · split at he
          · cases he
            omega
          · cases he
        · cases he
end Go.Hd
namespace Go.Proofs.Ytjnjjibmlalpiaa
open Go Go.Vc Go.Srt Go.Inc Go.Hd
abbrev T2 := Int × Int × Unit
abbrev hsT (s : HS) : Int × Int × Int × Int × Unit := ((s.at_ : Int), (s.v : Int), (vm s.v : Int), 0, ())
abbrev msT (m : MS) : Int × Int × Int × Int × Int × Int × Int × Unit := ((m.at_ : Int), (m.v : Int), (vm m.v : Int), (m.M : Int), (m.P : Int), (m.sum : Int), (m.many : Int), ())
section
variable {E w : World} {F : List HP}
theorem undI : Try.prog.underlying 3 = some (.int .i64) := by kernel_rfl
theorem keyOk_I : KeyOk Try.prog (α := Int) 3 (fun n => Value.int .i64 n) where
  und := ⟨_, undI, fun a b => .inr rfl⟩
  check := fun e a w => by
    have : ∀ (e : Bool) (c : Int) (w : World), (Instr.checkKey e 10000 3 (.int .i64 c)).run Try.prog w = .ok () w := fun e c w => by kernel_rfl
    exact this e a w
  eq := fun a b w => by
    exact (run_equalIn_int w 9999 _ _ _ _ _ undI).trans (by rw [show (a == b) = decide (a = b) from rfl])
  same := fun a => by simp [Instr.sameBits]
theorem within_c {a b c : Int} {K : Bool → World → Prop} (hK : K (decide (b ≤ a ∧ a ≤ c)) w) : Cl Try.prog [kB] n_header_within ⟨[.int .i64 a, .int .i64 b, .int .i64 c]⟩ w K := by
  refine header_within.ok _ _ _ _ _ ?_
  unfold header_within.E
  (first | refine IfB.dm (fun hb => ?_) (fun hb => ?_) | refine IfB.em (fun hb => ?_) (fun hb => ?_) | refine IfB.nm (fun hb => ?_) (fun hb => ?_) | refine IfB.mk (fun hb => ?_) (fun hb => ?_))
  · refine as1 (decide_eq_decide.2 ?_) hK
    omega
  · refine as1 (decide_eq_false ?_).symm hK
    omega
theorem comes_c {v : Nat} {most : Int} {K : Bool → World → Prop} (h : Hp E w F) (hv : v ≤ 65536) (hm : (v : Int) ≤ most) (hK : ∀ w', Hp E w' F → K true w') :
    Cl Try.prog [kB] n_header_comes ⟨[.agg ⟨[.int .i64 (v : Int), .int .i64 (vm v : Int)]⟩, .int .i64 most]⟩ w K := by
  refine header_comes.ok ((v : Int), (vm v : Int), ()) _ _ _ ?_
  unfold header_comes.E
  (try simp only [Join_eq, NilCk_some, add_mk, Nat.zero_add, Nat.add_zero, Nat.reduceAdd, Bool.not_true, Bool.not_false, IfB_t, IfB_f, Option.isNone])
  (repeat (first | with_reducible refine Nw.mk h (fun b w h => ?_) | with_reducible refine Drw.mk h (fun w h => ?_) | with_reducible refine Ld.xb h rfl ?_ | with_reducible refine Ld.xt h rfl ?_ | with_reducible refine LdS.xb (fun _ h => h) rfl ?_ | with_reducible refine LdS.xt (fun _ h => h) rfl ?_ | with_reducible refine And.intro h.hb ?_ | with_reducible refine StC.xw h rfl rfl (fun w h => ?_) | (with_reducible refine StC.xs h rfl rfl (fun w h => ?_); dsimp only [spl, over] at h) | (with_reducible refine St.xs h rfl rfl (fun w h => ?_); dsimp only [spl, over] at h) | with_reducible refine IfB.ntt ?_ | with_reducible refine IfB.nff ?_ | with_reducible refine IfB.t rfl ?_ | with_reducible refine IfB.f rfl ?_ | with_reducible refine IfB.dt (by omega) ?_ | with_reducible refine IfB.df (by omega) ?_ | with_reducible refine IfB.ndt (by omega) ?_ | with_reducible refine IfB.ndf (by omega) ?_ | with_reducible refine IfB.et (by omega) ?_ | with_reducible refine IfB.ef (by omega) ?_ | with_reducible refine IfB.nt (by omega) ?_ | with_reducible refine IfB.nf (by omega) ?_ | with_reducible refine And.intro (by first | omega | decide) ?_))
  refine vvalid_c h hv fun w h => ?_
  (repeat (first | with_reducible refine Nw.mk h (fun b w h => ?_) | with_reducible refine Drw.mk h (fun w h => ?_) | with_reducible refine Ld.xb h rfl ?_ | with_reducible refine Ld.xt h rfl ?_ | with_reducible refine LdS.xb (fun _ h => h) rfl ?_ | with_reducible refine LdS.xt (fun _ h => h) rfl ?_ | with_reducible refine And.intro h.hb ?_ | with_reducible refine StC.xw h rfl rfl (fun w h => ?_) | (with_reducible refine StC.xs h rfl rfl (fun w h => ?_); dsimp only [spl, over] at h) | (with_reducible refine St.xs h rfl rfl (fun w h => ?_); dsimp only [spl, over] at h) | with_reducible refine IfB.ntt ?_ | with_reducible refine IfB.nff ?_ | with_reducible refine IfB.t rfl ?_ | with_reducible refine IfB.f rfl ?_ | with_reducible refine IfB.dt (by omega) ?_ | with_reducible refine IfB.df (by omega) ?_ | with_reducible refine IfB.ndt (by omega) ?_ | with_reducible refine IfB.ndf (by omega) ?_ | with_reducible refine IfB.et (by omega) ?_ | with_reducible refine IfB.ef (by omega) ?_ | with_reducible refine IfB.nt (by omega) ?_ | with_reducible refine IfB.nf (by omega) ?_ | with_reducible refine And.intro (by first | omega | decide) ?_))
  exact as1 (decide_eq_true hm) (hK _ h.tl)
theorem grow_c {v c most : Nat} {K : T2 → Bool → Bool → World → Prop} (h : Hp E w F) (hv : v ≤ most) (hm : most ≤ 65536) (hc : c < 256)
    (hbad : grow most v c = none → ∀ o d w', Hp E w' F → K o d false w')
    (hK : ∀ n d, grow most v c = some (n, d) → ∀ k w', (d = false → k = (vm n : Int)) → Hp E w' F → K ((n : Int), k, ()) d true w') :
    Cl Try.prog [.st [.int .i64, .int .i64], kB, kB] n_header_grow ⟨[.agg ⟨[.int .i64 (v : Int), .int .i64 (vm v : Int)]⟩, .int .u8 (c : Int), .int .i64 (most : Int)]⟩ w K := by
  refine header_grow.ok ((v : Int), (vm v : Int), ()) _ _ _ _ ?_
  unfold header_grow.E
  (try simp only [Join_eq, NilCk_some, add_mk, Nat.zero_add, Nat.add_zero, Nat.reduceAdd, Bool.not_true, Bool.not_false, IfB_t, IfB_f, Option.isNone])
  (repeat (first | with_reducible refine Nw.mk h (fun b w h => ?_) | with_reducible refine Drw.mk h (fun w h => ?_) | with_reducible refine Ld.xb h rfl ?_ | with_reducible refine Ld.xt h rfl ?_ | with_reducible refine LdS.xb (fun _ h => h) rfl ?_ | with_reducible refine LdS.xt (fun _ h => h) rfl ?_ | with_reducible refine And.intro h.hb ?_ | with_reducible refine StC.xw h rfl rfl (fun w h => ?_) | (with_reducible refine StC.xs h rfl rfl (fun w h => ?_); dsimp only [spl, over] at h) | (with_reducible refine St.xs h rfl rfl (fun w h => ?_); dsimp only [spl, over] at h) | with_reducible refine IfB.ntt ?_ | with_reducible refine IfB.nff ?_ | with_reducible refine IfB.t rfl ?_ | with_reducible refine IfB.f rfl ?_ | with_reducible refine IfB.dt (by omega) ?_ | with_reducible refine IfB.df (by omega) ?_ | with_reducible refine IfB.ndt (by omega) ?_ | with_reducible refine IfB.ndf (by omega) ?_ | with_reducible refine IfB.et (by omega) ?_ | with_reducible refine IfB.ef (by omega) ?_ | with_reducible refine IfB.nt (by omega) ?_ | with_reducible refine IfB.nf (by omega) ?_ | with_reducible refine And.intro (by first | omega | decide) ?_))
  refine vstep_c h (by omega) hc (fun hb w h => ?_) (fun hb w h => ?_)
  · (repeat (first | with_reducible refine Nw.mk h (fun b w h => ?_) | with_reducible refine Drw.mk h (fun w h => ?_) | with_reducible refine Ld.xb h rfl ?_ | with_reducible refine Ld.xt h rfl ?_ | with_reducible refine LdS.xb (fun _ h => h) rfl ?_ | with_reducible refine LdS.xt (fun _ h => h) rfl ?_ | with_reducible refine And.intro h.hb ?_ | with_reducible refine StC.xw h rfl rfl (fun w h => ?_) | (with_reducible refine StC.xs h rfl rfl (fun w h => ?_); dsimp only [spl, over] at h) | (with_reducible refine St.xs h rfl rfl (fun w h => ?_); dsimp only [spl, over] at h) | with_reducible refine IfB.ntt ?_ | with_reducible refine IfB.nff ?_ | with_reducible refine IfB.t rfl ?_ | with_reducible refine IfB.f rfl ?_ | with_reducible refine IfB.dt (by omega) ?_ | with_reducible refine IfB.df (by omega) ?_ | with_reducible refine IfB.ndt (by omega) ?_ | with_reducible refine IfB.ndf (by omega) ?_ | with_reducible refine IfB.et (by omega) ?_ | with_reducible refine IfB.ef (by omega) ?_ | with_reducible refine IfB.nt (by omega) ?_ | with_reducible refine IfB.nf (by omega) ?_ | with_reducible refine And.intro (by first | omega | decide) ?_))
    exact hbad (by unfold grow; rw [if_pos hb]) _ _ _ h.tl
  · (repeat (first | with_reducible refine Nw.mk h (fun b w h => ?_) | with_reducible refine Drw.mk h (fun w h => ?_) | with_reducible refine Ld.xb h rfl ?_ | with_reducible refine Ld.xt h rfl ?_ | with_reducible refine LdS.xb (fun _ h => h) rfl ?_ | with_reducible refine LdS.xt (fun _ h => h) rfl ?_ | with_reducible refine And.intro h.hb ?_ | with_reducible refine StC.xw h rfl rfl (fun w h => ?_) | (with_reducible refine StC.xs h rfl rfl (fun w h => ?_); dsimp only [spl, over] at h) | (with_reducible refine St.xs h rfl rfl (fun w h => ?_); dsimp only [spl, over] at h) | with_reducible refine IfB.ntt ?_ | with_reducible refine IfB.nff ?_ | with_reducible refine IfB.t rfl ?_ | with_reducible refine IfB.f rfl ?_ | with_reducible refine IfB.dt (by omega) ?_ | with_reducible refine IfB.df (by omega) ?_ | with_reducible refine IfB.ndt (by omega) ?_ | with_reducible refine IfB.ndf (by omega) ?_ | with_reducible refine IfB.et (by omega) ?_ | with_reducible refine IfB.ef (by omega) ?_ | with_reducible refine IfB.nt (by omega) ?_ | with_reducible refine IfB.nf (by omega) ?_ | with_reducible refine And.intro (by first | omega | decide) ?_))
    by_cases hc1 : c < 128
    · rw [decide_eq_true hc1]
      by_cases hle : 128 * v + c % 128 ≤ most
      · (repeat (first | with_reducible refine Nw.mk h (fun b w h => ?_) | with_reducible refine Drw.mk h (fun w h => ?_) | with_reducible refine Ld.xb h rfl ?_ | with_reducible refine Ld.xt h rfl ?_ | with_reducible refine LdS.xb (fun _ h => h) rfl ?_ | with_reducible refine LdS.xt (fun _ h => h) rfl ?_ | with_reducible refine And.intro h.hb ?_ | with_reducible refine StC.xw h rfl rfl (fun w h => ?_) | (with_reducible refine StC.xs h rfl rfl (fun w h => ?_); dsimp only [spl, over] at h) | (with_reducible refine St.xs h rfl rfl (fun w h => ?_); dsimp only [spl, over] at h) | with_reducible refine IfB.ntt ?_ | with_reducible refine IfB.nff ?_ | with_reducible refine IfB.t rfl ?_ | with_reducible refine IfB.f rfl ?_ | with_reducible refine IfB.dt (by omega) ?_ | with_reducible refine IfB.df (by omega) ?_ | with_reducible refine IfB.ndt (by omega) ?_ | with_reducible refine IfB.ndf (by omega) ?_ | with_reducible refine IfB.et (by omega) ?_ | with_reducible refine IfB.ef (by omega) ?_ | with_reducible refine IfB.nt (by omega) ?_ | with_reducible refine IfB.nf (by omega) ?_ | with_reducible refine And.intro (by first | omega | decide) ?_))
        (try simp only [Join_eq, NilCk_some, add_mk, Nat.zero_add, Nat.add_zero, Nat.reduceAdd, Bool.not_true, Bool.not_false, IfB_t, IfB_f, Option.isNone])
        (repeat (first | with_reducible refine Nw.mk h (fun b w h => ?_) | with_reducible refine Drw.mk h (fun w h => ?_) | with_reducible refine Ld.xb h rfl ?_ | with_reducible refine Ld.xt h rfl ?_ | with_reducible refine LdS.xb (fun _ h => h) rfl ?_ | with_reducible refine LdS.xt (fun _ h => h) rfl ?_ | with_reducible refine And.intro h.hb ?_ | with_reducible refine StC.xw h rfl rfl (fun w h => ?_) | (with_reducible refine StC.xs h rfl rfl (fun w h => ?_); dsimp only [spl, over] at h) | (with_reducible refine St.xs h rfl rfl (fun w h => ?_); dsimp only [spl, over] at h) | with_reducible refine IfB.ntt ?_ | with_reducible refine IfB.nff ?_ | with_reducible refine IfB.t rfl ?_ | with_reducible refine IfB.f rfl ?_ | with_reducible refine IfB.dt (by omega) ?_ | with_reducible refine IfB.df (by omega) ?_ | with_reducible refine IfB.ndt (by omega) ?_ | with_reducible refine IfB.ndf (by omega) ?_ | with_reducible refine IfB.et (by omega) ?_ | with_reducible refine IfB.ef (by omega) ?_ | with_reducible refine IfB.nt (by omega) ?_ | with_reducible refine IfB.nf (by omega) ?_ | with_reducible refine And.intro (by first | omega | decide) ?_))
        by_cases h0 : 0 < 128 * v + c % 128
        · refine as1 (decide_eq_true (by omega)) (hK _ true ?_ _ _ (fun hh => by cases hh) h.tl)
          unfold grow
          rw [if_neg hb, if_pos ⟨hle, fun _ => h0⟩, decide_eq_true hc1]
        · refine as1 (decide_eq_false (by omega)) (hbad ?_ _ _ _ h.tl)
          unfold grow
          rw [if_neg hb, if_neg (fun hh => h0 (hh.2 hc1))]
      · (repeat (first | with_reducible refine Nw.mk h (fun b w h => ?_) | with_reducible refine Drw.mk h (fun w h => ?_) | with_reducible refine Ld.xb h rfl ?_ | with_reducible refine Ld.xt h rfl ?_ | with_reducible refine LdS.xb (fun _ h => h) rfl ?_ | with_reducible refine LdS.xt (fun _ h => h) rfl ?_ | with_reducible refine And.intro h.hb ?_ | with_reducible refine StC.xw h rfl rfl (fun w h => ?_) | (with_reducible refine StC.xs h rfl rfl (fun w h => ?_); dsimp only [spl, over] at h) | (with_reducible refine St.xs h rfl rfl (fun w h => ?_); dsimp only [spl, over] at h) | with_reducible refine IfB.ntt ?_ | with_reducible refine IfB.nff ?_ | with_reducible refine IfB.t rfl ?_ | with_reducible refine IfB.f rfl ?_ | with_reducible refine IfB.dt (by omega) ?_ | with_reducible refine IfB.df (by omega) ?_ | with_reducible refine IfB.ndt (by omega) ?_ | with_reducible refine IfB.ndf (by omega) ?_ | with_reducible refine IfB.et (by omega) ?_ | with_reducible refine IfB.ef (by omega) ?_ | with_reducible refine IfB.nt (by omega) ?_ | with_reducible refine IfB.nf (by omega) ?_ | with_reducible refine And.intro (by first | omega | decide) ?_))
        refine hbad ?_ _ _ _ h.tl
        unfold grow
        rw [if_neg hb, if_neg (fun hh => hle hh.1)]
    · rw [decide_eq_false hc1]
      by_cases hle : 128 * v + c % 128 ≤ most
      · (repeat (first | with_reducible refine Nw.mk h (fun b w h => ?_) | with_reducible refine Drw.mk h (fun w h => ?_) | with_reducible refine Ld.xb h rfl ?_ | with_reducible refine Ld.xt h rfl ?_ | with_reducible refine LdS.xb (fun _ h => h) rfl ?_ | with_reducible refine LdS.xt (fun _ h => h) rfl ?_ | with_reducible refine And.intro h.hb ?_ | with_reducible refine StC.xw h rfl rfl (fun w h => ?_) | (with_reducible refine StC.xs h rfl rfl (fun w h => ?_); dsimp only [spl, over] at h) | (with_reducible refine St.xs h rfl rfl (fun w h => ?_); dsimp only [spl, over] at h) | with_reducible refine IfB.ntt ?_ | with_reducible refine IfB.nff ?_ | with_reducible refine IfB.t rfl ?_ | with_reducible refine IfB.f rfl ?_ | with_reducible refine IfB.dt (by omega) ?_ | with_reducible refine IfB.df (by omega) ?_ | with_reducible refine IfB.ndt (by omega) ?_ | with_reducible refine IfB.ndf (by omega) ?_ | with_reducible refine IfB.et (by omega) ?_ | with_reducible refine IfB.ef (by omega) ?_ | with_reducible refine IfB.nt (by omega) ?_ | with_reducible refine IfB.nf (by omega) ?_ | with_reducible refine And.intro (by first | omega | decide) ?_))
        (try simp only [Join_eq, NilCk_some, add_mk, Nat.zero_add, Nat.add_zero, Nat.reduceAdd, Bool.not_true, Bool.not_false, IfB_t, IfB_f, Option.isNone])
        (repeat (first | with_reducible refine Nw.mk h (fun b w h => ?_) | with_reducible refine Drw.mk h (fun w h => ?_) | with_reducible refine Ld.xb h rfl ?_ | with_reducible refine Ld.xt h rfl ?_ | with_reducible refine LdS.xb (fun _ h => h) rfl ?_ | with_reducible refine LdS.xt (fun _ h => h) rfl ?_ | with_reducible refine And.intro h.hb ?_ | with_reducible refine StC.xw h rfl rfl (fun w h => ?_) | (with_reducible refine StC.xs h rfl rfl (fun w h => ?_); dsimp only [spl, over] at h) | (with_reducible refine St.xs h rfl rfl (fun w h => ?_); dsimp only [spl, over] at h) | with_reducible refine IfB.ntt ?_ | with_reducible refine IfB.nff ?_ | with_reducible refine IfB.t rfl ?_ | with_reducible refine IfB.f rfl ?_ | with_reducible refine IfB.dt (by omega) ?_ | with_reducible refine IfB.df (by omega) ?_ | with_reducible refine IfB.ndt (by omega) ?_ | with_reducible refine IfB.ndf (by omega) ?_ | with_reducible refine IfB.et (by omega) ?_ | with_reducible refine IfB.ef (by omega) ?_ | with_reducible refine IfB.nt (by omega) ?_ | with_reducible refine IfB.nf (by omega) ?_ | with_reducible refine And.intro (by first | omega | decide) ?_))
        refine hK _ false ?_ _ _ (fun _ => by rw [vm_next (by omega) (by omega) hc hb]) h.tl
        unfold grow
        rw [if_neg hb, if_pos ⟨hle, fun hh => absurd hh hc1⟩, decide_eq_false hc1]
      · (repeat (first | with_reducible refine Nw.mk h (fun b w h => ?_) | with_reducible refine Drw.mk h (fun w h => ?_) | with_reducible refine Ld.xb h rfl ?_ | with_reducible refine Ld.xt h rfl ?_ | with_reducible refine LdS.xb (fun _ h => h) rfl ?_ | with_reducible refine LdS.xt (fun _ h => h) rfl ?_ | with_reducible refine And.intro h.hb ?_ | with_reducible refine StC.xw h rfl rfl (fun w h => ?_) | (with_reducible refine StC.xs h rfl rfl (fun w h => ?_); dsimp only [spl, over] at h) | (with_reducible refine St.xs h rfl rfl (fun w h => ?_); dsimp only [spl, over] at h) | with_reducible refine IfB.ntt ?_ | with_reducible refine IfB.nff ?_ | with_reducible refine IfB.t rfl ?_ | with_reducible refine IfB.f rfl ?_ | with_reducible refine IfB.dt (by omega) ?_ | with_reducible refine IfB.df (by omega) ?_ | with_reducible refine IfB.ndt (by omega) ?_ | with_reducible refine IfB.ndf (by omega) ?_ | with_reducible refine IfB.et (by omega) ?_ | with_reducible refine IfB.ef (by omega) ?_ | with_reducible refine IfB.nt (by omega) ?_ | with_reducible refine IfB.nf (by omega) ?_ | with_reducible refine And.intro (by first | omega | decide) ?_))
        refine hbad ?_ _ _ _ h.tl
        unfold grow
        rw [if_neg hb, if_neg (fun hh => hle hh.1)]
theorem hvalid_c {s : HS} {K : Bool → World → Prop} (h : Hp E w F) (hs : HsOk s) (hK : ∀ w', Hp E w' F → K true w') :
    Cl Try.prog [kB] n_header_Valid ⟨[.agg ⟨[.int .i64 (s.at_ : Int), .int .i64 (s.v : Int), .int .i64 (vm s.v : Int), .int .i64 0]⟩]⟩ w K := by
  obtain ⟨at_, v⟩ := s
  obtain ⟨h1, h2, h3⟩ := hs
  dsimp only at h1 h2 h3 ⊢
  refine header_Valid.ok ((at_ : Int), (v : Int), (vm v : Int), 0, ()) _ _ ?_
  unfold header_Valid.E
  (try simp only [Join_eq, NilCk_some, add_mk, Nat.zero_add, Nat.add_zero, Nat.reduceAdd, Bool.not_true, Bool.not_false, IfB_t, IfB_f, Option.isNone])
  (repeat (first | with_reducible refine Nw.mk h (fun b w h => ?_) | with_reducible refine Drw.mk h (fun w h => ?_) | with_reducible refine Ld.xb h rfl ?_ | with_reducible refine Ld.xt h rfl ?_ | with_reducible refine LdS.xb (fun _ h => h) rfl ?_ | with_reducible refine LdS.xt (fun _ h => h) rfl ?_ | with_reducible refine And.intro h.hb ?_ | with_reducible refine StC.xw h rfl rfl (fun w h => ?_) | (with_reducible refine StC.xs h rfl rfl (fun w h => ?_); dsimp only [spl, over] at h) | (with_reducible refine St.xs h rfl rfl (fun w h => ?_); dsimp only [spl, over] at h) | with_reducible refine IfB.ntt ?_ | with_reducible refine IfB.nff ?_ | with_reducible refine IfB.t rfl ?_ | with_reducible refine IfB.f rfl ?_ | with_reducible refine IfB.dt (by omega) ?_ | with_reducible refine IfB.df (by omega) ?_ | with_reducible refine IfB.ndt (by omega) ?_ | with_reducible refine IfB.ndf (by omega) ?_ | with_reducible refine IfB.et (by omega) ?_ | with_reducible refine IfB.ef (by omega) ?_ | with_reducible refine IfB.nt (by omega) ?_ | with_reducible refine IfB.nf (by omega) ?_ | with_reducible refine And.intro (by first | omega | decide) ?_))
  by_cases ha : at_ = 3
  · subst ha
    (repeat (first | with_reducible refine Nw.mk h (fun b w h => ?_) | with_reducible refine Drw.mk h (fun w h => ?_) | with_reducible refine Ld.xb h rfl ?_ | with_reducible refine Ld.xt h rfl ?_ | with_reducible refine LdS.xb (fun _ h => h) rfl ?_ | with_reducible refine LdS.xt (fun _ h => h) rfl ?_ | with_reducible refine And.intro h.hb ?_ | with_reducible refine StC.xw h rfl rfl (fun w h => ?_) | (with_reducible refine StC.xs h rfl rfl (fun w h => ?_); dsimp only [spl, over] at h) | (with_reducible refine St.xs h rfl rfl (fun w h => ?_); dsimp only [spl, over] at h) | with_reducible refine IfB.ntt ?_ | with_reducible refine IfB.nff ?_ | with_reducible refine IfB.t rfl ?_ | with_reducible refine IfB.f rfl ?_ | with_reducible refine IfB.dt (by omega) ?_ | with_reducible refine IfB.df (by omega) ?_ | with_reducible refine IfB.ndt (by omega) ?_ | with_reducible refine IfB.ndf (by omega) ?_ | with_reducible refine IfB.et (by omega) ?_ | with_reducible refine IfB.ef (by omega) ?_ | with_reducible refine IfB.nt (by omega) ?_ | with_reducible refine IfB.nf (by omega) ?_ | with_reducible refine And.intro (by first | omega | decide) ?_))
    refine comes_c h h3 (by omega) fun w h => ?_
    (repeat (first | with_reducible refine Nw.mk h (fun b w h => ?_) | with_reducible refine Drw.mk h (fun w h => ?_) | with_reducible refine Ld.xb h rfl ?_ | with_reducible refine Ld.xt h rfl ?_ | with_reducible refine LdS.xb (fun _ h => h) rfl ?_ | with_reducible refine LdS.xt (fun _ h => h) rfl ?_ | with_reducible refine And.intro h.hb ?_ | with_reducible refine StC.xw h rfl rfl (fun w h => ?_) | (with_reducible refine StC.xs h rfl rfl (fun w h => ?_); dsimp only [spl, over] at h) | (with_reducible refine St.xs h rfl rfl (fun w h => ?_); dsimp only [spl, over] at h) | with_reducible refine IfB.ntt ?_ | with_reducible refine IfB.nff ?_ | with_reducible refine IfB.t rfl ?_ | with_reducible refine IfB.f rfl ?_ | with_reducible refine IfB.dt (by omega) ?_ | with_reducible refine IfB.df (by omega) ?_ | with_reducible refine IfB.ndt (by omega) ?_ | with_reducible refine IfB.ndf (by omega) ?_ | with_reducible refine IfB.et (by omega) ?_ | with_reducible refine IfB.ef (by omega) ?_ | with_reducible refine IfB.nt (by omega) ?_ | with_reducible refine IfB.nf (by omega) ?_ | with_reducible refine And.intro (by first | omega | decide) ?_))
    exact hK _ h.tl
  · (repeat (first | with_reducible refine Nw.mk h (fun b w h => ?_) | with_reducible refine Drw.mk h (fun w h => ?_) | with_reducible refine Ld.xb h rfl ?_ | with_reducible refine Ld.xt h rfl ?_ | with_reducible refine LdS.xb (fun _ h => h) rfl ?_ | with_reducible refine LdS.xt (fun _ h => h) rfl ?_ | with_reducible refine And.intro h.hb ?_ | with_reducible refine StC.xw h rfl rfl (fun w h => ?_) | (with_reducible refine StC.xs h rfl rfl (fun w h => ?_); dsimp only [spl, over] at h) | (with_reducible refine St.xs h rfl rfl (fun w h => ?_); dsimp only [spl, over] at h) | with_reducible refine IfB.ntt ?_ | with_reducible refine IfB.nff ?_ | with_reducible refine IfB.t rfl ?_ | with_reducible refine IfB.f rfl ?_ | with_reducible refine IfB.dt (by omega) ?_ | with_reducible refine IfB.df (by omega) ?_ | with_reducible refine IfB.ndt (by omega) ?_ | with_reducible refine IfB.ndf (by omega) ?_ | with_reducible refine IfB.et (by omega) ?_ | with_reducible refine IfB.ef (by omega) ?_ | with_reducible refine IfB.nt (by omega) ?_ | with_reducible refine IfB.nf (by omega) ?_ | with_reducible refine And.intro (by first | omega | decide) ?_))
    refine within_c ?_
    (repeat (first | with_reducible refine Nw.mk h (fun b w h => ?_) | with_reducible refine Drw.mk h (fun w h => ?_) | with_reducible refine Ld.xb h rfl ?_ | with_reducible refine Ld.xt h rfl ?_ | with_reducible refine LdS.xb (fun _ h => h) rfl ?_ | with_reducible refine LdS.xt (fun _ h => h) rfl ?_ | with_reducible refine And.intro h.hb ?_ | with_reducible refine StC.xw h rfl rfl (fun w h => ?_) | (with_reducible refine StC.xs h rfl rfl (fun w h => ?_); dsimp only [spl, over] at h) | (with_reducible refine St.xs h rfl rfl (fun w h => ?_); dsimp only [spl, over] at h) | with_reducible refine IfB.ntt ?_ | with_reducible refine IfB.nff ?_ | with_reducible refine IfB.t rfl ?_ | with_reducible refine IfB.f rfl ?_ | with_reducible refine IfB.dt (by omega) ?_ | with_reducible refine IfB.df (by omega) ?_ | with_reducible refine IfB.ndt (by omega) ?_ | with_reducible refine IfB.ndf (by omega) ?_ | with_reducible refine IfB.et (by omega) ?_ | with_reducible refine IfB.ef (by omega) ?_ | with_reducible refine IfB.nt (by omega) ?_ | with_reducible refine IfB.nf (by omega) ?_ | with_reducible refine And.intro (by first | omega | decide) ?_))
    have := h2 (by omega)
    subst this
    refine as1 ?_ (hK _ h.tl)
    simp [vm]
theorem hstep_c {s : HS} {c : Nat} {K : Int × Int × Int × Int × Unit → Bool → Int → World → Prop} (h : Hp E w F) (hs : HsOk s) (hc : c < 256)
    (hm : ∀ s' w', hstep s c = .more s' → Hp E w' F → K (hsT s') false 0 w')
    (hf : ∀ n w', hstep s c = .fin n → Hp E w' F → K (4, 0, 0, (n : Int), ()) true 0 w')
    (hb : ∀ e o w', hstep s c = .bad e → Hp E w' F → K o false (e : Int) w') :
    Cl Try.prog [.st [.int .i64, .int .i64, .int .i64, .int .i64], kB, kI] n_header_Step ⟨[.agg ⟨[.int .i64 (s.at_ : Int), .int .i64 (s.v : Int), .int .i64 (vm s.v : Int), .int .i64 0]⟩, .int .u8 (c : Int)]⟩ w K := by
  obtain ⟨at_, v⟩ := s
  obtain ⟨h1, h2, h3⟩ := hs
  dsimp only at h1 h2 h3 ⊢
  refine header_Step.ok ((at_ : Int), (v : Int), (vm v : Int), 0, ()) _ _ _ ?_
  unfold header_Step.E
  (try simp only [Join_eq, NilCk_some, add_mk, Nat.zero_add, Nat.add_zero, Nat.reduceAdd, Bool.not_true, Bool.not_false, IfB_t, IfB_f, Option.isNone])
  (repeat (first | with_reducible refine Nw.mk h (fun b w h => ?_) | with_reducible refine Drw.mk h (fun w h => ?_) | with_reducible refine Ld.xb h rfl ?_ | with_reducible refine Ld.xt h rfl ?_ | with_reducible refine LdS.xb (fun _ h => h) rfl ?_ | with_reducible refine LdS.xt (fun _ h => h) rfl ?_ | with_reducible refine And.intro h.hb ?_ | with_reducible refine StC.xw h rfl rfl (fun w h => ?_) | (with_reducible refine StC.xs h rfl rfl (fun w h => ?_); dsimp only [spl, over] at h) | (with_reducible refine St.xs h rfl rfl (fun w h => ?_); dsimp only [spl, over] at h) | with_reducible refine IfB.ntt ?_ | with_reducible refine IfB.nff ?_ | with_reducible refine IfB.t rfl ?_ | with_reducible refine IfB.f rfl ?_ | with_reducible refine IfB.dt (by omega) ?_ | with_reducible refine IfB.df (by omega) ?_ | with_reducible refine IfB.ndt (by omega) ?_ | with_reducible refine IfB.ndf (by omega) ?_ | with_reducible refine IfB.et (by omega) ?_ | with_reducible refine IfB.ef (by omega) ?_ | with_reducible refine IfB.nt (by omega) ?_ | with_reducible refine IfB.nf (by omega) ?_ | with_reducible refine And.intro (by first | omega | decide) ?_))
  refine hvalid_c (s := ⟨at_, v⟩) h ⟨h1, h2, h3⟩ fun w h => ?_
  (try simp only [Join_eq, NilCk_some, add_mk, Nat.zero_add, Nat.add_zero, Nat.reduceAdd, Bool.not_true, Bool.not_false, IfB_t, IfB_f, Option.isNone])
  (repeat (first | with_reducible refine Nw.mk h (fun b w h => ?_) | with_reducible refine Drw.mk h (fun w h => ?_) | with_reducible refine Ld.xb h rfl ?_ | with_reducible refine Ld.xt h rfl ?_ | with_reducible refine LdS.xb (fun _ h => h) rfl ?_ | with_reducible refine LdS.xt (fun _ h => h) rfl ?_ | with_reducible refine And.intro h.hb ?_ | with_reducible refine StC.xw h rfl rfl (fun w h => ?_) | (with_reducible refine StC.xs h rfl rfl (fun w h => ?_); dsimp only [spl, over] at h) | (with_reducible refine St.xs h rfl rfl (fun w h => ?_); dsimp only [spl, over] at h) | with_reducible refine IfB.ntt ?_ | with_reducible refine IfB.nff ?_ | with_reducible refine IfB.t rfl ?_ | with_reducible refine IfB.f rfl ?_ | with_reducible refine IfB.dt (by omega) ?_ | with_reducible refine IfB.df (by omega) ?_ | with_reducible refine IfB.ndt (by omega) ?_ | with_reducible refine IfB.ndf (by omega) ?_ | with_reducible refine IfB.et (by omega) ?_ | with_reducible refine IfB.ef (by omega) ?_ | with_reducible refine IfB.nt (by omega) ?_ | with_reducible refine IfB.nf (by omega) ?_ | with_reducible refine And.intro (by first | omega | decide) ?_))
  by_cases ha : at_ < 3
  · have := h2 ha
    subst this
    have hx : ((strAt (ByteArray.mk #[87, 80, 1]) ((at_ : Int)).toNat : Int)) = ((magicAt at_ : Nat) : Int) := by
      rw [Int.toNat_natCast]
      have : at_ = 0 ∨ at_ = 1 ∨ at_ = 2 := by omega
      rcases this with rfl | rfl | rfl <;> rfl
    (repeat (first | with_reducible refine Nw.mk h (fun b w h => ?_) | with_reducible refine Drw.mk h (fun w h => ?_) | with_reducible refine Ld.xb h rfl ?_ | with_reducible refine Ld.xt h rfl ?_ | with_reducible refine LdS.xb (fun _ h => h) rfl ?_ | with_reducible refine LdS.xt (fun _ h => h) rfl ?_ | with_reducible refine And.intro h.hb ?_ | with_reducible refine StC.xw h rfl rfl (fun w h => ?_) | (with_reducible refine StC.xs h rfl rfl (fun w h => ?_); dsimp only [spl, over] at h) | (with_reducible refine St.xs h rfl rfl (fun w h => ?_); dsimp only [spl, over] at h) | with_reducible refine IfB.ntt ?_ | with_reducible refine IfB.nff ?_ | with_reducible refine IfB.t rfl ?_ | with_reducible refine IfB.f rfl ?_ | with_reducible refine IfB.dt (by omega) ?_ | with_reducible refine IfB.df (by omega) ?_ | with_reducible refine IfB.ndt (by omega) ?_ | with_reducible refine IfB.ndf (by omega) ?_ | with_reducible refine IfB.et (by omega) ?_ | with_reducible refine IfB.ef (by omega) ?_ | with_reducible refine IfB.nt (by omega) ?_ | with_reducible refine IfB.nf (by omega) ?_ | with_reducible refine And.intro (by first | omega | decide) ?_))
    rw [hx]
    refine ⟨by have : (((ByteArray.mk #[87, 80, 1]).size : Nat) : Int) = 3 := rfl
               omega, ?_⟩
    by_cases hcm : c = magicAt at_
    · refine IfB.et (by omega) ?_
      (repeat (first | with_reducible refine Nw.mk h (fun b w h => ?_) | with_reducible refine Drw.mk h (fun w h => ?_) | with_reducible refine Ld.xb h rfl ?_ | with_reducible refine Ld.xt h rfl ?_ | with_reducible refine LdS.xb (fun _ h => h) rfl ?_ | with_reducible refine LdS.xt (fun _ h => h) rfl ?_ | with_reducible refine And.intro h.hb ?_ | with_reducible refine StC.xw h rfl rfl (fun w h => ?_) | (with_reducible refine StC.xs h rfl rfl (fun w h => ?_); dsimp only [spl, over] at h) | (with_reducible refine St.xs h rfl rfl (fun w h => ?_); dsimp only [spl, over] at h) | with_reducible refine IfB.ntt ?_ | with_reducible refine IfB.nff ?_ | with_reducible refine IfB.t rfl ?_ | with_reducible refine IfB.f rfl ?_ | with_reducible refine IfB.dt (by omega) ?_ | with_reducible refine IfB.df (by omega) ?_ | with_reducible refine IfB.ndt (by omega) ?_ | with_reducible refine IfB.ndf (by omega) ?_ | with_reducible refine IfB.et (by omega) ?_ | with_reducible refine IfB.ef (by omega) ?_ | with_reducible refine IfB.nt (by omega) ?_ | with_reducible refine IfB.nf (by omega) ?_ | with_reducible refine And.intro (by first | omega | decide) ?_))
      rw [i64_id (by omega)]
      exact hm ⟨at_ + 1, 0⟩ _ (by unfold hstep; dsimp only; rw [if_pos ha, if_pos hcm]) h.tl
    · refine IfB.ef (by omega) ?_
      (repeat (first | with_reducible refine Nw.mk h (fun b w h => ?_) | with_reducible refine Drw.mk h (fun w h => ?_) | with_reducible refine Ld.xb h rfl ?_ | with_reducible refine Ld.xt h rfl ?_ | with_reducible refine LdS.xb (fun _ h => h) rfl ?_ | with_reducible refine LdS.xt (fun _ h => h) rfl ?_ | with_reducible refine And.intro h.hb ?_ | with_reducible refine StC.xw h rfl rfl (fun w h => ?_) | (with_reducible refine StC.xs h rfl rfl (fun w h => ?_); dsimp only [spl, over] at h) | (with_reducible refine St.xs h rfl rfl (fun w h => ?_); dsimp only [spl, over] at h) | with_reducible refine IfB.ntt ?_ | with_reducible refine IfB.nff ?_ | with_reducible refine IfB.t rfl ?_ | with_reducible refine IfB.f rfl ?_ | with_reducible refine IfB.dt (by omega) ?_ | with_reducible refine IfB.df (by omega) ?_ | with_reducible refine IfB.ndt (by omega) ?_ | with_reducible refine IfB.ndf (by omega) ?_ | with_reducible refine IfB.et (by omega) ?_ | with_reducible refine IfB.ef (by omega) ?_ | with_reducible refine IfB.nt (by omega) ?_ | with_reducible refine IfB.nf (by omega) ?_ | with_reducible refine And.intro (by first | omega | decide) ?_))
      by_cases ha2 : at_ = 2
      · (repeat (first | with_reducible refine Nw.mk h (fun b w h => ?_) | with_reducible refine Drw.mk h (fun w h => ?_) | with_reducible refine Ld.xb h rfl ?_ | with_reducible refine Ld.xt h rfl ?_ | with_reducible refine LdS.xb (fun _ h => h) rfl ?_ | with_reducible refine LdS.xt (fun _ h => h) rfl ?_ | with_reducible refine And.intro h.hb ?_ | with_reducible refine StC.xw h rfl rfl (fun w h => ?_) | (with_reducible refine StC.xs h rfl rfl (fun w h => ?_); dsimp only [spl, over] at h) | (with_reducible refine St.xs h rfl rfl (fun w h => ?_); dsimp only [spl, over] at h) | with_reducible refine IfB.ntt ?_ | with_reducible refine IfB.nff ?_ | with_reducible refine IfB.t rfl ?_ | with_reducible refine IfB.f rfl ?_ | with_reducible refine IfB.dt (by omega) ?_ | with_reducible refine IfB.df (by omega) ?_ | with_reducible refine IfB.ndt (by omega) ?_ | with_reducible refine IfB.ndf (by omega) ?_ | with_reducible refine IfB.et (by omega) ?_ | with_reducible refine IfB.ef (by omega) ?_ | with_reducible refine IfB.nt (by omega) ?_ | with_reducible refine IfB.nf (by omega) ?_ | with_reducible refine And.intro (by first | omega | decide) ?_))
        exact hb 241 _ _ (by unfold hstep; dsimp only; rw [if_pos ha, if_neg hcm, if_pos ha2]) h.tl
      · (repeat (first | with_reducible refine Nw.mk h (fun b w h => ?_) | with_reducible refine Drw.mk h (fun w h => ?_) | with_reducible refine Ld.xb h rfl ?_ | with_reducible refine Ld.xt h rfl ?_ | with_reducible refine LdS.xb (fun _ h => h) rfl ?_ | with_reducible refine LdS.xt (fun _ h => h) rfl ?_ | with_reducible refine And.intro h.hb ?_ | with_reducible refine StC.xw h rfl rfl (fun w h => ?_) | (with_reducible refine StC.xs h rfl rfl (fun w h => ?_); dsimp only [spl, over] at h) | (with_reducible refine St.xs h rfl rfl (fun w h => ?_); dsimp only [spl, over] at h) | with_reducible refine IfB.ntt ?_ | with_reducible refine IfB.nff ?_ | with_reducible refine IfB.t rfl ?_ | with_reducible refine IfB.f rfl ?_ | with_reducible refine IfB.dt (by omega) ?_ | with_reducible refine IfB.df (by omega) ?_ | with_reducible refine IfB.ndt (by omega) ?_ | with_reducible refine IfB.ndf (by omega) ?_ | with_reducible refine IfB.et (by omega) ?_ | with_reducible refine IfB.ef (by omega) ?_ | with_reducible refine IfB.nt (by omega) ?_ | with_reducible refine IfB.nf (by omega) ?_ | with_reducible refine And.intro (by first | omega | decide) ?_))
        exact hb 240 _ _ (by unfold hstep; dsimp only; rw [if_pos ha, if_neg hcm, if_neg ha2]) h.tl
  · (repeat (first | with_reducible refine Nw.mk h (fun b w h => ?_) | with_reducible refine Drw.mk h (fun w h => ?_) | with_reducible refine Ld.xb h rfl ?_ | with_reducible refine Ld.xt h rfl ?_ | with_reducible refine LdS.xb (fun _ h => h) rfl ?_ | with_reducible refine LdS.xt (fun _ h => h) rfl ?_ | with_reducible refine And.intro h.hb ?_ | with_reducible refine StC.xw h rfl rfl (fun w h => ?_) | (with_reducible refine StC.xs h rfl rfl (fun w h => ?_); dsimp only [spl, over] at h) | (with_reducible refine St.xs h rfl rfl (fun w h => ?_); dsimp only [spl, over] at h) | with_reducible refine IfB.ntt ?_ | with_reducible refine IfB.nff ?_ | with_reducible refine IfB.t rfl ?_ | with_reducible refine IfB.f rfl ?_ | with_reducible refine IfB.dt (by omega) ?_ | with_reducible refine IfB.df (by omega) ?_ | with_reducible refine IfB.ndt (by omega) ?_ | with_reducible refine IfB.ndf (by omega) ?_ | with_reducible refine IfB.et (by omega) ?_ | with_reducible refine IfB.ef (by omega) ?_ | with_reducible refine IfB.nt (by omega) ?_ | with_reducible refine IfB.nf (by omega) ?_ | with_reducible refine And.intro (by first | omega | decide) ?_))
    refine grow_c (most := 65536) h h3 (by omega) hc (fun hg o d w h => ?_) (fun n d hg k w hk h => ?_)
    · (repeat (first | with_reducible refine Nw.mk h (fun b w h => ?_) | with_reducible refine Drw.mk h (fun w h => ?_) | with_reducible refine Ld.xb h rfl ?_ | with_reducible refine Ld.xt h rfl ?_ | with_reducible refine LdS.xb (fun _ h => h) rfl ?_ | with_reducible refine LdS.xt (fun _ h => h) rfl ?_ | with_reducible refine And.intro h.hb ?_ | with_reducible refine StC.xw h rfl rfl (fun w h => ?_) | (with_reducible refine StC.xs h rfl rfl (fun w h => ?_); dsimp only [spl, over] at h) | (with_reducible refine St.xs h rfl rfl (fun w h => ?_); dsimp only [spl, over] at h) | with_reducible refine IfB.ntt ?_ | with_reducible refine IfB.nff ?_ | with_reducible refine IfB.t rfl ?_ | with_reducible refine IfB.f rfl ?_ | with_reducible refine IfB.dt (by omega) ?_ | with_reducible refine IfB.df (by omega) ?_ | with_reducible refine IfB.ndt (by omega) ?_ | with_reducible refine IfB.ndf (by omega) ?_ | with_reducible refine IfB.et (by omega) ?_ | with_reducible refine IfB.ef (by omega) ?_ | with_reducible refine IfB.nt (by omega) ?_ | with_reducible refine IfB.nf (by omega) ?_ | with_reducible refine And.intro (by first | omega | decide) ?_))
      (try simp only [Join_eq, NilCk_some, add_mk, Nat.zero_add, Nat.add_zero, Nat.reduceAdd, Bool.not_true, Bool.not_false, IfB_t, IfB_f, Option.isNone])
      (repeat (first | with_reducible refine Nw.mk h (fun b w h => ?_) | with_reducible refine Drw.mk h (fun w h => ?_) | with_reducible refine Ld.xb h rfl ?_ | with_reducible refine Ld.xt h rfl ?_ | with_reducible refine LdS.xb (fun _ h => h) rfl ?_ | with_reducible refine LdS.xt (fun _ h => h) rfl ?_ | with_reducible refine And.intro h.hb ?_ | with_reducible refine StC.xw h rfl rfl (fun w h => ?_) | (with_reducible refine StC.xs h rfl rfl (fun w h => ?_); dsimp only [spl, over] at h) | (with_reducible refine St.xs h rfl rfl (fun w h => ?_); dsimp only [spl, over] at h) | with_reducible refine IfB.ntt ?_ | with_reducible refine IfB.nff ?_ | with_reducible refine IfB.t rfl ?_ | with_reducible refine IfB.f rfl ?_ | with_reducible refine IfB.dt (by omega) ?_ | with_reducible refine IfB.df (by omega) ?_ | with_reducible refine IfB.ndt (by omega) ?_ | with_reducible refine IfB.ndf (by omega) ?_ | with_reducible refine IfB.et (by omega) ?_ | with_reducible refine IfB.ef (by omega) ?_ | with_reducible refine IfB.nt (by omega) ?_ | with_reducible refine IfB.nf (by omega) ?_ | with_reducible refine And.intro (by first | omega | decide) ?_))
      exact hb 242 _ _ (by unfold hstep; dsimp only; rw [if_neg ha, hg]) h.tl
    · cases d
      · have := hk rfl
        subst this
        (repeat (first | with_reducible refine Nw.mk h (fun b w h => ?_) | with_reducible refine Drw.mk h (fun w h => ?_) | with_reducible refine Ld.xb h rfl ?_ | with_reducible refine Ld.xt h rfl ?_ | with_reducible refine LdS.xb (fun _ h => h) rfl ?_ | with_reducible refine LdS.xt (fun _ h => h) rfl ?_ | with_reducible refine And.intro h.hb ?_ | with_reducible refine StC.xw h rfl rfl (fun w h => ?_) | (with_reducible refine StC.xs h rfl rfl (fun w h => ?_); dsimp only [spl, over] at h) | (with_reducible refine St.xs h rfl rfl (fun w h => ?_); dsimp only [spl, over] at h) | with_reducible refine IfB.ntt ?_ | with_reducible refine IfB.nff ?_ | with_reducible refine IfB.t rfl ?_ | with_reducible refine IfB.f rfl ?_ | with_reducible refine IfB.dt (by omega) ?_ | with_reducible refine IfB.df (by omega) ?_ | with_reducible refine IfB.ndt (by omega) ?_ | with_reducible refine IfB.ndf (by omega) ?_ | with_reducible refine IfB.et (by omega) ?_ | with_reducible refine IfB.ef (by omega) ?_ | with_reducible refine IfB.nt (by omega) ?_ | with_reducible refine IfB.nf (by omega) ?_ | with_reducible refine And.intro (by first | omega | decide) ?_))
        (try simp only [Join_eq, NilCk_some, add_mk, Nat.zero_add, Nat.add_zero, Nat.reduceAdd, Bool.not_true, Bool.not_false, IfB_t, IfB_f, Option.isNone])
        (repeat (first | with_reducible refine Nw.mk h (fun b w h => ?_) | with_reducible refine Drw.mk h (fun w h => ?_) | with_reducible refine Ld.xb h rfl ?_ | with_reducible refine Ld.xt h rfl ?_ | with_reducible refine LdS.xb (fun _ h => h) rfl ?_ | with_reducible refine LdS.xt (fun _ h => h) rfl ?_ | with_reducible refine And.intro h.hb ?_ | with_reducible refine StC.xw h rfl rfl (fun w h => ?_) | (with_reducible refine StC.xs h rfl rfl (fun w h => ?_); dsimp only [spl, over] at h) | (with_reducible refine St.xs h rfl rfl (fun w h => ?_); dsimp only [spl, over] at h) | with_reducible refine IfB.ntt ?_ | with_reducible refine IfB.nff ?_ | with_reducible refine IfB.t rfl ?_ | with_reducible refine IfB.f rfl ?_ | with_reducible refine IfB.dt (by omega) ?_ | with_reducible refine IfB.df (by omega) ?_ | with_reducible refine IfB.ndt (by omega) ?_ | with_reducible refine IfB.ndf (by omega) ?_ | with_reducible refine IfB.et (by omega) ?_ | with_reducible refine IfB.ef (by omega) ?_ | with_reducible refine IfB.nt (by omega) ?_ | with_reducible refine IfB.nf (by omega) ?_ | with_reducible refine And.intro (by first | omega | decide) ?_))
        exact hm ⟨3, n⟩ _ (by unfold hstep; dsimp only; rw [if_neg ha, hg]) h.tl
      · (repeat (first | with_reducible refine Nw.mk h (fun b w h => ?_) | with_reducible refine Drw.mk h (fun w h => ?_) | with_reducible refine Ld.xb h rfl ?_ | with_reducible refine Ld.xt h rfl ?_ | with_reducible refine LdS.xb (fun _ h => h) rfl ?_ | with_reducible refine LdS.xt (fun _ h => h) rfl ?_ | with_reducible refine And.intro h.hb ?_ | with_reducible refine StC.xw h rfl rfl (fun w h => ?_) | (with_reducible refine StC.xs h rfl rfl (fun w h => ?_); dsimp only [spl, over] at h) | (with_reducible refine St.xs h rfl rfl (fun w h => ?_); dsimp only [spl, over] at h) | with_reducible refine IfB.ntt ?_ | with_reducible refine IfB.nff ?_ | with_reducible refine IfB.t rfl ?_ | with_reducible refine IfB.f rfl ?_ | with_reducible refine IfB.dt (by omega) ?_ | with_reducible refine IfB.df (by omega) ?_ | with_reducible refine IfB.ndt (by omega) ?_ | with_reducible refine IfB.ndf (by omega) ?_ | with_reducible refine IfB.et (by omega) ?_ | with_reducible refine IfB.ef (by omega) ?_ | with_reducible refine IfB.nt (by omega) ?_ | with_reducible refine IfB.nf (by omega) ?_ | with_reducible refine And.intro (by first | omega | decide) ?_))
        (try simp only [Join_eq, NilCk_some, add_mk, Nat.zero_add, Nat.add_zero, Nat.reduceAdd, Bool.not_true, Bool.not_false, IfB_t, IfB_f, Option.isNone])
        (repeat (first | with_reducible refine Nw.mk h (fun b w h => ?_) | with_reducible refine Drw.mk h (fun w h => ?_) | with_reducible refine Ld.xb h rfl ?_ | with_reducible refine Ld.xt h rfl ?_ | with_reducible refine LdS.xb (fun _ h => h) rfl ?_ | with_reducible refine LdS.xt (fun _ h => h) rfl ?_ | with_reducible refine And.intro h.hb ?_ | with_reducible refine StC.xw h rfl rfl (fun w h => ?_) | (with_reducible refine StC.xs h rfl rfl (fun w h => ?_); dsimp only [spl, over] at h) | (with_reducible refine St.xs h rfl rfl (fun w h => ?_); dsimp only [spl, over] at h) | with_reducible refine IfB.ntt ?_ | with_reducible refine IfB.nff ?_ | with_reducible refine IfB.t rfl ?_ | with_reducible refine IfB.f rfl ?_ | with_reducible refine IfB.dt (by omega) ?_ | with_reducible refine IfB.df (by omega) ?_ | with_reducible refine IfB.ndt (by omega) ?_ | with_reducible refine IfB.ndf (by omega) ?_ | with_reducible refine IfB.et (by omega) ?_ | with_reducible refine IfB.ef (by omega) ?_ | with_reducible refine IfB.nt (by omega) ?_ | with_reducible refine IfB.nf (by omega) ?_ | with_reducible refine And.intro (by first | omega | decide) ?_))
        exact hf n _ (by unfold hstep; dsimp only; rw [if_neg ha, hg]) h.tl
end
end Go.Proofs.Ytjnjjibmlalpiaa
/- Mrk -/
namespace Go.Proofs.Ytjnjjibmlalpiaa
open Go Go.Vc Go.Srt Go.Inc Go.Hd
section
variable {E w : World} {F : List HP}
theorem sums_c {s m : Nat} {K : Bool → World → Prop} (hm : m ≤ 3) (hs : s < 256 ^ m) (hK : K true w) : Cl Try.prog [kB] n_header_sums ⟨[.int .u32 (s : Int), .int .i64 (m : Int)]⟩ w K := by
  refine header_sums.ok _ _ _ _ ?_
  unfold header_sums.E
  refine within_c ?_
  (repeat (first | with_reducible refine Nw.mk h (fun b w h => ?_) | with_reducible refine Drw.mk h (fun w h => ?_) | with_reducible refine Ld.xb h rfl ?_ | with_reducible refine Ld.xt h rfl ?_ | with_reducible refine LdS.xb (fun _ h => h) rfl ?_ | with_reducible refine LdS.xt (fun _ h => h) rfl ?_ | with_reducible refine And.intro h.hb ?_ | with_reducible refine StC.xw h rfl rfl (fun w h => ?_) | (with_reducible refine StC.xs h rfl rfl (fun w h => ?_); dsimp only [spl, over] at h) | (with_reducible refine St.xs h rfl rfl (fun w h => ?_); dsimp only [spl, over] at h) | with_reducible refine IfB.ntt ?_ | with_reducible refine IfB.nff ?_ | with_reducible refine IfB.t rfl ?_ | with_reducible refine IfB.f rfl ?_ | with_reducible refine IfB.dt (by omega) ?_ | with_reducible refine IfB.df (by omega) ?_ | with_reducible refine IfB.ndt (by omega) ?_ | with_reducible refine IfB.ndf (by omega) ?_ | with_reducible refine IfB.et (by omega) ?_ | with_reducible refine IfB.ef (by omega) ?_ | with_reducible refine IfB.nt (by omega) ?_ | with_reducible refine IfB.nf (by omega) ?_ | with_reducible refine And.intro (by first | omega | decide) ?_))
  rw [i64_id (by omega)]
  refine ⟨by omega, as1 ?_ hK⟩
  rw [show (8 * (m : Int)) = ((8 * m : Nat) : Int) by omega, u64_id (by
    have : m = 0 ∨ m = 1 ∨ m = 2 ∨ m = 3 := by omega
    rcases this with rfl | rfl | rfl | rfl <;> simp at hs <;> omega), ishr_nat (by have : IntKind.bits .u64 = 64 := rfl; omega), Nat.pow_mul, Nat.div_eq_of_lt (by simpa using hs)]
  rfl
theorem mvalid_c {n : Nat} {m : MS} {K : Bool → World → Prop} (h : Hp E w F) (hn : 1 ≤ n) (hn2 : n ≤ 65536) (hm : MsOk n m) (hK : ∀ w', Hp E w' F → K true w') :
    Cl Try.prog [kB] n_header_ValidMark ⟨[.int .i64 (n : Int), .agg ⟨[.int .i64 (m.at_ : Int), .int .i64 (m.v : Int), .int .i64 (vm m.v : Int), .int .i64 (m.M : Int), .int .i64 (m.P : Int), .int .u32 (m.sum : Int), .int .i64 (m.many : Int)]⟩]⟩ w K := by
  obtain ⟨at_, v, M, P, sum, many⟩ := m
  unfold MsOk at hm
  dsimp only at hm ⊢
  refine header_ValidMark.ok _ ((at_ : Int), (v : Int), (vm v : Int), (M : Int), (P : Int), (sum : Int), (many : Int), ()) _ _ ?_
  unfold header_ValidMark.E
  (try simp only [Join_eq, NilCk_some, add_mk, Nat.zero_add, Nat.add_zero, Nat.reduceAdd, Bool.not_true, Bool.not_false, IfB_t, IfB_f, Option.isNone])
  (repeat (first | with_reducible refine Nw.mk h (fun b w h => ?_) | with_reducible refine Drw.mk h (fun w h => ?_) | with_reducible refine Ld.xb h rfl ?_ | with_reducible refine Ld.xt h rfl ?_ | with_reducible refine LdS.xb (fun _ h => h) rfl ?_ | with_reducible refine LdS.xt (fun _ h => h) rfl ?_ | with_reducible refine And.intro h.hb ?_ | with_reducible refine StC.xw h rfl rfl (fun w h => ?_) | (with_reducible refine StC.xs h rfl rfl (fun w h => ?_); dsimp only [spl, over] at h) | (with_reducible refine St.xs h rfl rfl (fun w h => ?_); dsimp only [spl, over] at h) | with_reducible refine IfB.ntt ?_ | with_reducible refine IfB.nff ?_ | with_reducible refine IfB.t rfl ?_ | with_reducible refine IfB.f rfl ?_ | with_reducible refine IfB.dt (by omega) ?_ | with_reducible refine IfB.df (by omega) ?_ | with_reducible refine IfB.ndt (by omega) ?_ | with_reducible refine IfB.ndf (by omega) ?_ | with_reducible refine IfB.et (by omega) ?_ | with_reducible refine IfB.ef (by omega) ?_ | with_reducible refine IfB.nt (by omega) ?_ | with_reducible refine IfB.nf (by omega) ?_ | with_reducible refine And.intro (by first | omega | decide) ?_))
  refine within_c ?_
  rcases hm with ⟨h1, h2⟩ | ⟨h1, h2, h3, h4, h5, h6⟩ | ⟨h1, h2, h3, h4, h5, h6, h7⟩ | ⟨h1, h2, h3, h4, h5, h6, h7, h8⟩ | ⟨h1, h2, h3, h4, h5, h6⟩
  · cases h2
    (repeat (first | with_reducible refine Nw.mk h (fun b w h => ?_) | with_reducible refine Drw.mk h (fun w h => ?_) | with_reducible refine Ld.xb h rfl ?_ | with_reducible refine Ld.xt h rfl ?_ | with_reducible refine LdS.xb (fun _ h => h) rfl ?_ | with_reducible refine LdS.xt (fun _ h => h) rfl ?_ | with_reducible refine And.intro h.hb ?_ | with_reducible refine StC.xw h rfl rfl (fun w h => ?_) | (with_reducible refine StC.xs h rfl rfl (fun w h => ?_); dsimp only [spl, over] at h) | (with_reducible refine St.xs h rfl rfl (fun w h => ?_); dsimp only [spl, over] at h) | with_reducible refine IfB.ntt ?_ | with_reducible refine IfB.nff ?_ | with_reducible refine IfB.t rfl ?_ | with_reducible refine IfB.f rfl ?_ | with_reducible refine IfB.dt (by omega) ?_ | with_reducible refine IfB.df (by omega) ?_ | with_reducible refine IfB.ndt (by omega) ?_ | with_reducible refine IfB.ndf (by omega) ?_ | with_reducible refine IfB.et (by omega) ?_ | with_reducible refine IfB.ef (by omega) ?_ | with_reducible refine IfB.nt (by omega) ?_ | with_reducible refine IfB.nf (by omega) ?_ | with_reducible refine And.intro (by first | omega | decide) ?_))
    refine within_c ?_
    (repeat (first | with_reducible refine Nw.mk h (fun b w h => ?_) | with_reducible refine Drw.mk h (fun w h => ?_) | with_reducible refine Ld.xb h rfl ?_ | with_reducible refine Ld.xt h rfl ?_ | with_reducible refine LdS.xb (fun _ h => h) rfl ?_ | with_reducible refine LdS.xt (fun _ h => h) rfl ?_ | with_reducible refine And.intro h.hb ?_ | with_reducible refine StC.xw h rfl rfl (fun w h => ?_) | (with_reducible refine StC.xs h rfl rfl (fun w h => ?_); dsimp only [spl, over] at h) | (with_reducible refine St.xs h rfl rfl (fun w h => ?_); dsimp only [spl, over] at h) | with_reducible refine IfB.ntt ?_ | with_reducible refine IfB.nff ?_ | with_reducible refine IfB.t rfl ?_ | with_reducible refine IfB.f rfl ?_ | with_reducible refine IfB.dt (by omega) ?_ | with_reducible refine IfB.df (by omega) ?_ | with_reducible refine IfB.ndt (by omega) ?_ | with_reducible refine IfB.ndf (by omega) ?_ | with_reducible refine IfB.et (by omega) ?_ | with_reducible refine IfB.ef (by omega) ?_ | with_reducible refine IfB.nt (by omega) ?_ | with_reducible refine IfB.nf (by omega) ?_ | with_reducible refine And.intro (by first | omega | decide) ?_))
    exact hK _ h.tl
  · subst h1 h3 h4 h5 h6
    (repeat (first | with_reducible refine Nw.mk h (fun b w h => ?_) | with_reducible refine Drw.mk h (fun w h => ?_) | with_reducible refine Ld.xb h rfl ?_ | with_reducible refine Ld.xt h rfl ?_ | with_reducible refine LdS.xb (fun _ h => h) rfl ?_ | with_reducible refine LdS.xt (fun _ h => h) rfl ?_ | with_reducible refine And.intro h.hb ?_ | with_reducible refine StC.xw h rfl rfl (fun w h => ?_) | (with_reducible refine StC.xs h rfl rfl (fun w h => ?_); dsimp only [spl, over] at h) | (with_reducible refine St.xs h rfl rfl (fun w h => ?_); dsimp only [spl, over] at h) | with_reducible refine IfB.ntt ?_ | with_reducible refine IfB.nff ?_ | with_reducible refine IfB.t rfl ?_ | with_reducible refine IfB.f rfl ?_ | with_reducible refine IfB.dt (by omega) ?_ | with_reducible refine IfB.df (by omega) ?_ | with_reducible refine IfB.ndt (by omega) ?_ | with_reducible refine IfB.ndf (by omega) ?_ | with_reducible refine IfB.et (by omega) ?_ | with_reducible refine IfB.ef (by omega) ?_ | with_reducible refine IfB.nt (by omega) ?_ | with_reducible refine IfB.nf (by omega) ?_ | with_reducible refine And.intro (by first | omega | decide) ?_))
    refine within_c ?_
    (repeat (first | with_reducible refine Nw.mk h (fun b w h => ?_) | with_reducible refine Drw.mk h (fun w h => ?_) | with_reducible refine Ld.xb h rfl ?_ | with_reducible refine Ld.xt h rfl ?_ | with_reducible refine LdS.xb (fun _ h => h) rfl ?_ | with_reducible refine LdS.xt (fun _ h => h) rfl ?_ | with_reducible refine And.intro h.hb ?_ | with_reducible refine StC.xw h rfl rfl (fun w h => ?_) | (with_reducible refine StC.xs h rfl rfl (fun w h => ?_); dsimp only [spl, over] at h) | (with_reducible refine St.xs h rfl rfl (fun w h => ?_); dsimp only [spl, over] at h) | with_reducible refine IfB.ntt ?_ | with_reducible refine IfB.nff ?_ | with_reducible refine IfB.t rfl ?_ | with_reducible refine IfB.f rfl ?_ | with_reducible refine IfB.dt (by omega) ?_ | with_reducible refine IfB.df (by omega) ?_ | with_reducible refine IfB.ndt (by omega) ?_ | with_reducible refine IfB.ndf (by omega) ?_ | with_reducible refine IfB.et (by omega) ?_ | with_reducible refine IfB.ef (by omega) ?_ | with_reducible refine IfB.nt (by omega) ?_ | with_reducible refine IfB.nf (by omega) ?_ | with_reducible refine And.intro (by first | omega | decide) ?_))
    refine comes_c h (by omega) (by omega) fun w h => ?_
    (repeat (first | with_reducible refine Nw.mk h (fun b w h => ?_) | with_reducible refine Drw.mk h (fun w h => ?_) | with_reducible refine Ld.xb h rfl ?_ | with_reducible refine Ld.xt h rfl ?_ | with_reducible refine LdS.xb (fun _ h => h) rfl ?_ | with_reducible refine LdS.xt (fun _ h => h) rfl ?_ | with_reducible refine And.intro h.hb ?_ | with_reducible refine StC.xw h rfl rfl (fun w h => ?_) | (with_reducible refine StC.xs h rfl rfl (fun w h => ?_); dsimp only [spl, over] at h) | (with_reducible refine St.xs h rfl rfl (fun w h => ?_); dsimp only [spl, over] at h) | with_reducible refine IfB.ntt ?_ | with_reducible refine IfB.nff ?_ | with_reducible refine IfB.t rfl ?_ | with_reducible refine IfB.f rfl ?_ | with_reducible refine IfB.dt (by omega) ?_ | with_reducible refine IfB.df (by omega) ?_ | with_reducible refine IfB.ndt (by omega) ?_ | with_reducible refine IfB.ndf (by omega) ?_ | with_reducible refine IfB.et (by omega) ?_ | with_reducible refine IfB.ef (by omega) ?_ | with_reducible refine IfB.nt (by omega) ?_ | with_reducible refine IfB.nf (by omega) ?_ | with_reducible refine And.intro (by first | omega | decide) ?_))
    refine as1 ?_ (hK _ h.tl)
    simp
  · subst h1 h5 h6 h7
    (repeat (first | with_reducible refine Nw.mk h (fun b w h => ?_) | with_reducible refine Drw.mk h (fun w h => ?_) | with_reducible refine Ld.xb h rfl ?_ | with_reducible refine Ld.xt h rfl ?_ | with_reducible refine LdS.xb (fun _ h => h) rfl ?_ | with_reducible refine LdS.xt (fun _ h => h) rfl ?_ | with_reducible refine And.intro h.hb ?_ | with_reducible refine StC.xw h rfl rfl (fun w h => ?_) | (with_reducible refine StC.xs h rfl rfl (fun w h => ?_); dsimp only [spl, over] at h) | (with_reducible refine St.xs h rfl rfl (fun w h => ?_); dsimp only [spl, over] at h) | with_reducible refine IfB.ntt ?_ | with_reducible refine IfB.nff ?_ | with_reducible refine IfB.t rfl ?_ | with_reducible refine IfB.f rfl ?_ | with_reducible refine IfB.dt (by omega) ?_ | with_reducible refine IfB.df (by omega) ?_ | with_reducible refine IfB.ndt (by omega) ?_ | with_reducible refine IfB.ndf (by omega) ?_ | with_reducible refine IfB.et (by omega) ?_ | with_reducible refine IfB.ef (by omega) ?_ | with_reducible refine IfB.nt (by omega) ?_ | with_reducible refine IfB.nf (by omega) ?_ | with_reducible refine And.intro (by first | omega | decide) ?_))
    refine within_c ?_
    (repeat (first | with_reducible refine Nw.mk h (fun b w h => ?_) | with_reducible refine Drw.mk h (fun w h => ?_) | with_reducible refine Ld.xb h rfl ?_ | with_reducible refine Ld.xt h rfl ?_ | with_reducible refine LdS.xb (fun _ h => h) rfl ?_ | with_reducible refine LdS.xt (fun _ h => h) rfl ?_ | with_reducible refine And.intro h.hb ?_ | with_reducible refine StC.xw h rfl rfl (fun w h => ?_) | (with_reducible refine StC.xs h rfl rfl (fun w h => ?_); dsimp only [spl, over] at h) | (with_reducible refine St.xs h rfl rfl (fun w h => ?_); dsimp only [spl, over] at h) | with_reducible refine IfB.ntt ?_ | with_reducible refine IfB.nff ?_ | with_reducible refine IfB.t rfl ?_ | with_reducible refine IfB.f rfl ?_ | with_reducible refine IfB.dt (by omega) ?_ | with_reducible refine IfB.df (by omega) ?_ | with_reducible refine IfB.ndt (by omega) ?_ | with_reducible refine IfB.ndf (by omega) ?_ | with_reducible refine IfB.et (by omega) ?_ | with_reducible refine IfB.ef (by omega) ?_ | with_reducible refine IfB.nt (by omega) ?_ | with_reducible refine IfB.nf (by omega) ?_ | with_reducible refine And.intro (by first | omega | decide) ?_))
    refine within_c ?_
    (repeat (first | with_reducible refine Nw.mk h (fun b w h => ?_) | with_reducible refine Drw.mk h (fun w h => ?_) | with_reducible refine Ld.xb h rfl ?_ | with_reducible refine Ld.xt h rfl ?_ | with_reducible refine LdS.xb (fun _ h => h) rfl ?_ | with_reducible refine LdS.xt (fun _ h => h) rfl ?_ | with_reducible refine And.intro h.hb ?_ | with_reducible refine StC.xw h rfl rfl (fun w h => ?_) | (with_reducible refine StC.xs h rfl rfl (fun w h => ?_); dsimp only [spl, over] at h) | (with_reducible refine St.xs h rfl rfl (fun w h => ?_); dsimp only [spl, over] at h) | with_reducible refine IfB.ntt ?_ | with_reducible refine IfB.nff ?_ | with_reducible refine IfB.t rfl ?_ | with_reducible refine IfB.f rfl ?_ | with_reducible refine IfB.dt (by omega) ?_ | with_reducible refine IfB.df (by omega) ?_ | with_reducible refine IfB.ndt (by omega) ?_ | with_reducible refine IfB.ndf (by omega) ?_ | with_reducible refine IfB.et (by omega) ?_ | with_reducible refine IfB.ef (by omega) ?_ | with_reducible refine IfB.nt (by omega) ?_ | with_reducible refine IfB.nf (by omega) ?_ | with_reducible refine And.intro (by first | omega | decide) ?_))
    refine within_c ?_
    (repeat (first | with_reducible refine Nw.mk h (fun b w h => ?_) | with_reducible refine Drw.mk h (fun w h => ?_) | with_reducible refine Ld.xb h rfl ?_ | with_reducible refine Ld.xt h rfl ?_ | with_reducible refine LdS.xb (fun _ h => h) rfl ?_ | with_reducible refine LdS.xt (fun _ h => h) rfl ?_ | with_reducible refine And.intro h.hb ?_ | with_reducible refine StC.xw h rfl rfl (fun w h => ?_) | (with_reducible refine StC.xs h rfl rfl (fun w h => ?_); dsimp only [spl, over] at h) | (with_reducible refine St.xs h rfl rfl (fun w h => ?_); dsimp only [spl, over] at h) | with_reducible refine IfB.ntt ?_ | with_reducible refine IfB.nff ?_ | with_reducible refine IfB.t rfl ?_ | with_reducible refine IfB.f rfl ?_ | with_reducible refine IfB.dt (by omega) ?_ | with_reducible refine IfB.df (by omega) ?_ | with_reducible refine IfB.ndt (by omega) ?_ | with_reducible refine IfB.ndf (by omega) ?_ | with_reducible refine IfB.et (by omega) ?_ | with_reducible refine IfB.ef (by omega) ?_ | with_reducible refine IfB.nt (by omega) ?_ | with_reducible refine IfB.nf (by omega) ?_ | with_reducible refine And.intro (by first | omega | decide) ?_))
    refine comes_c h (by omega) (by omega) fun w h => ?_
    (repeat (first | with_reducible refine Nw.mk h (fun b w h => ?_) | with_reducible refine Drw.mk h (fun w h => ?_) | with_reducible refine Ld.xb h rfl ?_ | with_reducible refine Ld.xt h rfl ?_ | with_reducible refine LdS.xb (fun _ h => h) rfl ?_ | with_reducible refine LdS.xt (fun _ h => h) rfl ?_ | with_reducible refine And.intro h.hb ?_ | with_reducible refine StC.xw h rfl rfl (fun w h => ?_) | (with_reducible refine StC.xs h rfl rfl (fun w h => ?_); dsimp only [spl, over] at h) | (with_reducible refine St.xs h rfl rfl (fun w h => ?_); dsimp only [spl, over] at h) | with_reducible refine IfB.ntt ?_ | with_reducible refine IfB.nff ?_ | with_reducible refine IfB.t rfl ?_ | with_reducible refine IfB.f rfl ?_ | with_reducible refine IfB.dt (by omega) ?_ | with_reducible refine IfB.df (by omega) ?_ | with_reducible refine IfB.ndt (by omega) ?_ | with_reducible refine IfB.ndf (by omega) ?_ | with_reducible refine IfB.et (by omega) ?_ | with_reducible refine IfB.ef (by omega) ?_ | with_reducible refine IfB.nt (by omega) ?_ | with_reducible refine IfB.nf (by omega) ?_ | with_reducible refine And.intro (by first | omega | decide) ?_))
    refine as1 ?_ (hK _ h.tl)
    simp
  · subst h1 h6
    (repeat (first | with_reducible refine Nw.mk h (fun b w h => ?_) | with_reducible refine Drw.mk h (fun w h => ?_) | with_reducible refine Ld.xb h rfl ?_ | with_reducible refine Ld.xt h rfl ?_ | with_reducible refine LdS.xb (fun _ h => h) rfl ?_ | with_reducible refine LdS.xt (fun _ h => h) rfl ?_ | with_reducible refine And.intro h.hb ?_ | with_reducible refine StC.xw h rfl rfl (fun w h => ?_) | (with_reducible refine StC.xs h rfl rfl (fun w h => ?_); dsimp only [spl, over] at h) | (with_reducible refine St.xs h rfl rfl (fun w h => ?_); dsimp only [spl, over] at h) | with_reducible refine IfB.ntt ?_ | with_reducible refine IfB.nff ?_ | with_reducible refine IfB.t rfl ?_ | with_reducible refine IfB.f rfl ?_ | with_reducible refine IfB.dt (by omega) ?_ | with_reducible refine IfB.df (by omega) ?_ | with_reducible refine IfB.ndt (by omega) ?_ | with_reducible refine IfB.ndf (by omega) ?_ | with_reducible refine IfB.et (by omega) ?_ | with_reducible refine IfB.ef (by omega) ?_ | with_reducible refine IfB.nt (by omega) ?_ | with_reducible refine IfB.nf (by omega) ?_ | with_reducible refine And.intro (by first | omega | decide) ?_))
    refine within_c ?_
    rw [decide_eq_true (show 1 ≤ (P : Int) ∧ (P : Int) ≤ (M : Int) by omega)]
    refine within_c ?_
    (repeat (first | with_reducible refine Nw.mk h (fun b w h => ?_) | with_reducible refine Drw.mk h (fun w h => ?_) | with_reducible refine Ld.xb h rfl ?_ | with_reducible refine Ld.xt h rfl ?_ | with_reducible refine LdS.xb (fun _ h => h) rfl ?_ | with_reducible refine LdS.xt (fun _ h => h) rfl ?_ | with_reducible refine And.intro h.hb ?_ | with_reducible refine StC.xw h rfl rfl (fun w h => ?_) | (with_reducible refine StC.xs h rfl rfl (fun w h => ?_); dsimp only [spl, over] at h) | (with_reducible refine St.xs h rfl rfl (fun w h => ?_); dsimp only [spl, over] at h) | with_reducible refine IfB.ntt ?_ | with_reducible refine IfB.nff ?_ | with_reducible refine IfB.t rfl ?_ | with_reducible refine IfB.f rfl ?_ | with_reducible refine IfB.dt (by omega) ?_ | with_reducible refine IfB.df (by omega) ?_ | with_reducible refine IfB.ndt (by omega) ?_ | with_reducible refine IfB.ndf (by omega) ?_ | with_reducible refine IfB.et (by omega) ?_ | with_reducible refine IfB.ef (by omega) ?_ | with_reducible refine IfB.nt (by omega) ?_ | with_reducible refine IfB.nf (by omega) ?_ | with_reducible refine And.intro (by first | omega | decide) ?_))
    refine sums_c h7 h8 ?_
    (repeat (first | with_reducible refine Nw.mk h (fun b w h => ?_) | with_reducible refine Drw.mk h (fun w h => ?_) | with_reducible refine Ld.xb h rfl ?_ | with_reducible refine Ld.xt h rfl ?_ | with_reducible refine LdS.xb (fun _ h => h) rfl ?_ | with_reducible refine LdS.xt (fun _ h => h) rfl ?_ | with_reducible refine And.intro h.hb ?_ | with_reducible refine StC.xw h rfl rfl (fun w h => ?_) | (with_reducible refine StC.xs h rfl rfl (fun w h => ?_); dsimp only [spl, over] at h) | (with_reducible refine St.xs h rfl rfl (fun w h => ?_); dsimp only [spl, over] at h) | with_reducible refine IfB.ntt ?_ | with_reducible refine IfB.nff ?_ | with_reducible refine IfB.t rfl ?_ | with_reducible refine IfB.f rfl ?_ | with_reducible refine IfB.dt (by omega) ?_ | with_reducible refine IfB.df (by omega) ?_ | with_reducible refine IfB.ndt (by omega) ?_ | with_reducible refine IfB.ndf (by omega) ?_ | with_reducible refine IfB.et (by omega) ?_ | with_reducible refine IfB.ef (by omega) ?_ | with_reducible refine IfB.nt (by omega) ?_ | with_reducible refine IfB.nf (by omega) ?_ | with_reducible refine And.intro (by first | omega | decide) ?_))
    exact hK _ h.tl
  · subst h1 h2 h3 h4
    (repeat (first | with_reducible refine Nw.mk h (fun b w h => ?_) | with_reducible refine Drw.mk h (fun w h => ?_) | with_reducible refine Ld.xb h rfl ?_ | with_reducible refine Ld.xt h rfl ?_ | with_reducible refine LdS.xb (fun _ h => h) rfl ?_ | with_reducible refine LdS.xt (fun _ h => h) rfl ?_ | with_reducible refine And.intro h.hb ?_ | with_reducible refine StC.xw h rfl rfl (fun w h => ?_) | (with_reducible refine StC.xs h rfl rfl (fun w h => ?_); dsimp only [spl, over] at h) | (with_reducible refine St.xs h rfl rfl (fun w h => ?_); dsimp only [spl, over] at h) | with_reducible refine IfB.ntt ?_ | with_reducible refine IfB.nff ?_ | with_reducible refine IfB.t rfl ?_ | with_reducible refine IfB.f rfl ?_ | with_reducible refine IfB.dt (by omega) ?_ | with_reducible refine IfB.df (by omega) ?_ | with_reducible refine IfB.ndt (by omega) ?_ | with_reducible refine IfB.ndf (by omega) ?_ | with_reducible refine IfB.et (by omega) ?_ | with_reducible refine IfB.ef (by omega) ?_ | with_reducible refine IfB.nt (by omega) ?_ | with_reducible refine IfB.nf (by omega) ?_ | with_reducible refine And.intro (by first | omega | decide) ?_))
    refine within_c ?_
    (repeat (first | with_reducible refine Nw.mk h (fun b w h => ?_) | with_reducible refine Drw.mk h (fun w h => ?_) | with_reducible refine Ld.xb h rfl ?_ | with_reducible refine Ld.xt h rfl ?_ | with_reducible refine LdS.xb (fun _ h => h) rfl ?_ | with_reducible refine LdS.xt (fun _ h => h) rfl ?_ | with_reducible refine And.intro h.hb ?_ | with_reducible refine StC.xw h rfl rfl (fun w h => ?_) | (with_reducible refine StC.xs h rfl rfl (fun w h => ?_); dsimp only [spl, over] at h) | (with_reducible refine St.xs h rfl rfl (fun w h => ?_); dsimp only [spl, over] at h) | with_reducible refine IfB.ntt ?_ | with_reducible refine IfB.nff ?_ | with_reducible refine IfB.t rfl ?_ | with_reducible refine IfB.f rfl ?_ | with_reducible refine IfB.dt (by omega) ?_ | with_reducible refine IfB.df (by omega) ?_ | with_reducible refine IfB.ndt (by omega) ?_ | with_reducible refine IfB.ndf (by omega) ?_ | with_reducible refine IfB.et (by omega) ?_ | with_reducible refine IfB.ef (by omega) ?_ | with_reducible refine IfB.nt (by omega) ?_ | with_reducible refine IfB.nf (by omega) ?_ | with_reducible refine And.intro (by first | omega | decide) ?_))
    refine sums_c h5 h6 ?_
    (repeat (first | with_reducible refine Nw.mk h (fun b w h => ?_) | with_reducible refine Drw.mk h (fun w h => ?_) | with_reducible refine Ld.xb h rfl ?_ | with_reducible refine Ld.xt h rfl ?_ | with_reducible refine LdS.xb (fun _ h => h) rfl ?_ | with_reducible refine LdS.xt (fun _ h => h) rfl ?_ | with_reducible refine And.intro h.hb ?_ | with_reducible refine StC.xw h rfl rfl (fun w h => ?_) | (with_reducible refine StC.xs h rfl rfl (fun w h => ?_); dsimp only [spl, over] at h) | (with_reducible refine St.xs h rfl rfl (fun w h => ?_); dsimp only [spl, over] at h) | with_reducible refine IfB.ntt ?_ | with_reducible refine IfB.nff ?_ | with_reducible refine IfB.t rfl ?_ | with_reducible refine IfB.f rfl ?_ | with_reducible refine IfB.dt (by omega) ?_ | with_reducible refine IfB.df (by omega) ?_ | with_reducible refine IfB.ndt (by omega) ?_ | with_reducible refine IfB.ndf (by omega) ?_ | with_reducible refine IfB.et (by omega) ?_ | with_reducible refine IfB.ef (by omega) ?_ | with_reducible refine IfB.nt (by omega) ?_ | with_reducible refine IfB.nf (by omega) ?_ | with_reducible refine And.intro (by first | omega | decide) ?_))
    refine as1 ?_ (hK _ h.tl)
    simp [vm]
end
end Go.Proofs.Ytjnjjibmlalpiaa
/- Mks -/
namespace Go.Vc
open Go
section
variable {P : Program} {α β : Type} [DecidableEq α] {ke : α → Value} {ve : β → Value} {kt vt t : TypeId} {E w : World} {F : List HP} {m : Option Nat} {l : List (α × β)}
theorem FnNil.fn {t : Fn} {a b : Array Value} {K : Bool → Prop} (h : K false) : FnNil (.func t a b) K := h
/-- a map lookup that finds -/
theorem Run.found (hk : KeyOk P kt ke) (hu : P.underlying t = some (.map kt vt)) {a : α} {q : Nat × β} {z : Value} {k : Ki} {x : k.T} {K : k.T → World → Prop} (hz : ∀ w, (zeroValue vt).run P w = .ok z w) (h : Hp E w (OwnM ke ve m l :: F)) (hf : findAt a l 0 = some q) (hx : ve q.2 = k.enc x) (hK : K x w) :
    Run P (Instr.lookup t (.map m) (ke a) false) k w K := by
  unfold Run
  rw [run_lookup1 hk hu hz h, hf]
  dsimp only
  rw [hx]
  exact Ki.dec_enc.2 hK
end
end Go.Vc
namespace Go.Proofs.Ytjnjjibmlalpiaa
open Go Go.Vc Go.Srt Go.Inc Go.Hd
abbrev MarkK := Int × Int × Int × Int × Int × Int × Int × Unit
section
variable {E w : World} {F : List HP}
/-- what a transition of a part returns -/
def MkR (n : Nat) (m : MS) (c : Nat) (E : World) (F : List HP) (K : MarkK → Bool → World → Prop) : Prop :=
  (∀ m' w', mstep n m c = .more m' → m'.at_ ≠ 4 → m'.at_ ≠ 6 → Hp E w' F → K (msT m') true w') ∧
  (∀ M P u w', mstep n m c = .fin (.blk M P u) → Hp E w' F → K (4, 0, 0, (M : Int), (P : Int), (u : Int), 4, ()) true w') ∧
  (∀ u w', mstep n m c = .fin (.tail u) → Hp E w' F → K (6, 0, 0, 0, 0, (u : Int), 4, ()) true w') ∧
  (∀ e o w', mstep n m c = .bad e → e = 242 → Hp E w' F → K o false w')
theorem mark_c {n : Nat} {c : Nat} {K : MarkK → Bool → World → Prop} (h : Hp E w F) (hc : c < 256) (hK : MkR n ms0 c E F K) :
    Cl Try.prog [.st [.int .i64, .int .i64, .int .i64, .int .i64, .int .i64, .int .u32, .int .i64], kB] n_header_mark ⟨[.int .i64 (n : Int), .agg ⟨[.int .i64 0, .int .i64 0, .int .i64 0, .int .i64 0, .int .i64 0, .int .u32 0, .int .i64 0]⟩, .int .u8 (c : Int)]⟩ w K := by
  obtain ⟨k1, _, _, k4⟩ := hK
  refine header_mark.ok _ (0, 0, 0, 0, 0, 0, 0, ()) _ _ _ ?_
  unfold header_mark.E
  (try simp only [Join_eq, NilCk_some, add_mk, Nat.zero_add, Nat.add_zero, Nat.reduceAdd, Bool.not_true, Bool.not_false, IfB_t, IfB_f, Option.isNone])
  (repeat (first | with_reducible refine Nw.mk h (fun b w h => ?_) | with_reducible refine Drw.mk h (fun w h => ?_) | with_reducible refine Ld.xb h rfl ?_ | with_reducible refine Ld.xt h rfl ?_ | with_reducible refine LdS.xb (fun _ h => h) rfl ?_ | with_reducible refine LdS.xt (fun _ h => h) rfl ?_ | with_reducible refine And.intro h.hb ?_ | with_reducible refine StC.xw h rfl rfl (fun w h => ?_) | (with_reducible refine StC.xs h rfl rfl (fun w h => ?_); dsimp only [spl, over] at h) | (with_reducible refine St.xs h rfl rfl (fun w h => ?_); dsimp only [spl, over] at h) | with_reducible refine IfB.ntt ?_ | with_reducible refine IfB.nff ?_ | with_reducible refine IfB.t rfl ?_ | with_reducible refine IfB.f rfl ?_ | with_reducible refine IfB.dt (by omega) ?_ | with_reducible refine IfB.df (by omega) ?_ | with_reducible refine IfB.ndt (by omega) ?_ | with_reducible refine IfB.ndf (by omega) ?_ | with_reducible refine IfB.et (by omega) ?_ | with_reducible refine IfB.ef (by omega) ?_ | with_reducible refine IfB.nt (by omega) ?_ | with_reducible refine IfB.nf (by omega) ?_ | with_reducible refine And.intro (by first | omega | decide) ?_))
  by_cases h0 : c = 0
  · subst h0
    (repeat (first | with_reducible refine Nw.mk h (fun b w h => ?_) | with_reducible refine Drw.mk h (fun w h => ?_) | with_reducible refine Ld.xb h rfl ?_ | with_reducible refine Ld.xt h rfl ?_ | with_reducible refine LdS.xb (fun _ h => h) rfl ?_ | with_reducible refine LdS.xt (fun _ h => h) rfl ?_ | with_reducible refine And.intro h.hb ?_ | with_reducible refine StC.xw h rfl rfl (fun w h => ?_) | (with_reducible refine StC.xs h rfl rfl (fun w h => ?_); dsimp only [spl, over] at h) | (with_reducible refine St.xs h rfl rfl (fun w h => ?_); dsimp only [spl, over] at h) | with_reducible refine IfB.ntt ?_ | with_reducible refine IfB.nff ?_ | with_reducible refine IfB.t rfl ?_ | with_reducible refine IfB.f rfl ?_ | with_reducible refine IfB.dt (by omega) ?_ | with_reducible refine IfB.df (by omega) ?_ | with_reducible refine IfB.ndt (by omega) ?_ | with_reducible refine IfB.ndf (by omega) ?_ | with_reducible refine IfB.et (by omega) ?_ | with_reducible refine IfB.ef (by omega) ?_ | with_reducible refine IfB.nt (by omega) ?_ | with_reducible refine IfB.nf (by omega) ?_ | with_reducible refine And.intro (by first | omega | decide) ?_))
    exact k1 ⟨5, 0, 0, 0, 0, 0⟩ _ rfl (by dsimp only; decide) (by dsimp only; decide) h.tl
  · (repeat (first | with_reducible refine Nw.mk h (fun b w h => ?_) | with_reducible refine Drw.mk h (fun w h => ?_) | with_reducible refine Ld.xb h rfl ?_ | with_reducible refine Ld.xt h rfl ?_ | with_reducible refine LdS.xb (fun _ h => h) rfl ?_ | with_reducible refine LdS.xt (fun _ h => h) rfl ?_ | with_reducible refine And.intro h.hb ?_ | with_reducible refine StC.xw h rfl rfl (fun w h => ?_) | (with_reducible refine StC.xs h rfl rfl (fun w h => ?_); dsimp only [spl, over] at h) | (with_reducible refine St.xs h rfl rfl (fun w h => ?_); dsimp only [spl, over] at h) | with_reducible refine IfB.ntt ?_ | with_reducible refine IfB.nff ?_ | with_reducible refine IfB.t rfl ?_ | with_reducible refine IfB.f rfl ?_ | with_reducible refine IfB.dt (by omega) ?_ | with_reducible refine IfB.df (by omega) ?_ | with_reducible refine IfB.ndt (by omega) ?_ | with_reducible refine IfB.ndf (by omega) ?_ | with_reducible refine IfB.et (by omega) ?_ | with_reducible refine IfB.ef (by omega) ?_ | with_reducible refine IfB.nt (by omega) ?_ | with_reducible refine IfB.nf (by omega) ?_ | with_reducible refine And.intro (by first | omega | decide) ?_))
    by_cases h1 : c = 1
    · subst h1
      exact k1 ⟨1, 0, 0, 0, 0, 0⟩ _ rfl (by dsimp only; decide) (by dsimp only; decide) h.tl
    · refine as1 (decide_eq_false (by omega)) (k4 242 _ _ ?_ rfl h.tl)
      unfold mstep ms0
      simp [h0, h1]
theorem many_c {n v : Nat} {c : Nat} {K : MarkK → Bool → World → Prop} (h : Hp E w F) (hn : n ≤ 65536) (hv : v ≤ n) (hc : c < 256) (hK : MkR n ⟨1, v, 0, 0, 0, 0⟩ c E F K) :
    Cl Try.prog [.st [.int .i64, .int .i64, .int .i64, .int .i64, .int .i64, .int .u32, .int .i64], kB] n_header_many ⟨[.int .i64 (n : Int), .agg ⟨[.int .i64 1, .int .i64 (v : Int), .int .i64 (vm v : Int), .int .i64 0, .int .i64 0, .int .u32 0, .int .i64 0]⟩, .int .u8 (c : Int)]⟩ w K := by
  obtain ⟨k1, _, _, k4⟩ := hK
  refine header_many.ok _ (1, (v : Int), (vm v : Int), 0, 0, 0, 0, ()) _ _ _ ?_
  unfold header_many.E
  (try simp only [Join_eq, NilCk_some, add_mk, Nat.zero_add, Nat.add_zero, Nat.reduceAdd, Bool.not_true, Bool.not_false, IfB_t, IfB_f, Option.isNone])
  (repeat (first | with_reducible refine Nw.mk h (fun b w h => ?_) | with_reducible refine Drw.mk h (fun w h => ?_) | with_reducible refine Ld.xb h rfl ?_ | with_reducible refine Ld.xt h rfl ?_ | with_reducible refine LdS.xb (fun _ h => h) rfl ?_ | with_reducible refine LdS.xt (fun _ h => h) rfl ?_ | with_reducible refine And.intro h.hb ?_ | with_reducible refine StC.xw h rfl rfl (fun w h => ?_) | (with_reducible refine StC.xs h rfl rfl (fun w h => ?_); dsimp only [spl, over] at h) | (with_reducible refine St.xs h rfl rfl (fun w h => ?_); dsimp only [spl, over] at h) | with_reducible refine IfB.ntt ?_ | with_reducible refine IfB.nff ?_ | with_reducible refine IfB.t rfl ?_ | with_reducible refine IfB.f rfl ?_ | with_reducible refine IfB.dt (by omega) ?_ | with_reducible refine IfB.df (by omega) ?_ | with_reducible refine IfB.ndt (by omega) ?_ | with_reducible refine IfB.ndf (by omega) ?_ | with_reducible refine IfB.et (by omega) ?_ | with_reducible refine IfB.ef (by omega) ?_ | with_reducible refine IfB.nt (by omega) ?_ | with_reducible refine IfB.nf (by omega) ?_ | with_reducible refine And.intro (by first | omega | decide) ?_))
  refine grow_c h hv hn hc (fun hg o d w h => ?_) (fun m d hg k w hk h => ?_)
  · (repeat (first | with_reducible refine Nw.mk h (fun b w h => ?_) | with_reducible refine Drw.mk h (fun w h => ?_) | with_reducible refine Ld.xb h rfl ?_ | with_reducible refine Ld.xt h rfl ?_ | with_reducible refine LdS.xb (fun _ h => h) rfl ?_ | with_reducible refine LdS.xt (fun _ h => h) rfl ?_ | with_reducible refine And.intro h.hb ?_ | with_reducible refine StC.xw h rfl rfl (fun w h => ?_) | (with_reducible refine StC.xs h rfl rfl (fun w h => ?_); dsimp only [spl, over] at h) | (with_reducible refine St.xs h rfl rfl (fun w h => ?_); dsimp only [spl, over] at h) | with_reducible refine IfB.ntt ?_ | with_reducible refine IfB.nff ?_ | with_reducible refine IfB.t rfl ?_ | with_reducible refine IfB.f rfl ?_ | with_reducible refine IfB.dt (by omega) ?_ | with_reducible refine IfB.df (by omega) ?_ | with_reducible refine IfB.ndt (by omega) ?_ | with_reducible refine IfB.ndf (by omega) ?_ | with_reducible refine IfB.et (by omega) ?_ | with_reducible refine IfB.ef (by omega) ?_ | with_reducible refine IfB.nt (by omega) ?_ | with_reducible refine IfB.nf (by omega) ?_ | with_reducible refine And.intro (by first | omega | decide) ?_))
    cases d
    · (repeat (first | with_reducible refine Nw.mk h (fun b w h => ?_) | with_reducible refine Drw.mk h (fun w h => ?_) | with_reducible refine Ld.xb h rfl ?_ | with_reducible refine Ld.xt h rfl ?_ | with_reducible refine LdS.xb (fun _ h => h) rfl ?_ | with_reducible refine LdS.xt (fun _ h => h) rfl ?_ | with_reducible refine And.intro h.hb ?_ | with_reducible refine StC.xw h rfl rfl (fun w h => ?_) | (with_reducible refine StC.xs h rfl rfl (fun w h => ?_); dsimp only [spl, over] at h) | (with_reducible refine St.xs h rfl rfl (fun w h => ?_); dsimp only [spl, over] at h) | with_reducible refine IfB.ntt ?_ | with_reducible refine IfB.nff ?_ | with_reducible refine IfB.t rfl ?_ | with_reducible refine IfB.f rfl ?_ | with_reducible refine IfB.dt (by omega) ?_ | with_reducible refine IfB.df (by omega) ?_ | with_reducible refine IfB.ndt (by omega) ?_ | with_reducible refine IfB.ndf (by omega) ?_ | with_reducible refine IfB.et (by omega) ?_ | with_reducible refine IfB.ef (by omega) ?_ | with_reducible refine IfB.nt (by omega) ?_ | with_reducible refine IfB.nf (by omega) ?_ | with_reducible refine And.intro (by first | omega | decide) ?_))
      exact k4 242 _ _ (by unfold mstep; simp [hg]) rfl h.tl
    · (repeat (first | with_reducible refine Nw.mk h (fun b w h => ?_) | with_reducible refine Drw.mk h (fun w h => ?_) | with_reducible refine Ld.xb h rfl ?_ | with_reducible refine Ld.xt h rfl ?_ | with_reducible refine LdS.xb (fun _ h => h) rfl ?_ | with_reducible refine LdS.xt (fun _ h => h) rfl ?_ | with_reducible refine And.intro h.hb ?_ | with_reducible refine StC.xw h rfl rfl (fun w h => ?_) | (with_reducible refine StC.xs h rfl rfl (fun w h => ?_); dsimp only [spl, over] at h) | (with_reducible refine St.xs h rfl rfl (fun w h => ?_); dsimp only [spl, over] at h) | with_reducible refine IfB.ntt ?_ | with_reducible refine IfB.nff ?_ | with_reducible refine IfB.t rfl ?_ | with_reducible refine IfB.f rfl ?_ | with_reducible refine IfB.dt (by omega) ?_ | with_reducible refine IfB.df (by omega) ?_ | with_reducible refine IfB.ndt (by omega) ?_ | with_reducible refine IfB.ndf (by omega) ?_ | with_reducible refine IfB.et (by omega) ?_ | with_reducible refine IfB.ef (by omega) ?_ | with_reducible refine IfB.nt (by omega) ?_ | with_reducible refine IfB.nf (by omega) ?_ | with_reducible refine And.intro (by first | omega | decide) ?_))
      exact k4 242 _ _ (by unfold mstep; simp [hg]) rfl h.tl
  · cases d
    · have := hk rfl
      subst this
      (repeat (first | with_reducible refine Nw.mk h (fun b w h => ?_) | with_reducible refine Drw.mk h (fun w h => ?_) | with_reducible refine Ld.xb h rfl ?_ | with_reducible refine Ld.xt h rfl ?_ | with_reducible refine LdS.xb (fun _ h => h) rfl ?_ | with_reducible refine LdS.xt (fun _ h => h) rfl ?_ | with_reducible refine And.intro h.hb ?_ | with_reducible refine StC.xw h rfl rfl (fun w h => ?_) | (with_reducible refine StC.xs h rfl rfl (fun w h => ?_); dsimp only [spl, over] at h) | (with_reducible refine St.xs h rfl rfl (fun w h => ?_); dsimp only [spl, over] at h) | with_reducible refine IfB.ntt ?_ | with_reducible refine IfB.nff ?_ | with_reducible refine IfB.t rfl ?_ | with_reducible refine IfB.f rfl ?_ | with_reducible refine IfB.dt (by omega) ?_ | with_reducible refine IfB.df (by omega) ?_ | with_reducible refine IfB.ndt (by omega) ?_ | with_reducible refine IfB.ndf (by omega) ?_ | with_reducible refine IfB.et (by omega) ?_ | with_reducible refine IfB.ef (by omega) ?_ | with_reducible refine IfB.nt (by omega) ?_ | with_reducible refine IfB.nf (by omega) ?_ | with_reducible refine And.intro (by first | omega | decide) ?_))
      exact k1 ⟨1, m, 0, 0, 0, 0⟩ _ (by unfold mstep; simp [hg]) (by dsimp only; decide) (by dsimp only; decide) h.tl
    · (repeat (first | with_reducible refine Nw.mk h (fun b w h => ?_) | with_reducible refine Drw.mk h (fun w h => ?_) | with_reducible refine Ld.xb h rfl ?_ | with_reducible refine Ld.xt h rfl ?_ | with_reducible refine LdS.xb (fun _ h => h) rfl ?_ | with_reducible refine LdS.xt (fun _ h => h) rfl ?_ | with_reducible refine And.intro h.hb ?_ | with_reducible refine StC.xw h rfl rfl (fun w h => ?_) | (with_reducible refine StC.xs h rfl rfl (fun w h => ?_); dsimp only [spl, over] at h) | (with_reducible refine St.xs h rfl rfl (fun w h => ?_); dsimp only [spl, over] at h) | with_reducible refine IfB.ntt ?_ | with_reducible refine IfB.nff ?_ | with_reducible refine IfB.t rfl ?_ | with_reducible refine IfB.f rfl ?_ | with_reducible refine IfB.dt (by omega) ?_ | with_reducible refine IfB.df (by omega) ?_ | with_reducible refine IfB.ndt (by omega) ?_ | with_reducible refine IfB.ndf (by omega) ?_ | with_reducible refine IfB.et (by omega) ?_ | with_reducible refine IfB.ef (by omega) ?_ | with_reducible refine IfB.nt (by omega) ?_ | with_reducible refine IfB.nf (by omega) ?_ | with_reducible refine And.intro (by first | omega | decide) ?_))
      exact k1 ⟨2, 0, m, 0, 0, 0⟩ _ (by unfold mstep; simp [hg]) (by dsimp only; decide) (by dsimp only; decide) h.tl
theorem index_c {n v M : Nat} {c : Nat} {K : MarkK → Bool → World → Prop} (h : Hp E w F) (hn : M ≤ 65536) (hv : v ≤ M) (hc : c < 256) (hK : MkR n ⟨2, v, M, 0, 0, 0⟩ c E F K) :
    Cl Try.prog [.st [.int .i64, .int .i64, .int .i64, .int .i64, .int .i64, .int .u32, .int .i64], kB] n_header_index ⟨[.int .i64 (n : Int), .agg ⟨[.int .i64 2, .int .i64 (v : Int), .int .i64 (vm v : Int), .int .i64 (M : Int), .int .i64 0, .int .u32 0, .int .i64 0]⟩, .int .u8 (c : Int)]⟩ w K := by
  obtain ⟨k1, _, _, k4⟩ := hK
  refine header_index.ok _ (2, (v : Int), (vm v : Int), (M : Int), 0, 0, 0, ()) _ _ _ ?_
  unfold header_index.E
  (try simp only [Join_eq, NilCk_some, add_mk, Nat.zero_add, Nat.add_zero, Nat.reduceAdd, Bool.not_true, Bool.not_false, IfB_t, IfB_f, Option.isNone])
  (repeat (first | with_reducible refine Nw.mk h (fun b w h => ?_) | with_reducible refine Drw.mk h (fun w h => ?_) | with_reducible refine Ld.xb h rfl ?_ | with_reducible refine Ld.xt h rfl ?_ | with_reducible refine LdS.xb (fun _ h => h) rfl ?_ | with_reducible refine LdS.xt (fun _ h => h) rfl ?_ | with_reducible refine And.intro h.hb ?_ | with_reducible refine StC.xw h rfl rfl (fun w h => ?_) | (with_reducible refine StC.xs h rfl rfl (fun w h => ?_); dsimp only [spl, over] at h) | (with_reducible refine St.xs h rfl rfl (fun w h => ?_); dsimp only [spl, over] at h) | with_reducible refine IfB.ntt ?_ | with_reducible refine IfB.nff ?_ | with_reducible refine IfB.t rfl ?_ | with_reducible refine IfB.f rfl ?_ | with_reducible refine IfB.dt (by omega) ?_ | with_reducible refine IfB.df (by omega) ?_ | with_reducible refine IfB.ndt (by omega) ?_ | with_reducible refine IfB.ndf (by omega) ?_ | with_reducible refine IfB.et (by omega) ?_ | with_reducible refine IfB.ef (by omega) ?_ | with_reducible refine IfB.nt (by omega) ?_ | with_reducible refine IfB.nf (by omega) ?_ | with_reducible refine And.intro (by first | omega | decide) ?_))
  refine grow_c h hv hn hc (fun hg o d w h => ?_) (fun m d hg k w hk h => ?_)
  · (repeat (first | with_reducible refine Nw.mk h (fun b w h => ?_) | with_reducible refine Drw.mk h (fun w h => ?_) | with_reducible refine Ld.xb h rfl ?_ | with_reducible refine Ld.xt h rfl ?_ | with_reducible refine LdS.xb (fun _ h => h) rfl ?_ | with_reducible refine LdS.xt (fun _ h => h) rfl ?_ | with_reducible refine And.intro h.hb ?_ | with_reducible refine StC.xw h rfl rfl (fun w h => ?_) | (with_reducible refine StC.xs h rfl rfl (fun w h => ?_); dsimp only [spl, over] at h) | (with_reducible refine St.xs h rfl rfl (fun w h => ?_); dsimp only [spl, over] at h) | with_reducible refine IfB.ntt ?_ | with_reducible refine IfB.nff ?_ | with_reducible refine IfB.t rfl ?_ | with_reducible refine IfB.f rfl ?_ | with_reducible refine IfB.dt (by omega) ?_ | with_reducible refine IfB.df (by omega) ?_ | with_reducible refine IfB.ndt (by omega) ?_ | with_reducible refine IfB.ndf (by omega) ?_ | with_reducible refine IfB.et (by omega) ?_ | with_reducible refine IfB.ef (by omega) ?_ | with_reducible refine IfB.nt (by omega) ?_ | with_reducible refine IfB.nf (by omega) ?_ | with_reducible refine And.intro (by first | omega | decide) ?_))
    cases d
    · (repeat (first | with_reducible refine Nw.mk h (fun b w h => ?_) | with_reducible refine Drw.mk h (fun w h => ?_) | with_reducible refine Ld.xb h rfl ?_ | with_reducible refine Ld.xt h rfl ?_ | with_reducible refine LdS.xb (fun _ h => h) rfl ?_ | with_reducible refine LdS.xt (fun _ h => h) rfl ?_ | with_reducible refine And.intro h.hb ?_ | with_reducible refine StC.xw h rfl rfl (fun w h => ?_) | (with_reducible refine StC.xs h rfl rfl (fun w h => ?_); dsimp only [spl, over] at h) | (with_reducible refine St.xs h rfl rfl (fun w h => ?_); dsimp only [spl, over] at h) | with_reducible refine IfB.ntt ?_ | with_reducible refine IfB.nff ?_ | with_reducible refine IfB.t rfl ?_ | with_reducible refine IfB.f rfl ?_ | with_reducible refine IfB.dt (by omega) ?_ | with_reducible refine IfB.df (by omega) ?_ | with_reducible refine IfB.ndt (by omega) ?_ | with_reducible refine IfB.ndf (by omega) ?_ | with_reducible refine IfB.et (by omega) ?_ | with_reducible refine IfB.ef (by omega) ?_ | with_reducible refine IfB.nt (by omega) ?_ | with_reducible refine IfB.nf (by omega) ?_ | with_reducible refine And.intro (by first | omega | decide) ?_))
      exact k4 242 _ _ (by unfold mstep; simp [hg]) rfl h.tl
    · (repeat (first | with_reducible refine Nw.mk h (fun b w h => ?_) | with_reducible refine Drw.mk h (fun w h => ?_) | with_reducible refine Ld.xb h rfl ?_ | with_reducible refine Ld.xt h rfl ?_ | with_reducible refine LdS.xb (fun _ h => h) rfl ?_ | with_reducible refine LdS.xt (fun _ h => h) rfl ?_ | with_reducible refine And.intro h.hb ?_ | with_reducible refine StC.xw h rfl rfl (fun w h => ?_) | (with_reducible refine StC.xs h rfl rfl (fun w h => ?_); dsimp only [spl, over] at h) | (with_reducible refine St.xs h rfl rfl (fun w h => ?_); dsimp only [spl, over] at h) | with_reducible refine IfB.ntt ?_ | with_reducible refine IfB.nff ?_ | with_reducible refine IfB.t rfl ?_ | with_reducible refine IfB.f rfl ?_ | with_reducible refine IfB.dt (by omega) ?_ | with_reducible refine IfB.df (by omega) ?_ | with_reducible refine IfB.ndt (by omega) ?_ | with_reducible refine IfB.ndf (by omega) ?_ | with_reducible refine IfB.et (by omega) ?_ | with_reducible refine IfB.ef (by omega) ?_ | with_reducible refine IfB.nt (by omega) ?_ | with_reducible refine IfB.nf (by omega) ?_ | with_reducible refine And.intro (by first | omega | decide) ?_))
      exact k4 242 _ _ (by unfold mstep; simp [hg]) rfl h.tl
  · cases d
    · have := hk rfl
      subst this
      (repeat (first | with_reducible refine Nw.mk h (fun b w h => ?_) | with_reducible refine Drw.mk h (fun w h => ?_) | with_reducible refine Ld.xb h rfl ?_ | with_reducible refine Ld.xt h rfl ?_ | with_reducible refine LdS.xb (fun _ h => h) rfl ?_ | with_reducible refine LdS.xt (fun _ h => h) rfl ?_ | with_reducible refine And.intro h.hb ?_ | with_reducible refine StC.xw h rfl rfl (fun w h => ?_) | (with_reducible refine StC.xs h rfl rfl (fun w h => ?_); dsimp only [spl, over] at h) | (with_reducible refine St.xs h rfl rfl (fun w h => ?_); dsimp only [spl, over] at h) | with_reducible refine IfB.ntt ?_ | with_reducible refine IfB.nff ?_ | with_reducible refine IfB.t rfl ?_ | with_reducible refine IfB.f rfl ?_ | with_reducible refine IfB.dt (by omega) ?_ | with_reducible refine IfB.df (by omega) ?_ | with_reducible refine IfB.ndt (by omega) ?_ | with_reducible refine IfB.ndf (by omega) ?_ | with_reducible refine IfB.et (by omega) ?_ | with_reducible refine IfB.ef (by omega) ?_ | with_reducible refine IfB.nt (by omega) ?_ | with_reducible refine IfB.nf (by omega) ?_ | with_reducible refine And.intro (by first | omega | decide) ?_))
      exact k1 ⟨2, m, M, 0, 0, 0⟩ _ (by unfold mstep; simp [hg]) (by dsimp only; decide) (by dsimp only; decide) h.tl
    · (repeat (first | with_reducible refine Nw.mk h (fun b w h => ?_) | with_reducible refine Drw.mk h (fun w h => ?_) | with_reducible refine Ld.xb h rfl ?_ | with_reducible refine Ld.xt h rfl ?_ | with_reducible refine LdS.xb (fun _ h => h) rfl ?_ | with_reducible refine LdS.xt (fun _ h => h) rfl ?_ | with_reducible refine And.intro h.hb ?_ | with_reducible refine StC.xw h rfl rfl (fun w h => ?_) | (with_reducible refine StC.xs h rfl rfl (fun w h => ?_); dsimp only [spl, over] at h) | (with_reducible refine St.xs h rfl rfl (fun w h => ?_); dsimp only [spl, over] at h) | with_reducible refine IfB.ntt ?_ | with_reducible refine IfB.nff ?_ | with_reducible refine IfB.t rfl ?_ | with_reducible refine IfB.f rfl ?_ | with_reducible refine IfB.dt (by omega) ?_ | with_reducible refine IfB.df (by omega) ?_ | with_reducible refine IfB.ndt (by omega) ?_ | with_reducible refine IfB.ndf (by omega) ?_ | with_reducible refine IfB.et (by omega) ?_ | with_reducible refine IfB.ef (by omega) ?_ | with_reducible refine IfB.nt (by omega) ?_ | with_reducible refine IfB.nf (by omega) ?_ | with_reducible refine And.intro (by first | omega | decide) ?_))
      exact k1 ⟨3, 0, M, m, 0, 0⟩ _ (by unfold mstep; simp [hg]) (by dsimp only; decide) (by dsimp only; decide) h.tl
theorem sum_c {n a M P sum many : Nat} {c : Nat} {K : MarkK → Bool → World → Prop} (h : Hp E w F) (ha : a = 3 ∨ (a = 5 ∧ M = 0 ∧ P = 0)) (hm : many ≤ 3) (hs : sum < 256 ^ many) (hc : c < 256) (hK : MkR n ⟨a, 0, M, P, sum, many⟩ c E F K) :
    Cl Try.prog [.st [.int .i64, .int .i64, .int .i64, .int .i64, .int .i64, .int .u32, .int .i64], kB] n_header_sum ⟨[.int .i64 (n : Int), .agg ⟨[.int .i64 (a : Int), .int .i64 0, .int .i64 0, .int .i64 (M : Int), .int .i64 (P : Int), .int .u32 (sum : Int), .int .i64 (many : Int)]⟩, .int .u8 (c : Int)]⟩ w K := by
  obtain ⟨k1, k2, k3, k4⟩ := hK
  have hs2 : sum < 16777216 := by
    have : 256 ^ many ≤ 256 ^ 3 := Nat.pow_le_pow_right (by decide) hm
    omega
  refine header_sum.ok _ ((a : Int), 0, 0, (M : Int), (P : Int), (sum : Int), (many : Int), ()) _ _ _ ?_
  unfold header_sum.E
  (try simp only [Join_eq, NilCk_some, add_mk, Nat.zero_add, Nat.add_zero, Nat.reduceAdd, Bool.not_true, Bool.not_false, IfB_t, IfB_f, Option.isNone])
  (repeat (first | with_reducible refine Nw.mk h (fun b w h => ?_) | with_reducible refine Drw.mk h (fun w h => ?_) | with_reducible refine Ld.xb h rfl ?_ | with_reducible refine Ld.xt h rfl ?_ | with_reducible refine LdS.xb (fun _ h => h) rfl ?_ | with_reducible refine LdS.xt (fun _ h => h) rfl ?_ | with_reducible refine And.intro h.hb ?_ | with_reducible refine StC.xw h rfl rfl (fun w h => ?_) | (with_reducible refine StC.xs h rfl rfl (fun w h => ?_); dsimp only [spl, over] at h) | (with_reducible refine St.xs h rfl rfl (fun w h => ?_); dsimp only [spl, over] at h) | with_reducible refine IfB.ntt ?_ | with_reducible refine IfB.nff ?_ | with_reducible refine IfB.t rfl ?_ | with_reducible refine IfB.f rfl ?_ | with_reducible refine IfB.dt (by omega) ?_ | with_reducible refine IfB.df (by omega) ?_ | with_reducible refine IfB.ndt (by omega) ?_ | with_reducible refine IfB.ndf (by omega) ?_ | with_reducible refine IfB.et (by omega) ?_ | with_reducible refine IfB.ef (by omega) ?_ | with_reducible refine IfB.nt (by omega) ?_ | with_reducible refine IfB.nf (by omega) ?_ | with_reducible refine And.intro (by first | omega | decide) ?_))
  rw [i64_id (x := (many : Int) + 1) (by omega)] at h ⊢
  rw [or256 hs2 hc] at h
  by_cases hm3 : many = 3
  · subst hm3
    (repeat (first | with_reducible refine Nw.mk h (fun b w h => ?_) | with_reducible refine Drw.mk h (fun w h => ?_) | with_reducible refine Ld.xb h rfl ?_ | with_reducible refine Ld.xt h rfl ?_ | with_reducible refine LdS.xb (fun _ h => h) rfl ?_ | with_reducible refine LdS.xt (fun _ h => h) rfl ?_ | with_reducible refine And.intro h.hb ?_ | with_reducible refine StC.xw h rfl rfl (fun w h => ?_) | (with_reducible refine StC.xs h rfl rfl (fun w h => ?_); dsimp only [spl, over] at h) | (with_reducible refine St.xs h rfl rfl (fun w h => ?_); dsimp only [spl, over] at h) | with_reducible refine IfB.ntt ?_ | with_reducible refine IfB.nff ?_ | with_reducible refine IfB.t rfl ?_ | with_reducible refine IfB.f rfl ?_ | with_reducible refine IfB.dt (by omega) ?_ | with_reducible refine IfB.df (by omega) ?_ | with_reducible refine IfB.ndt (by omega) ?_ | with_reducible refine IfB.ndf (by omega) ?_ | with_reducible refine IfB.et (by omega) ?_ | with_reducible refine IfB.ef (by omega) ?_ | with_reducible refine IfB.nt (by omega) ?_ | with_reducible refine IfB.nf (by omega) ?_ | with_reducible refine And.intro (by first | omega | decide) ?_))
    rw [i64_id (by omega)] at h ⊢
    rcases ha with rfl | ⟨rfl, rfl, rfl⟩
    · exact k2 M P (256 * sum + c) _ (by unfold mstep; simp) h.tl
    · exact k3 (256 * sum + c) _ (by unfold mstep; simp) h.tl
  · (repeat (first | with_reducible refine Nw.mk h (fun b w h => ?_) | with_reducible refine Drw.mk h (fun w h => ?_) | with_reducible refine Ld.xb h rfl ?_ | with_reducible refine Ld.xt h rfl ?_ | with_reducible refine LdS.xb (fun _ h => h) rfl ?_ | with_reducible refine LdS.xt (fun _ h => h) rfl ?_ | with_reducible refine And.intro h.hb ?_ | with_reducible refine StC.xw h rfl rfl (fun w h => ?_) | (with_reducible refine StC.xs h rfl rfl (fun w h => ?_); dsimp only [spl, over] at h) | (with_reducible refine St.xs h rfl rfl (fun w h => ?_); dsimp only [spl, over] at h) | with_reducible refine IfB.ntt ?_ | with_reducible refine IfB.nff ?_ | with_reducible refine IfB.t rfl ?_ | with_reducible refine IfB.f rfl ?_ | with_reducible refine IfB.dt (by omega) ?_ | with_reducible refine IfB.df (by omega) ?_ | with_reducible refine IfB.ndt (by omega) ?_ | with_reducible refine IfB.ndf (by omega) ?_ | with_reducible refine IfB.et (by omega) ?_ | with_reducible refine IfB.ef (by omega) ?_ | with_reducible refine IfB.nt (by omega) ?_ | with_reducible refine IfB.nf (by omega) ?_ | with_reducible refine And.intro (by first | omega | decide) ?_))
    refine k1 ⟨a, 0, M, P, 256 * sum + c, many + 1⟩ _ ?_ ?_ ?_ h.tl
    · unfold mstep
      rcases ha with rfl | ⟨rfl, rfl, rfl⟩ <;> simp [hm3]
    · dsimp only; omega
    · dsimp only; omega
theorem und98 : Try.prog.underlying 98 = some (.map 3 99) := by kernel_rfl
theorem zero_part (w : World) : (zeroValue 99).run Try.prog w = .ok .nilFunc w := by kernel_rfl
set_option maxRecDepth 20000
abbrev fv (i : Nat) : Value := .func (.func i) ⟨[]⟩ ⟨[]⟩
theorem mstep_c {n : Nat} {m : MS} {c : Nat} {K : MarkK → Bool → Int → World → Prop} (h : Hp E w F) (hn : 1 ≤ n) (hn2 : n ≤ 65536) (hm : MsOk n m) (hc : c < 256)
    (hmore : ∀ m' w', mstep n m c = .more m' → Hp E w' F → K (msT m') false 0 w')
    (hblk : ∀ M P u w', mstep n m c = .fin (.blk M P u) → Hp E w' F → K (4, 0, 0, (M : Int), (P : Int), (u : Int), 4, ()) true 0 w')
    (htail : ∀ u w', mstep n m c = .fin (.tail u) → Hp E w' F → K (6, 0, 0, 0, 0, (u : Int), 4, ()) true 0 w')
    (hbad : ∀ e o w', mstep n m c = .bad e → Hp E w' F → K o false (e : Int) w') :
    Cl Try.prog [.st [.int .i64, .int .i64, .int .i64, .int .i64, .int .i64, .int .u32, .int .i64], kB, kI] n_header_StepMark ⟨[.int .i64 (n : Int), .agg ⟨[.int .i64 (m.at_ : Int), .int .i64 (m.v : Int), .int .i64 (vm m.v : Int), .int .i64 (m.M : Int), .int .i64 (m.P : Int), .int .u32 (m.sum : Int), .int .i64 (m.many : Int)]⟩, .int .u8 (c : Int)]⟩ w K := by
  have main : ∀ (q : Nat) (i : Nat), findAt (m.at_ : Int) [((0 : Int), fv n_header_mark), (1, fv n_header_many), (2, fv n_header_index), (3, fv n_header_sum), (5, fv n_header_sum)] 0 = some (q, fv i) → okCall Try.prog i = true →
      (∀ (F' : List HP) (w : World) (K' : MarkK → Bool → World → Prop), Hp E w F' → MkR n m c E F' K' → Cl Try.prog [.st [.int .i64, .int .i64, .int .i64, .int .i64, .int .i64, .int .u32, .int .i64], kB] i ⟨[.int .i64 (n : Int), .agg ⟨[.int .i64 (m.at_ : Int), .int .i64 (m.v : Int), .int .i64 (vm m.v : Int), .int .i64 (m.M : Int), .int .i64 (m.P : Int), .int .u32 (m.sum : Int), .int .i64 (m.many : Int)]⟩, .int .u8 (c : Int)]⟩ w K') →
      Cl Try.prog [.st [.int .i64, .int .i64, .int .i64, .int .i64, .int .i64, .int .u32, .int .i64], kB, kI] n_header_StepMark ⟨[.int .i64 (n : Int), .agg ⟨[.int .i64 (m.at_ : Int), .int .i64 (m.v : Int), .int .i64 (vm m.v : Int), .int .i64 (m.M : Int), .int .i64 (m.P : Int), .int .u32 (m.sum : Int), .int .i64 (m.many : Int)]⟩, .int .u8 (c : Int)]⟩ w K := by
    intro q i hq hok hcall
    refine header_StepMark.ok _ (msT m) _ _ _ ?_
    unfold header_StepMark.E
    (try simp only [Join_eq, NilCk_some, add_mk, Nat.zero_add, Nat.add_zero, Nat.reduceAdd, Bool.not_true, Bool.not_false, IfB_t, IfB_f, Option.isNone])
    refine Nw.mk h fun b5 w h => Nw.mk h fun b7 w h => ?_
    refine run_makeMap (ke := fun n : Int => Value.int .i64 n) (ve := fun v : Value => v) h fun mp w h => ?_
    refine run_mapUpdate (ke := fun n : Int => Value.int .i64 n) (ve := fun v : Value => v) (l := _) keyOk_I und98 (a := 0) (b := fv n_header_mark) h fun w h => ?_
    refine run_mapUpdate (ke := fun n : Int => Value.int .i64 n) (ve := fun v : Value => v) (l := _) keyOk_I und98 (a := 1) (b := fv n_header_many) h fun w h => ?_
    refine run_mapUpdate (ke := fun n : Int => Value.int .i64 n) (ve := fun v : Value => v) (l := _) keyOk_I und98 (a := 2) (b := fv n_header_index) h fun w h => ?_
    refine run_mapUpdate (ke := fun n : Int => Value.int .i64 n) (ve := fun v : Value => v) (l := _) keyOk_I und98 (a := 3) (b := fv n_header_sum) h fun w h => ?_
    refine run_mapUpdate (ke := fun n : Int => Value.int .i64 n) (ve := fun v : Value => v) (l := _) keyOk_I und98 (a := 5) (b := fv n_header_sum) h fun w h => ?_
    rw [show updAt (5 : Int) (fv n_header_sum) (updAt 3 (fv n_header_sum) (updAt 2 (fv n_header_index) (updAt 1 (fv n_header_many) (updAt 0 (fv n_header_mark) []))))
      = [((0 : Int), fv n_header_mark), (1, fv n_header_many), (2, fv n_header_index), (3, fv n_header_sum), (5, fv n_header_sum)] from rfl] at h
    (repeat (first | with_reducible refine Nw.mk h (fun b w h => ?_) | with_reducible refine Drw.mk h (fun w h => ?_) | with_reducible refine Ld.xb h rfl ?_ | with_reducible refine Ld.xt h rfl ?_ | with_reducible refine LdS.xb (fun _ h => h) rfl ?_ | with_reducible refine LdS.xt (fun _ h => h) rfl ?_ | with_reducible refine And.intro h.hb ?_ | with_reducible refine StC.xw h rfl rfl (fun w h => ?_) | (with_reducible refine StC.xs h rfl rfl (fun w h => ?_); dsimp only [spl, over] at h) | (with_reducible refine St.xs h rfl rfl (fun w h => ?_); dsimp only [spl, over] at h) | with_reducible refine IfB.ntt ?_ | with_reducible refine IfB.nff ?_ | with_reducible refine IfB.t rfl ?_ | with_reducible refine IfB.f rfl ?_ | with_reducible refine IfB.dt (by omega) ?_ | with_reducible refine IfB.df (by omega) ?_ | with_reducible refine IfB.ndt (by omega) ?_ | with_reducible refine IfB.ndf (by omega) ?_ | with_reducible refine IfB.et (by omega) ?_ | with_reducible refine IfB.ef (by omega) ?_ | with_reducible refine IfB.nt (by omega) ?_ | with_reducible refine IfB.nf (by omega) ?_ | with_reducible refine And.intro (by first | omega | decide) ?_))
    refine Run.found (ke := fun n : Int => Value.int .i64 n) (ve := fun v : Value => v) keyOk_I und98 (a := (m.at_ : Int)) (x := fv i) zero_part h hq rfl ?_
    refine FnNil.fn ?_
    have h := h.drop
    (repeat (first | with_reducible refine Nw.mk h (fun b w h => ?_) | with_reducible refine Drw.mk h (fun w h => ?_) | with_reducible refine Ld.xb h rfl ?_ | with_reducible refine Ld.xt h rfl ?_ | with_reducible refine LdS.xb (fun _ h => h) rfl ?_ | with_reducible refine LdS.xt (fun _ h => h) rfl ?_ | with_reducible refine And.intro h.hb ?_ | with_reducible refine StC.xw h rfl rfl (fun w h => ?_) | (with_reducible refine StC.xs h rfl rfl (fun w h => ?_); dsimp only [spl, over] at h) | (with_reducible refine St.xs h rfl rfl (fun w h => ?_); dsimp only [spl, over] at h) | with_reducible refine IfB.ntt ?_ | with_reducible refine IfB.nff ?_ | with_reducible refine IfB.t rfl ?_ | with_reducible refine IfB.f rfl ?_ | with_reducible refine IfB.dt (by omega) ?_ | with_reducible refine IfB.df (by omega) ?_ | with_reducible refine IfB.ndt (by omega) ?_ | with_reducible refine IfB.ndf (by omega) ?_ | with_reducible refine IfB.et (by omega) ?_ | with_reducible refine IfB.ef (by omega) ?_ | with_reducible refine IfB.nt (by omega) ?_ | with_reducible refine IfB.nf (by omega) ?_ | with_reducible refine And.intro (by first | omega | decide) ?_))
    refine mvalid_c h hn hn2 hm fun w h => ?_
    (repeat (first | with_reducible refine Nw.mk h (fun b w h => ?_) | with_reducible refine Drw.mk h (fun w h => ?_) | with_reducible refine Ld.xb h rfl ?_ | with_reducible refine Ld.xt h rfl ?_ | with_reducible refine LdS.xb (fun _ h => h) rfl ?_ | with_reducible refine LdS.xt (fun _ h => h) rfl ?_ | with_reducible refine And.intro h.hb ?_ | with_reducible refine StC.xw h rfl rfl (fun w h => ?_) | (with_reducible refine StC.xs h rfl rfl (fun w h => ?_); dsimp only [spl, over] at h) | (with_reducible refine St.xs h rfl rfl (fun w h => ?_); dsimp only [spl, over] at h) | with_reducible refine IfB.ntt ?_ | with_reducible refine IfB.nff ?_ | with_reducible refine IfB.t rfl ?_ | with_reducible refine IfB.f rfl ?_ | with_reducible refine IfB.dt (by omega) ?_ | with_reducible refine IfB.df (by omega) ?_ | with_reducible refine IfB.ndt (by omega) ?_ | with_reducible refine IfB.ndf (by omega) ?_ | with_reducible refine IfB.et (by omega) ?_ | with_reducible refine IfB.ef (by omega) ?_ | with_reducible refine IfB.nt (by omega) ?_ | with_reducible refine IfB.nf (by omega) ?_ | with_reducible refine And.intro (by first | omega | decide) ?_))
    refine ClX.mk hok (hcall _ _ _ h ⟨fun m' w h1 h2 h3 h => ?_, fun M P u w h1 h => ?_, fun u w h1 h => ?_, fun e o w h1 h2 h => ?_⟩)
    · (repeat (first | with_reducible refine Nw.mk h (fun b w h => ?_) | with_reducible refine Drw.mk h (fun w h => ?_) | with_reducible refine Ld.xb h rfl ?_ | with_reducible refine Ld.xt h rfl ?_ | with_reducible refine LdS.xb (fun _ h => h) rfl ?_ | with_reducible refine LdS.xt (fun _ h => h) rfl ?_ | with_reducible refine And.intro h.hb ?_ | with_reducible refine StC.xw h rfl rfl (fun w h => ?_) | (with_reducible refine StC.xs h rfl rfl (fun w h => ?_); dsimp only [spl, over] at h) | (with_reducible refine St.xs h rfl rfl (fun w h => ?_); dsimp only [spl, over] at h) | with_reducible refine IfB.ntt ?_ | with_reducible refine IfB.nff ?_ | with_reducible refine IfB.t rfl ?_ | with_reducible refine IfB.f rfl ?_ | with_reducible refine IfB.dt (by omega) ?_ | with_reducible refine IfB.df (by omega) ?_ | with_reducible refine IfB.ndt (by omega) ?_ | with_reducible refine IfB.ndf (by omega) ?_ | with_reducible refine IfB.et (by omega) ?_ | with_reducible refine IfB.ef (by omega) ?_ | with_reducible refine IfB.nt (by omega) ?_ | with_reducible refine IfB.nf (by omega) ?_ | with_reducible refine And.intro (by first | omega | decide) ?_))
      have h := h.drew (n := w.drawn + 1)
      refine ⟨HoldB b5 _ _ _, h.hb, ?_⟩
      (repeat (first | with_reducible refine Nw.mk h (fun b w h => ?_) | with_reducible refine Drw.mk h (fun w h => ?_) | with_reducible refine Ld.xb h rfl ?_ | with_reducible refine Ld.xt h rfl ?_ | with_reducible refine LdS.xb (fun _ h => h) rfl ?_ | with_reducible refine LdS.xt (fun _ h => h) rfl ?_ | with_reducible refine And.intro h.hb ?_ | with_reducible refine StC.xw h rfl rfl (fun w h => ?_) | (with_reducible refine StC.xs h rfl rfl (fun w h => ?_); dsimp only [spl, over] at h) | (with_reducible refine St.xs h rfl rfl (fun w h => ?_); dsimp only [spl, over] at h) | with_reducible refine IfB.ntt ?_ | with_reducible refine IfB.nff ?_ | with_reducible refine IfB.t rfl ?_ | with_reducible refine IfB.f rfl ?_ | with_reducible refine IfB.dt (by omega) ?_ | with_reducible refine IfB.df (by omega) ?_ | with_reducible refine IfB.ndt (by omega) ?_ | with_reducible refine IfB.ndf (by omega) ?_ | with_reducible refine IfB.et (by omega) ?_ | with_reducible refine IfB.ef (by omega) ?_ | with_reducible refine IfB.nt (by omega) ?_ | with_reducible refine IfB.nf (by omega) ?_ | with_reducible refine And.intro (by first | omega | decide) ?_))
      refine IfB.ef (show ¬ (m'.at_ : Int) = 4 by omega) ?_
      (repeat (first | with_reducible refine Nw.mk h (fun b w h => ?_) | with_reducible refine Drw.mk h (fun w h => ?_) | with_reducible refine Ld.xb h rfl ?_ | with_reducible refine Ld.xt h rfl ?_ | with_reducible refine LdS.xb (fun _ h => h) rfl ?_ | with_reducible refine LdS.xt (fun _ h => h) rfl ?_ | with_reducible refine And.intro h.hb ?_ | with_reducible refine StC.xw h rfl rfl (fun w h => ?_) | (with_reducible refine StC.xs h rfl rfl (fun w h => ?_); dsimp only [spl, over] at h) | (with_reducible refine St.xs h rfl rfl (fun w h => ?_); dsimp only [spl, over] at h) | with_reducible refine IfB.ntt ?_ | with_reducible refine IfB.nff ?_ | with_reducible refine IfB.t rfl ?_ | with_reducible refine IfB.f rfl ?_ | with_reducible refine IfB.dt (by omega) ?_ | with_reducible refine IfB.df (by omega) ?_ | with_reducible refine IfB.ndt (by omega) ?_ | with_reducible refine IfB.ndf (by omega) ?_ | with_reducible refine IfB.et (by omega) ?_ | with_reducible refine IfB.ef (by omega) ?_ | with_reducible refine IfB.nt (by omega) ?_ | with_reducible refine IfB.nf (by omega) ?_ | with_reducible refine And.intro (by first | omega | decide) ?_))
      have e6 : ((m'.at_ : Int) == 6) = false := beq_eq_false_iff_ne.2 (by omega)
      have h6 := hmore m' _ h1 h.tl
      rw [← e6] at h6
      exact h6
    · (repeat (first | with_reducible refine Nw.mk h (fun b w h => ?_) | with_reducible refine Drw.mk h (fun w h => ?_) | with_reducible refine Ld.xb h rfl ?_ | with_reducible refine Ld.xt h rfl ?_ | with_reducible refine LdS.xb (fun _ h => h) rfl ?_ | with_reducible refine LdS.xt (fun _ h => h) rfl ?_ | with_reducible refine And.intro h.hb ?_ | with_reducible refine StC.xw h rfl rfl (fun w h => ?_) | (with_reducible refine StC.xs h rfl rfl (fun w h => ?_); dsimp only [spl, over] at h) | (with_reducible refine St.xs h rfl rfl (fun w h => ?_); dsimp only [spl, over] at h) | with_reducible refine IfB.ntt ?_ | with_reducible refine IfB.nff ?_ | with_reducible refine IfB.t rfl ?_ | with_reducible refine IfB.f rfl ?_ | with_reducible refine IfB.dt (by omega) ?_ | with_reducible refine IfB.df (by omega) ?_ | with_reducible refine IfB.ndt (by omega) ?_ | with_reducible refine IfB.ndf (by omega) ?_ | with_reducible refine IfB.et (by omega) ?_ | with_reducible refine IfB.ef (by omega) ?_ | with_reducible refine IfB.nt (by omega) ?_ | with_reducible refine IfB.nf (by omega) ?_ | with_reducible refine And.intro (by first | omega | decide) ?_))
      have h := h.drew (n := w.drawn + 1)
      refine ⟨HoldB b5 _ _ _, h.hb, ?_⟩
      (repeat (first | with_reducible refine Nw.mk h (fun b w h => ?_) | with_reducible refine Drw.mk h (fun w h => ?_) | with_reducible refine Ld.xb h rfl ?_ | with_reducible refine Ld.xt h rfl ?_ | with_reducible refine LdS.xb (fun _ h => h) rfl ?_ | with_reducible refine LdS.xt (fun _ h => h) rfl ?_ | with_reducible refine And.intro h.hb ?_ | with_reducible refine StC.xw h rfl rfl (fun w h => ?_) | (with_reducible refine StC.xs h rfl rfl (fun w h => ?_); dsimp only [spl, over] at h) | (with_reducible refine St.xs h rfl rfl (fun w h => ?_); dsimp only [spl, over] at h) | with_reducible refine IfB.ntt ?_ | with_reducible refine IfB.nff ?_ | with_reducible refine IfB.t rfl ?_ | with_reducible refine IfB.f rfl ?_ | with_reducible refine IfB.dt (by omega) ?_ | with_reducible refine IfB.df (by omega) ?_ | with_reducible refine IfB.ndt (by omega) ?_ | with_reducible refine IfB.ndf (by omega) ?_ | with_reducible refine IfB.et (by omega) ?_ | with_reducible refine IfB.ef (by omega) ?_ | with_reducible refine IfB.nt (by omega) ?_ | with_reducible refine IfB.nf (by omega) ?_ | with_reducible refine And.intro (by first | omega | decide) ?_))
      exact hblk M P u _ h1 h.tl
    · (repeat (first | with_reducible refine Nw.mk h (fun b w h => ?_) | with_reducible refine Drw.mk h (fun w h => ?_) | with_reducible refine Ld.xb h rfl ?_ | with_reducible refine Ld.xt h rfl ?_ | with_reducible refine LdS.xb (fun _ h => h) rfl ?_ | with_reducible refine LdS.xt (fun _ h => h) rfl ?_ | with_reducible refine And.intro h.hb ?_ | with_reducible refine StC.xw h rfl rfl (fun w h => ?_) | (with_reducible refine StC.xs h rfl rfl (fun w h => ?_); dsimp only [spl, over] at h) | (with_reducible refine St.xs h rfl rfl (fun w h => ?_); dsimp only [spl, over] at h) | with_reducible refine IfB.ntt ?_ | with_reducible refine IfB.nff ?_ | with_reducible refine IfB.t rfl ?_ | with_reducible refine IfB.f rfl ?_ | with_reducible refine IfB.dt (by omega) ?_ | with_reducible refine IfB.df (by omega) ?_ | with_reducible refine IfB.ndt (by omega) ?_ | with_reducible refine IfB.ndf (by omega) ?_ | with_reducible refine IfB.et (by omega) ?_ | with_reducible refine IfB.ef (by omega) ?_ | with_reducible refine IfB.nt (by omega) ?_ | with_reducible refine IfB.nf (by omega) ?_ | with_reducible refine And.intro (by first | omega | decide) ?_))
      have h := h.drew (n := w.drawn + 1)
      refine ⟨HoldB b5 _ _ _, h.hb, ?_⟩
      (repeat (first | with_reducible refine Nw.mk h (fun b w h => ?_) | with_reducible refine Drw.mk h (fun w h => ?_) | with_reducible refine Ld.xb h rfl ?_ | with_reducible refine Ld.xt h rfl ?_ | with_reducible refine LdS.xb (fun _ h => h) rfl ?_ | with_reducible refine LdS.xt (fun _ h => h) rfl ?_ | with_reducible refine And.intro h.hb ?_ | with_reducible refine StC.xw h rfl rfl (fun w h => ?_) | (with_reducible refine StC.xs h rfl rfl (fun w h => ?_); dsimp only [spl, over] at h) | (with_reducible refine St.xs h rfl rfl (fun w h => ?_); dsimp only [spl, over] at h) | with_reducible refine IfB.ntt ?_ | with_reducible refine IfB.nff ?_ | with_reducible refine IfB.t rfl ?_ | with_reducible refine IfB.f rfl ?_ | with_reducible refine IfB.dt (by omega) ?_ | with_reducible refine IfB.df (by omega) ?_ | with_reducible refine IfB.ndt (by omega) ?_ | with_reducible refine IfB.ndf (by omega) ?_ | with_reducible refine IfB.et (by omega) ?_ | with_reducible refine IfB.ef (by omega) ?_ | with_reducible refine IfB.nt (by omega) ?_ | with_reducible refine IfB.nf (by omega) ?_ | with_reducible refine And.intro (by first | omega | decide) ?_))
      exact htail u _ h1 h.tl
    · (repeat (first | with_reducible refine Nw.mk h (fun b w h => ?_) | with_reducible refine Drw.mk h (fun w h => ?_) | with_reducible refine Ld.xb h rfl ?_ | with_reducible refine Ld.xt h rfl ?_ | with_reducible refine LdS.xb (fun _ h => h) rfl ?_ | with_reducible refine LdS.xt (fun _ h => h) rfl ?_ | with_reducible refine And.intro h.hb ?_ | with_reducible refine StC.xw h rfl rfl (fun w h => ?_) | (with_reducible refine StC.xs h rfl rfl (fun w h => ?_); dsimp only [spl, over] at h) | (with_reducible refine St.xs h rfl rfl (fun w h => ?_); dsimp only [spl, over] at h) | with_reducible refine IfB.ntt ?_ | with_reducible refine IfB.nff ?_ | with_reducible refine IfB.t rfl ?_ | with_reducible refine IfB.f rfl ?_ | with_reducible refine IfB.dt (by omega) ?_ | with_reducible refine IfB.df (by omega) ?_ | with_reducible refine IfB.ndt (by omega) ?_ | with_reducible refine IfB.ndf (by omega) ?_ | with_reducible refine IfB.et (by omega) ?_ | with_reducible refine IfB.ef (by omega) ?_ | with_reducible refine IfB.nt (by omega) ?_ | with_reducible refine IfB.nf (by omega) ?_ | with_reducible refine And.intro (by first | omega | decide) ?_))
      subst h2
      exact hbad 242 _ _ h1 h.tl
  obtain ⟨at_, v, M, P, sum, many⟩ := m
  have hm0 := hm
  unfold MsOk at hm0
  dsimp only at hm0
  rcases hm0 with ⟨h1, h2⟩ | ⟨h1, h2, h3, h4, h5, h6⟩ | ⟨h1, h2, h3, h4, h5, h6, h7⟩ | ⟨h1, h2, h3, h4, h5, h6, h7, h8⟩ | ⟨h1, h2, h3, h4, h5, h6⟩
  · cases h2
    exact main 0 n_header_mark rfl (by kernel_rfl) fun F' w K' h hK => mark_c h hc hK
  · subst h1 h3 h4 h5 h6
    exact main 1 n_header_many rfl (by kernel_rfl) fun F' w K' h hK => many_c h hn2 h2 hc hK
  · subst h1 h5 h6 h7
    exact main 2 n_header_index rfl (by kernel_rfl) fun F' w K' h hK => index_c (M := M) h (by omega) h4 hc hK
  · subst h1 h6
    exact main 3 n_header_sum rfl (by kernel_rfl) fun F' w K' h hK => sum_c h (.inl rfl) h7 h8 hc hK
  · subst h1 h2 h3 h4
    exact main 4 n_header_sum rfl (by kernel_rfl) fun F' w K' h hK => sum_c h (.inr ⟨rfl, rfl, rfl⟩) h5 h6 hc hK
end
end Go.Proofs.Ytjnjjibmlalpiaa
/- Flengthtable -/
namespace Go.Proofs.Ytjnjjibmlalpiaa
open Go Go.Vc
set_option maxRecDepth 100000 in
/-- lengthtable.Step -/
def lengthtable_Step.E (c1 : (Array Value)) (bit2 : Int) (R : (Array Value) → Bool → Int → World → Prop) (w : World) : Prop :=
 Nw 60 c1 w fun (b4 : Nat) (w_3 : World) =>
 Nw 60 ⟨List.replicate 258 (.int .u8 0) ++ [(.int .i64 0), (.int .i64 0), (.int .i64 0), (.int .i64 0)]⟩ w_3 fun (b6 : Nat) (w_5 : World) =>
 Join (fun (w_21 : World) =>
 Ld (.arr 262) (⟨b4, 0, none⟩ : Addr) w_21 fun (x22 : (Array Value)) =>
 Cl Try.prog [(.arr 262), kB] n_lengthtable_next ⟨[(.agg x22), (.int .i64 bit2)]⟩ w_21 fun (r24 : (Array Value)) (r25 : Bool) (w_23 : World) =>
 StA 262 (⟨b4, 0, none⟩ : Addr) r24 w_23 fun (w_26 : World) =>
 IfB (!r25)
 (Ld (.arr 262) (⟨b6, 0, none⟩ : Addr) w_26 fun (x27 : (Array Value)) =>
 StA 262 (⟨b6, 0, none⟩ : Addr) x27 w_26 fun (w_28 : World) =>
 Ld (.arr 262) (⟨b6, 0, none⟩ : Addr) w_28 fun (res29 : (Array Value)) =>
 R (res29) (false) (100) w_28)
 (Held w_26 fun (S30 : World → Prop) (w_31 : World) =>
 LdS (.arr 262) (⟨b4, 0, none⟩ : Addr) S30 fun (x32 : (Array Value)) =>
 LdS kI ((⟨b4, 0, none⟩ : Addr).add 258) S30 fun (Symbol33 : Int) =>
 StA 262 (⟨b6, 0, none⟩ : Addr) x32 w_31 fun (w_34 : World) =>
 S30 w_34 ∧
 Ld (.arr 262) (⟨b6, 0, none⟩ : Addr) w_34 fun (res35 : (Array Value)) =>
 R (res35) (((Symbol33 : Int) == (258 : Int))) (0) w_34)) fun (K_7 : World → Prop) =>
 Ld (.arr 262) (⟨b4, 0, none⟩ : Addr) w_5 fun (x8 : (Array Value)) =>
 Cl Try.prog [kB] n_lengthtable_Valid ⟨[(.agg x8)]⟩ w_5 fun (r10 : Bool) (w_9 : World) =>
 IfB (!r10)
 (Ld (.arr 262) (⟨b6, 0, none⟩ : Addr) w_9 fun (x11 : (Array Value)) =>
 StA 262 (⟨b6, 0, none⟩ : Addr) x11 w_9 fun (w_12 : World) =>
 Ld (.arr 262) (⟨b6, 0, none⟩ : Addr) w_12 fun (res13 : (Array Value)) =>
 R (res13) (false) (2) w_12)
 (Ld kI ((⟨b4, 0, none⟩ : Addr).add 258) w_9 fun (Symbol14 : Int) =>
 IfB ((Symbol14 : Int) == (258 : Int))
 (Ld (.arr 262) (⟨b6, 0, none⟩ : Addr) w_9 fun (x15 : (Array Value)) =>
 StA 262 (⟨b6, 0, none⟩ : Addr) x15 w_9 fun (w_16 : World) =>
 Ld (.arr 262) (⟨b6, 0, none⟩ : Addr) w_16 fun (res17 : (Array Value)) =>
 R (res17) (false) (2) w_16)
 (0 ≤ (1 : Int) ∧
 IfB (((ishr .i64 (bit2 : Int) (1 : Int)) : Int) != (0 : Int))
 (Ld (.arr 262) (⟨b6, 0, none⟩ : Addr) w_9 fun (x18 : (Array Value)) =>
 StA 262 (⟨b6, 0, none⟩ : Addr) x18 w_9 fun (w_19 : World) =>
 Ld (.arr 262) (⟨b6, 0, none⟩ : Addr) w_19 fun (res20 : (Array Value)) =>
 R (res20) (false) (2) w_19)
 (K_7  w_9)))
set_option maxRecDepth 100000 in
theorem lengthtable_Step.ok (c1 : (Array Value)) (bit2 : Int) (R : (Array Value) → Bool → Int → World → Prop) (w : World) (h : lengthtable_Step.E c1 bit2 R w) : Cl Try.prog [(.arr 262), kB, kI] n_lengthtable_Step ⟨[(.agg c1), (.int .i64 bit2)]⟩ w R :=
  calls_of_eq Try.mix Try.f41 [(.agg c1), (.int .i64 bit2)] [(.arr 262), kB, kI] R 35 [.cell 4 60, .tmp 5, .tmp 6] (by kernel_rfl) (by kernel_rfl) (by kernel_rfl) (by kernel_rfl) (by kernel_rfl)
    (.s .o (.j [] (.s .o (.c (.s .o .o) .o)) (.s .o (.s (.s .o (.c (.s .o .o) .o)) (.s .o .o)))))
    (by kernel_rfl) h
set_option maxRecDepth 100000 in
/-- lengthtable.Valid -/
def lengthtable_Valid.E (c1 : (Array Value)) (R : Bool → World → Prop) (w : World) : Prop :=
 Nw 60 c1 w fun (b3 : Nat) (w_2 : World) =>
 Ld (.arr 262) (⟨b3, 0, none⟩ : Addr) w_2 fun (x4 : (Array Value)) =>
 Cl Try.prog [kB] n_lengthtable_beginning ⟨[(.agg x4)]⟩ w_2 fun (r6 : Bool) (w_5 : World) =>
 IfB r6
 (R (true) w_5)
 (Join (fun (w_23 : World) =>
 Ld kI ((⟨b3, 0, none⟩ : Addr).add 258) w_23 fun (Symbol24 : Int) =>
 IfB ((Symbol24 : Int) == (0 : Int))
 (Ld kI ((⟨b3, 0, none⟩ : Addr).add 261) w_23 fun (Way25 : Int) =>
 IfB ((Way25 : Int) == (0 : Int))
 (R (true) w_23)
 (Ld kI ((⟨b3, 0, none⟩ : Addr).add 261) w_23 fun (Way26 : Int) =>
 IfB ((Way26 : Int) == (1 : Int))
 (Ld kI ((⟨b3, 0, none⟩ : Addr).add 260) w_23 fun (Now27 : Int) =>
 IfB (decide ((Now27 : Int) > (0 : Int)))
 (R (true) w_23)
 (Ld kI ((⟨b3, 0, none⟩ : Addr).add 261) w_23 fun (Way28 : Int) =>
 IfB ((Way28 : Int) == (2 : Int))
 (Ld kI ((⟨b3, 0, none⟩ : Addr).add 260) w_23 fun (Now29 : Int) =>
 R ((decide ((Now29 : Int) < (15 : Int)))) w_23)
 (R (false) w_23)))
 (Ld kI ((⟨b3, 0, none⟩ : Addr).add 261) w_23 fun (Way30 : Int) =>
 IfB ((Way30 : Int) == (2 : Int))
 (Ld kI ((⟨b3, 0, none⟩ : Addr).add 260) w_23 fun (Now31 : Int) =>
 R ((decide ((Now31 : Int) < (15 : Int)))) w_23)
 (R (false) w_23))))
 (IfB ((Symbol24 : Int) == (258 : Int))
 (Drw w_23 fun (w_32 : World) =>
 Ld kI ((⟨b3, 0, none⟩ : Addr).add 259) w_32 fun (Bits33 : Int) =>
 IfB ((Bits33 : Int) == (4 : Int))
 (Ld kI ((⟨b3, 0, none⟩ : Addr).add 261) w_32 fun (Way34 : Int) =>
 IfB ((Way34 : Int) == (0 : Int))
 (Ld kI ((⟨b3, 0, none⟩ : Addr).add 260) w_32 fun (Now35 : Int) =>
 Ld kI ((⟨b3, 0, none⟩ : Addr).add 258) w_32 fun (Symbol36 : Int) =>
 IdxP ((⟨b3, 0, none⟩ : Addr).add 0) 258 (i64 ((Symbol36 : Int) - (1 : Int))) 1 fun (q37 : Addr) =>
 Ld (kInt .u8) q37 w_32 fun (x38 : Int) =>
 IfB ((Now35 : Int) == ((i64 x38) : Int))
 (Ld (.arr 258) ((⟨b3, 0, none⟩ : Addr).add 0) w_32 fun (Lengths39 : (Array Value)) =>
 Cl Try.prog [kB] n_kraft_Table ⟨[(.agg Lengths39)]⟩ w_32 fun (r41 : Bool) (w_40 : World) =>
 R (r41) w_40)
 (R (false) w_32))
 (R (false) w_32))
 (R (false) w_32))
 (Drw w_23 fun (w_42 : World) =>
 Ld kI ((⟨b3, 0, none⟩ : Addr).add 258) w_42 fun (Symbol43 : Int) =>
 IdxP ((⟨b3, 0, none⟩ : Addr).add 0) 258 (i64 ((Symbol43 : Int) - (1 : Int))) 1 fun (q44 : Addr) =>
 Ld (kInt .u8) q44 w_42 fun (x45 : Int) =>
 Ld kI ((⟨b3, 0, none⟩ : Addr).add 260) w_42 fun (Now46 : Int) =>
 Ld kI ((⟨b3, 0, none⟩ : Addr).add 261) w_42 fun (Way47 : Int) =>
 Cl Try.prog [kB] n_lengthtable_turned ⟨[(.int .i64 (i64 x45)), (.int .i64 Now46), (.int .i64 Way47)]⟩ w_42 fun (r49 : Bool) (w_48 : World) =>
 R (r49) w_48))) fun (K_7 : World → Prop) =>
 Ld kI ((⟨b3, 0, none⟩ : Addr).add 259) w_5 fun (Bits8 : Int) =>
 Cl Try.prog [kB] n_lengthtable_within ⟨[(.int .i64 Bits8), (.int .i64 4), (.int .i64 5)]⟩ w_5 fun (r10 : Bool) (w_9 : World) =>
 IfB (!r10)
 (R (false) w_9)
 (Ld kI ((⟨b3, 0, none⟩ : Addr).add 258) w_9 fun (Symbol11 : Int) =>
 Cl Try.prog [kB] n_lengthtable_within ⟨[(.int .i64 Symbol11), (.int .i64 0), (.int .i64 258)]⟩ w_9 fun (r13 : Bool) (w_12 : World) =>
 IfB (!r13)
 (R (false) w_12)
 (Ld kI ((⟨b3, 0, none⟩ : Addr).add 260) w_12 fun (Now14 : Int) =>
 Cl Try.prog [kB] n_lengthtable_within ⟨[(.int .i64 Now14), (.int .i64 0), (.int .i64 15)]⟩ w_12 fun (r16 : Bool) (w_15 : World) =>
 IfB (!r16)
 (R (false) w_15)
 (Ld kI ((⟨b3, 0, none⟩ : Addr).add 261) w_15 fun (Way17 : Int) =>
 Cl Try.prog [kB] n_lengthtable_within ⟨[(.int .i64 Way17), (.int .i64 0), (.int .i64 2)]⟩ w_15 fun (r19 : Bool) (w_18 : World) =>
 IfB (!r19)
 (R (false) w_18)
 (Ld (.arr 262) (⟨b3, 0, none⟩ : Addr) w_18 fun (x20 : (Array Value)) =>
 Cl Try.prog [kB] n_lengthtable_known ⟨[(.agg x20)]⟩ w_18 fun (r22 : Bool) (w_21 : World) =>
 IfB (!r22)
 (R (false) w_21)
 (K_7  w_21))))))
set_option maxRecDepth 100000 in
theorem lengthtable_Valid.ok (c1 : (Array Value)) (R : Bool → World → Prop) (w : World) (h : lengthtable_Valid.E c1 R w) : Cl Try.prog [kB] n_lengthtable_Valid ⟨[(.agg c1)]⟩ w R :=
  calls_of_eq Try.mix Try.f56 [(.agg c1)] [kB] R 98 [.tmp 2] (by kernel_rfl) (by kernel_rfl) (by kernel_rfl) (by kernel_rfl) (by kernel_rfl)
    (.s .o (.s (.s .o (.c (.s .o .o) .o)) (.j [] (.s .o (.c (.s .o .o) .o)) (.s (.s .o (.b (.s .o (.c (.s .o .o) (.s .o (.c (.s .o .o) .o)))))) (.s .o .o)))))
    (by kernel_rfl) h
set_option maxRecDepth 100000 in
/-- lengthtable.next -/
def lengthtable_next.E (c1 : (Array Value)) (bit2 : Int) (R : (Array Value) → Bool → World → Prop) (w : World) : Prop :=
 Nw 60 c1 w fun (b4 : Nat) (w_3 : World) =>
 Nw 60 ⟨List.replicate 258 (.int .u8 0) ++ [(.int .i64 0), (.int .i64 0), (.int .i64 0), (.int .i64 0)]⟩ w_3 fun (b6 : Nat) (w_5 : World) =>
 Ld kI ((⟨b4, 0, none⟩ : Addr).add 259) w_5 fun (Bits7 : Int) =>
 IfB (decide ((Bits7 : Int) < (4 : Int)))
 (Ld kI ((⟨b4, 0, none⟩ : Addr).add 260) w_5 fun (Now8 : Int) =>
 0 ≤ (1 : Int) ∧
 Ld kI ((⟨b4, 0, none⟩ : Addr).add 259) w_5 fun (Bits9 : Int) =>
 St ((⟨b4, 0, none⟩ : Addr).add 260) (.int .i64 (ior .i64 ((ishl .i64 (Now8 : Int) (1 : Int)) : Int) (bit2 : Int))) w_5 fun (w_10 : World) =>
 St ((⟨b4, 0, none⟩ : Addr).add 259) (.int .i64 (i64 ((Bits9 : Int) + (1 : Int)))) w_10 fun (w_11 : World) =>
 Ld (.arr 262) (⟨b4, 0, none⟩ : Addr) w_11 fun (x12 : (Array Value)) =>
 StA 262 (⟨b6, 0, none⟩ : Addr) x12 w_11 fun (w_13 : World) =>
 Ld (.arr 262) (⟨b6, 0, none⟩ : Addr) w_13 fun (res14 : (Array Value)) =>
 R (res14) (true) w_13)
 (Join (fun (t38_17 : Bool) (w_18 : World) =>
 IfB t38_17
 (Ld kI ((⟨b4, 0, none⟩ : Addr).add 258) w_18 fun (Symbol19 : Int) =>
 Ld kI ((⟨b4, 0, none⟩ : Addr).add 260) w_18 fun (Now20 : Int) =>
 IdxP ((⟨b4, 0, none⟩ : Addr).add 0) 258 Symbol19 1 fun (q21 : Addr) =>
 St q21 (.int .u8 (u8 Now20)) w_18 fun (w_22 : World) =>
 Ld kI ((⟨b4, 0, none⟩ : Addr).add 258) w_22 fun (Symbol23 : Int) =>
 St ((⟨b4, 0, none⟩ : Addr).add 258) (.int .i64 (i64 ((Symbol23 : Int) + (1 : Int)))) w_22 fun (w_24 : World) =>
 St ((⟨b4, 0, none⟩ : Addr).add 261) (.int .i64 0) w_24 fun (w_25 : World) =>
 Held w_25 fun (S26 : World → Prop) (w_27 : World) =>
 LdS (.arr 262) (⟨b4, 0, none⟩ : Addr) S26 fun (x28 : (Array Value)) =>
 LdS kI ((⟨b4, 0, none⟩ : Addr).add 258) S26 fun (Symbol29 : Int) =>
 IfB (decide ((Symbol29 : Int) < (258 : Int)))
 (StA 262 (⟨b6, 0, none⟩ : Addr) x28 w_27 fun (w_30 : World) =>
 S26 w_30 ∧
 Ld (.arr 262) (⟨b6, 0, none⟩ : Addr) w_30 fun (res31 : (Array Value)) =>
 R (res31) (true) w_30)
 (LdS (.arr 258) ((⟨b4, 0, none⟩ : Addr).add 0) S26 fun (Lengths32 : (Array Value)) =>
 Cl Try.prog [kB] n_kraft_Table ⟨[(.agg Lengths32)]⟩ w_27 fun (r34 : Bool) (w_33 : World) =>
 S26 w_33 ∧
 StA 262 (⟨b6, 0, none⟩ : Addr) x28 w_33 fun (w_35 : World) =>
 S26 w_35 ∧
 Ld (.arr 262) (⟨b6, 0, none⟩ : Addr) w_35 fun (res36 : (Array Value)) =>
 R (res36) (r34) w_35))
 (Ld kI ((⟨b4, 0, none⟩ : Addr).add 259) w_18 fun (Bits37 : Int) =>
 IfB ((Bits37 : Int) == (4 : Int))
 (St ((⟨b4, 0, none⟩ : Addr).add 259) (.int .i64 5) w_18 fun (w_38 : World) =>
 Ld (.arr 262) (⟨b4, 0, none⟩ : Addr) w_38 fun (x39 : (Array Value)) =>
 StA 262 (⟨b6, 0, none⟩ : Addr) x39 w_38 fun (w_40 : World) =>
 Ld (.arr 262) (⟨b6, 0, none⟩ : Addr) w_40 fun (res41 : (Array Value)) =>
 R (res41) (true) w_40)
 (IfB ((bit2 : Int) == (0 : Int))
 (Ld kI ((⟨b4, 0, none⟩ : Addr).add 261) w_18 fun (Way42 : Int) =>
 IfB ((Way42 : Int) != (2 : Int))
 (Ld kI ((⟨b4, 0, none⟩ : Addr).add 260) w_18 fun (Now43 : Int) =>
 Ld kI ((⟨b4, 0, none⟩ : Addr).add 260) w_18 fun (Now44 : Int) =>
 St ((⟨b4, 0, none⟩ : Addr).add 260) (.int .i64 (i64 ((Now44 : Int) + (1 : Int)))) w_18 fun (w_45 : World) =>
 St ((⟨b4, 0, none⟩ : Addr).add 261) (.int .i64 1) w_45 fun (w_46 : World) =>
 St ((⟨b4, 0, none⟩ : Addr).add 259) (.int .i64 4) w_46 fun (w_47 : World) =>
 Ld (.arr 262) (⟨b4, 0, none⟩ : Addr) w_47 fun (x48 : (Array Value)) =>
 StA 262 (⟨b6, 0, none⟩ : Addr) x48 w_47 fun (w_49 : World) =>
 Ld (.arr 262) (⟨b6, 0, none⟩ : Addr) w_49 fun (res50 : (Array Value)) =>
 R (res50) ((decide ((Now43 : Int) < (15 : Int)))) w_49)
 (Ld kI ((⟨b4, 0, none⟩ : Addr).add 260) w_18 fun (Now51 : Int) =>
 St ((⟨b4, 0, none⟩ : Addr).add 260) (.int .i64 (i64 ((Now51 : Int) + (1 : Int)))) w_18 fun (w_52 : World) =>
 St ((⟨b4, 0, none⟩ : Addr).add 261) (.int .i64 1) w_52 fun (w_53 : World) =>
 St ((⟨b4, 0, none⟩ : Addr).add 259) (.int .i64 4) w_53 fun (w_54 : World) =>
 Ld (.arr 262) (⟨b4, 0, none⟩ : Addr) w_54 fun (x55 : (Array Value)) =>
 StA 262 (⟨b6, 0, none⟩ : Addr) x55 w_54 fun (w_56 : World) =>
 Ld (.arr 262) (⟨b6, 0, none⟩ : Addr) w_56 fun (res57 : (Array Value)) =>
 R (res57) (false) w_56))
 (Ld kI ((⟨b4, 0, none⟩ : Addr).add 261) w_18 fun (Way58 : Int) =>
 IfB ((Way58 : Int) != (1 : Int))
 (Ld kI ((⟨b4, 0, none⟩ : Addr).add 260) w_18 fun (Now59 : Int) =>
 Ld kI ((⟨b4, 0, none⟩ : Addr).add 260) w_18 fun (Now60 : Int) =>
 St ((⟨b4, 0, none⟩ : Addr).add 260) (.int .i64 (i64 ((Now60 : Int) - (1 : Int)))) w_18 fun (w_61 : World) =>
 St ((⟨b4, 0, none⟩ : Addr).add 261) (.int .i64 2) w_61 fun (w_62 : World) =>
 St ((⟨b4, 0, none⟩ : Addr).add 259) (.int .i64 4) w_62 fun (w_63 : World) =>
 Ld (.arr 262) (⟨b4, 0, none⟩ : Addr) w_63 fun (x64 : (Array Value)) =>
 StA 262 (⟨b6, 0, none⟩ : Addr) x64 w_63 fun (w_65 : World) =>
 Ld (.arr 262) (⟨b6, 0, none⟩ : Addr) w_65 fun (res66 : (Array Value)) =>
 R (res66) ((decide ((Now59 : Int) > (0 : Int)))) w_65)
 (Ld kI ((⟨b4, 0, none⟩ : Addr).add 260) w_18 fun (Now67 : Int) =>
 St ((⟨b4, 0, none⟩ : Addr).add 260) (.int .i64 (i64 ((Now67 : Int) - (1 : Int)))) w_18 fun (w_68 : World) =>
 St ((⟨b4, 0, none⟩ : Addr).add 261) (.int .i64 2) w_68 fun (w_69 : World) =>
 St ((⟨b4, 0, none⟩ : Addr).add 259) (.int .i64 4) w_69 fun (w_70 : World) =>
 Ld (.arr 262) (⟨b4, 0, none⟩ : Addr) w_70 fun (x71 : (Array Value)) =>
 StA 262 (⟨b6, 0, none⟩ : Addr) x71 w_70 fun (w_72 : World) =>
 Ld (.arr 262) (⟨b6, 0, none⟩ : Addr) w_72 fun (res73 : (Array Value)) =>
 R (res73) (false) w_72))))) fun (K_15 : Bool → World → Prop) =>
 Ld kI ((⟨b4, 0, none⟩ : Addr).add 259) w_5 fun (Bits16 : Int) =>
 IfB ((Bits16 : Int) == (4 : Int))
 (K_15 (((bit2 : Int) == (0 : Int))) w_5)
 (K_15 (false) w_5))
set_option maxRecDepth 100000 in
theorem lengthtable_next.ok (c1 : (Array Value)) (bit2 : Int) (R : (Array Value) → Bool → World → Prop) (w : World) (h : lengthtable_next.E c1 bit2 R w) : Cl Try.prog [(.arr 262), kB] n_lengthtable_next ⟨[(.agg c1), (.int .i64 bit2)]⟩ w R :=
  calls_of_eq Try.mix Try.f57 [(.agg c1), (.int .i64 bit2)] [(.arr 262), kB] R 92 [.cell 4 60, .tmp 5] (by kernel_rfl) (by kernel_rfl) (by kernel_rfl) (by kernel_rfl) (by kernel_rfl)
    (.s .o (.s (.b (.s .o (.c .o (.j [(38, kB)] .o (.c (.s .o (.s .o (.s .o .o))) (.s .o (.c .o (.s .o (.c (.s .o (.s .o (.s .o .o))) (.s .o (.s .o (.s .o .o)))))))))))) (.s .o .o)))
    (by kernel_rfl) h
/-- lengthtable.beginning -/
def lengthtable_beginning.E (c1 : (Array Value)) (R : Bool → World → Prop) (w : World) : Prop :=
 Nw 60 c1 w fun (b3 : Nat) (w_2 : World) =>
 Held w_2 fun (S4 : World → Prop) (w_5 : World) =>
 LdS kI ((⟨b3, 0, none⟩ : Addr).add 259) S4 fun (Bits6 : Int) =>
 Cl Try.prog [kB] n_lengthtable_within ⟨[(.int .i64 Bits6), (.int .i64 0), (.int .i64 3)]⟩ w_5 fun (r8 : Bool) (w_7 : World) =>
 S4 w_7 ∧
 IfB r8
 (LdS kI ((⟨b3, 0, none⟩ : Addr).add 260) S4 fun (Now9 : Int) =>
 LdS kI ((⟨b3, 0, none⟩ : Addr).add 259) S4 fun (Bits10 : Int) =>
 0 ≤ (Bits10 : Int) ∧
 Cl Try.prog [kB] n_lengthtable_within ⟨[(.int .i64 Now9), (.int .i64 0), (.int .i64 (i64 (((ishl .i64 (1 : Int) (Bits10 : Int)) : Int) - (1 : Int))))]⟩ w_7 fun (r12 : Bool) (w_11 : World) =>
 S4 w_11 ∧
 IfB r12
 (LdS (.arr 262) (⟨b3, 0, none⟩ : Addr) S4 fun (x13 : (Array Value)) =>
 LdS kI ((⟨b3, 0, none⟩ : Addr).add 259) S4 fun (Bits14 : Int) =>
 LdS kI ((⟨b3, 0, none⟩ : Addr).add 260) S4 fun (Now15 : Int) =>
 Bld Try.prog 60 [(2, (.int .i64 Bits14)), (3, (.int .i64 Now15))] fun (cs16 : Array Value) =>
 EqW Try.prog 60 x13 cs16 fun (eq17 : Bool) =>
 R (eq17) w_11)
 (R (false) w_11))
 (R (false) w_7)
theorem lengthtable_beginning.ok (c1 : (Array Value)) (R : Bool → World → Prop) (w : World) (h : lengthtable_beginning.E c1 R w) : Cl Try.prog [kB] n_lengthtable_beginning ⟨[(.agg c1)]⟩ w R :=
  calls_of_eq Try.mix Try.f70 [(.agg c1)] [kB] R 24 [.tmp 2] (by kernel_rfl) (by kernel_rfl) (by kernel_rfl) (by kernel_rfl) (by kernel_rfl)
    (.s .o (.s .o .o))
    (by kernel_rfl) h
/-- lengthtable.within -/
def lengthtable_within.E (n1 : Int) (low2 : Int) (high3 : Int) (R : Bool → World → Prop) (w : World) : Prop :=
 IfB (decide ((n1 : Int) ≥ (low2 : Int)))
 (R ((decide ((n1 : Int) ≤ (high3 : Int)))) w)
 (R (false) w)
theorem lengthtable_within.ok (n1 : Int) (low2 : Int) (high3 : Int) (R : Bool → World → Prop) (w : World) (h : lengthtable_within.E n1 low2 high3 R w) : Cl Try.prog [kB] n_lengthtable_within ⟨[(.int .i64 n1), (.int .i64 low2), (.int .i64 high3)]⟩ w R :=
  calls_of_eq Try.mix Try.f71 [(.int .i64 n1), (.int .i64 low2), (.int .i64 high3)] [kB] R 15 [.tmp 6] (by kernel_rfl) (by kernel_rfl) (by kernel_rfl) (by kernel_rfl) (by kernel_rfl)
    (.s .o (.s .o .o))
    (by kernel_rfl) h
/-- lengthtable.known -/
def lengthtable_known.E (c1 : (Array Value)) (R : Bool → World → Prop) (w : World) : Prop :=
 Nw 60 c1 w fun (b3 : Nat) (w_2 : World) =>
 Ld (.arr 258) ((⟨b3, 0, none⟩ : Addr).add 0) w_2 fun (Lengths4 : (Array Value)) =>
 ∃ (I_5 : Int → World → Prop) (m_6 : Int → World → Nat), I_5 (0) w_2 ∧
 ∀ (t7_7 : Int), ∀ (w_8 : World), I_5 t7_7 w_8 →
 IfB (decide ((t7_7 : Int) < (258 : Int)))
 (IdxV (.int .u8) Lengths4 258 t7_7 fun (e9 : Int) =>
 IfB (decide ((e9 : Int) > (15 : Int)))
 (R (false) w_8)
 (Ld kI ((⟨b3, 0, none⟩ : Addr).add 258) w_8 fun (Symbol10 : Int) =>
 IfB (decide ((t7_7 : Int) ≥ (Symbol10 : Int)))
 (IfB (decide ((e9 : Int) > (0 : Int)))
 (R (false) w_8)
 (I_5 ((i64 ((t7_7 : Int) + (1 : Int)))) w_8 ∧ m_6 ((i64 ((t7_7 : Int) + (1 : Int)))) w_8 < m_6 t7_7 w_8))
 (I_5 ((i64 ((t7_7 : Int) + (1 : Int)))) w_8 ∧ m_6 ((i64 ((t7_7 : Int) + (1 : Int)))) w_8 < m_6 t7_7 w_8)))
 (R (true) w_8)
theorem lengthtable_known.ok (c1 : (Array Value)) (R : Bool → World → Prop) (w : World) (h : lengthtable_known.E c1 R w) : Cl Try.prog [kB] n_lengthtable_known ⟨[(.agg c1)]⟩ w R :=
  calls_of_eq Try.mix Try.f72 [(.agg c1)] [kB] R 24 [.tmp 2] (by kernel_rfl) (by kernel_rfl) (by kernel_rfl) (by kernel_rfl) (by kernel_rfl)
    (.s .o (.s (.s .o (.b (.l [(7, kI)] (.s .o (.s (.c .o .o) (.s (.b (.s .o (.s .o (.c (.s .o .o) .o)))) .o)))))) (.s .o .o)))
    (by kernel_rfl) h
/-- lengthtable.turned -/
def lengthtable_turned.E (was1 : Int) (now2 : Int) (way3 : Int) (R : Bool → World → Prop) (w : World) : Prop :=
 IfB ((way3 : Int) == (0 : Int))
 (R (((was1 : Int) == (now2 : Int))) w)
 (IfB ((way3 : Int) == (1 : Int))
 (R ((decide ((was1 : Int) < (now2 : Int)))) w)
 (R ((decide ((was1 : Int) > (now2 : Int)))) w))
theorem lengthtable_turned.ok (was1 : Int) (now2 : Int) (way3 : Int) (R : Bool → World → Prop) (w : World) (h : lengthtable_turned.E was1 now2 way3 R w) : Cl Try.prog [kB] n_lengthtable_turned ⟨[(.int .i64 was1), (.int .i64 now2), (.int .i64 way3)]⟩ w R :=
  calls_of_eq Try.mix Try.f73 [(.int .i64 was1), (.int .i64 now2), (.int .i64 way3)] [kB] R 21 [.tmp 6] (by kernel_rfl) (by kernel_rfl) (by kernel_rfl) (by kernel_rfl) (by kernel_rfl)
    (.s .o (.s (.s .o (.b (.s .o (.c (.s .o .o) (.s .o (.c (.s .o .o) .o)))))) (.s .o .o)))
    (by kernel_rfl) h
end Go.Proofs.Ytjnjjibmlalpiaa
/- Seg -/
namespace Go.Vc
open Go
section
variable {E w : World} {l : List HP} {b n k o : Nat} {L r : List Value} {t : TypeId} {fr : Nat × Nat} {put : Obj → List HP}
theorem app_at (hL : L.length = n) : (L ++ r)[k + n]? = r[k]? := by
  rw [List.getElem?_append_right (by omega)]
  congr 1; omega
theorem app_drop (hL : L.length = n) : (L ++ r).drop (k + n) = r.drop k := by
  rw [List.drop_append, List.drop_of_length_le (by omega), List.nil_append]
  congr 1; omega
theorem spl_app : ∀ {L r : List Value} {n k : Nat} {vs : List Value}, L.length = n → spl (L ++ r) (k + n) vs = L ++ spl r k vs
  | [], r, n, k, vs, h => by
    have : n = 0 := by simpa using h.symm
    subst this; rfl
  | a :: L, r, n, k, vs, h => by
    obtain ⟨m, rfl⟩ : ∃ m, n = m + 1 := ⟨L.length, by simpa using h.symm⟩
    rw [show k + (m + 1) = (k + m) + 1 by omega, List.cons_append, spl, spl_app (by simpa using h)]
    rfl
theorem LdS.q {S : World → Prop} {s : Sc} {K : s.T → Prop} {x : s.T} (hS : ∀ w, S w → HoldB b ⟨L ++ r⟩ t fr w) (hL : L.length = n) (ho : o = k + n) (hx : r[k]? = some (s.enc x)) (hK : K x) : LdS (.sc s) ⟨b, o, none⟩ S K := by
  subst ho
  exact LdS.xb hS ((app_at hL).trans hx) hK
theorem Ld.q {s : Sc} {K : s.T → Prop} {x : s.T} [FindB b l ⟨L ++ r⟩ t fr put] (h : Hp E w l) (hL : L.length = n) (ho : o = k + n) (hx : r[k]? = some (s.enc x)) (hK : K x) : Ld (.sc s) ⟨b, o, none⟩ w K :=
  LdS.q (fun w' hw => by rw [hw]; exact h.fb) hL ho hx hK
/-- the great part -/
theorem LdS.p {S : World → Prop} {K : Array Value → Prop} (hS : ∀ w, S w → HoldB b ⟨L ++ r⟩ t fr w) (hL : L.length = n) (hK : K ⟨L⟩) : LdS (.arr n) ⟨b, 0, none⟩ S K :=
  LdS.xa (mid := L) (post := r) hS rfl hL hK
theorem Ld.p {K : Array Value → Prop} [FindB b l ⟨L ++ r⟩ t fr put] (h : Hp E w l) (hL : L.length = n) (hK : K ⟨L⟩) : Ld (.arr n) ⟨b, 0, none⟩ w K :=
  LdS.p (fun w' hw => by rw [hw]; exact h.fb) hL hK
/-- all of it -/
theorem Ld.qw {m : Nat} {K : Array Value → Prop} [FindB b l ⟨L ++ r⟩ t fr put] (h : Hp E w l) (hL : L.length = n) (hm : n + r.length = m) (hK : K ⟨L ++ r⟩) : Ld (.arr m) ⟨b, 0, none⟩ w K :=
  Ld.xw h (by simp [hL, hm]) hK
theorem LdS.qw {S : World → Prop} {m : Nat} {K : Array Value → Prop} (hS : ∀ w, S w → HoldB b ⟨L ++ r⟩ t fr w) (hL : L.length = n) (hm : n + r.length = m) (hK : K ⟨L ++ r⟩) : LdS (.arr m) ⟨b, 0, none⟩ S K :=
  LdS.xw hS (by simp [hL, hm]) hK
theorem St.q {v : Value} {K : World → Prop} [FindB b l ⟨L ++ r⟩ t (0, 0) put] (h : Hp E w l) (hL : L.length = n) (ho : o = k + n) (hb : Nat.ble (k + 1) r.length = true) (hv : scalarB v = true)
    (hK : ∀ w', Hp E w' (put (.cells ⟨L ++ spl r k [v]⟩ t (0, 0))) → K w') : St ⟨b, o, none⟩ v w K := by
  subst ho
  have hb' := Nat.le_of_ble_eq_true hb
  refine St.xs h (Nat.ble_eq_true_of_le (by simp; omega)) hv fun w' h' => hK w' ?_
  rw [show (⟨L ++ r⟩ : Array Value).toList = L ++ r from rfl, spl_app hL] at h'
  exact h'
/-- a great value is stored over all of it -/
theorem StA.q {m : Nat} {cs : Array Value} {c : Array Value} {K : World → Prop} [FindB b l c t (0, 0) put] (h : Hp E w l) (hc : c.size = m) (hcs : cs.size = m) (hv : cs.toList.all scalarB = true)
    (hK : ∀ w', Hp E w' (put (.cells cs t (0, 0))) → K w') : StA m ⟨b, 0, none⟩ cs w K := StA.xw h hc hcs (List.all_eq_true.1 hv) hK
/-- a cell of the great part -/
theorem St.g {v : Value} {K : World → Prop} [FindB b l ⟨L ++ r⟩ t (0, 0) put] (h : Hp E w l) (ho : o < L.length) (hv : scalarB v = true)
    (hK : ∀ w', Hp E w' (put (.cells ⟨L.set o v ++ r⟩ t (0, 0))) → K w') : St ⟨b, o, none⟩ v w K := by
  refine St.xb h (by simp; omega) hv fun w' h' => hK w' ?_
  have : (⟨L ++ r⟩ : Array Value).setIfInBounds o v = ⟨L.set o v ++ r⟩ := by
    apply Array.ext'
    rw [Array.toList_setIfInBounds, List.set_append_left _ _ ho]
  rwa [this] at h'
theorem Ld.g {s : Sc} {K : s.T → Prop} {x : s.T} [FindB b l ⟨L ++ r⟩ t fr put] (h : Hp E w l) (hx : L[o]? = some (s.enc x)) (hK : K x) : Ld (.sc s) ⟨b, o, none⟩ w K := by
  refine Ld.xb h ?_ hK
  have : o < L.length := by
    rcases Nat.lt_or_ge o L.length with h | h
    · exact h
    · rw [List.getElem?_eq_none h] at hx; cases hx
  rw [show (⟨L ++ r⟩ : Array Value).toList = L ++ r from rfl, List.getElem?_append_left this, hx]
end
end Go.Vc
/- Eqw -/
namespace Go.Vc
open Go
section
variable {E w : World} {F : List HP}
/-- an element of a slice of numbers is read in a region whose order is open -/
theorem Idx.ldS {S : World → Prop} {s : Sl} {xs : List Int} {i : Int} {j : Nat} {K : Int → Prop} (hh : Hp E w F) (hs : Tells F (SlT 1 s (xs.map vI))) (hS : ∀ w, S w → HasF E F w) (hi : i = (j : Int)) (hj : j < xs.length) (hK : K xs[j]) :
    Idx s i 1 fun q => LdS (.sc (.int .i64)) q S K := by
  subst hi
  have hl := (hh.tells hs).1
  simp only [List.length_map, Nat.mul_one] at hl
  refine Idx.rdT hh hs (by decide) (by omega) (by omega) fun p hp => LdS.sc (s := .int .i64) xs[j] (fun w hw => ?_) hK
  have := (hS w hw).tells (hp 0 (by decide))
  rw [Go.Vc.add_zero] at this
  rw [this]
  simp only [Int.toNat_natCast, Nat.mul_one, Nat.add_zero, List.getElem?_map]
  rw [List.getElem?_eq_getElem hj]; rfl
/-- equality of two arrays of numbers, as the model says it -/
theorem eqArr_run {P : Program} {t e : TypeId} {n : Nat} {k : IntKind} {it : TypeInfo} (hu : P.underlying t = some (.array n e)) (hue : P.underlying e = some (.int k)) (hi : P.info? e = some it) (hs : it.size = 1) {a b : List Int} (ha : a.length = n) (hb : b.length = n)
    (D : Nat) (hD : 2 ≤ D) (w : World) : (Op.equalIn D t (.agg ⟨a.map (.int k)⟩) (.agg ⟨b.map (.int k)⟩)).run P w = .ok (a == b) w := by
  obtain ⟨D, rfl⟩ : ∃ d, D = d + 1 + 1 := ⟨D - 2, by omega⟩
  rw [run_equalIn_array w (D + 1) _ _ hu hi, cellsOf_info hi, hs, ← ha, run_eqItems_ints hue (ha.trans hb.symm) _ (by simp), all_eq (ha.trans hb.symm)]
theorem partVC_agg {P : Program} {t : TypeId} {it : TypeInfo} {cs : List Value} {off : Nat} {K : Option Value → Prop} (h1 : isAggB P t = some true) (h2 : P.info? t = some it) (h : K (some (.agg ⟨(cs.drop off).take it.size⟩))) : partVC P t cs off K := by
  unfold partVC; rw [h1, h2]; exact h
theorem partVC_sc {P : Program} {t : TypeId} {it : TypeInfo} {cs : List Value} {off : Nat} {v : Value} {K : Option Value → Prop} (h1 : isAggB P t = some false) (h2 : P.info? t = some it) (hv : cs[off]? = some v) (h : K (some v)) : partVC P t cs off K := by
  unfold partVC; rw [h1, h2, hv]; exact h
end
end Go.Vc
namespace Go.Proofs.Ytjnjjibmlalpiaa
open Go Go.Vc
theorem infoInt : ∃ it, Try.prog.info? 3 = some it := by
  have : (Try.prog.info? 3).isSome = true := by kernel_rfl
  exact Option.isSome_iff_exists.1 this
theorem infoLen : ∃ it, Try.prog.info? 58 = some it ∧ it.size = 258 := by
  have h : (Try.prog.info? 58).map (·.size) = some 258 := by kernel_rfl
  obtain ⟨it, h1, h2⟩ := Option.map_eq_some_iff.1 h
  exact ⟨it, h1, h2⟩
theorem infoU8 : ∃ it, Try.prog.info? 5 = some it ∧ it.size = 1 := by
  have h : (Try.prog.info? 5).map (·.size) = some 1 := by kernel_rfl
  obtain ⟨it, h1, h2⟩ := Option.map_eq_some_iff.1 h
  exact ⟨it, h1, h2⟩
theorem undLen : Try.prog.underlying 58 = some (.array 258 5) := by kernel_rfl
theorem undU8 : Try.prog.underlying 5 = some (.int .u8) := by kernel_rfl
theorem undInt : Try.prog.underlying 3 = some (.int .i64) := by kernel_rfl
end Go.Proofs.Ytjnjjibmlalpiaa
/- Fprefixdec -/
namespace Go.Proofs.Ytjnjjibmlalpiaa
open Go Go.Vc
set_option maxRecDepth 100000 in
/-- prefixdec.New -/
def prefixdec_New.E (l1 : (Array Value)) (R : (Array Value) → Int → World → Prop) (w : World) : Prop :=
 Nw 58 l1 w fun (b3 : Nat) (w_2 : World) =>
 Nw 62 ⟨List.replicate 258 (.int .u8 0) ++ [(.int .i64 0), (.int .i64 0)]⟩ w_2 fun (b5 : Nat) (w_4 : World) =>
 Ld (.arr 258) (⟨b3, 0, none⟩ : Addr) w_4 fun (x6 : (Array Value)) =>
 Cl Try.prog [kB] n_kraft_Table ⟨[(.agg x6)]⟩ w_4 fun (r8 : Bool) (w_7 : World) =>
 IfB (!r8)
 (Bld Try.prog 62 [] fun (cs9 : Array Value) =>
 StA 260 (⟨b5, 0, none⟩ : Addr) cs9 w_7 fun (w_10 : World) =>
 Ld (.arr 260) (⟨b5, 0, none⟩ : Addr) w_10 fun (res11 : (Array Value)) =>
 R (res11) (2) w_10)
 (Ld (.arr 258) (⟨b3, 0, none⟩ : Addr) w_7 fun (x12 : (Array Value)) =>
 Bld Try.prog 62 [(0, (.agg x12))] fun (cs13 : Array Value) =>
 StA 260 (⟨b5, 0, none⟩ : Addr) cs13 w_7 fun (w_14 : World) =>
 Ld (.arr 260) (⟨b5, 0, none⟩ : Addr) w_14 fun (res15 : (Array Value)) =>
 R (res15) (0) w_14)
set_option maxRecDepth 100000 in
theorem prefixdec_New.ok (l1 : (Array Value)) (R : (Array Value) → Int → World → Prop) (w : World) (h : prefixdec_New.E l1 R w) : Cl Try.prog [(.arr 260), kI] n_prefixdec_New ⟨[(.agg l1)]⟩ w R :=
  calls_of_eq Try.mix Try.f42 [(.agg l1)] [(.arr 260), kI] R 10 [.cell 2 62, .tmp 3] (by kernel_rfl) (by kernel_rfl) (by kernel_rfl) (by kernel_rfl) (by kernel_rfl)
    (.s .o (.s (.s .o (.c (.s .o .o) .o)) (.s .o .o)))
    (by kernel_rfl) h
set_option maxRecDepth 100000 in
/-- prefixdec.Step -/
def prefixdec_Step.E (t1 : (Array Value)) (bit2 : Int) (R : (Array Value) → Int → Bool → World → Prop) (w : World) : Prop :=
 Nw 62 t1 w fun (b4 : Nat) (w_3 : World) =>
 Nw 62 ⟨List.replicate 258 (.int .u8 0) ++ [(.int .i64 0), (.int .i64 0)]⟩ w_3 fun (b6 : Nat) (w_5 : World) =>
 Join (fun (w_17 : World) =>
 Ld (.arr 258) ((⟨b4, 0, none⟩ : Addr).add 0) w_17 fun (Lengths18 : (Array Value)) =>
 Ld kI ((⟨b4, 0, none⟩ : Addr).add 258) w_17 fun (Code19 : Int) =>
 0 ≤ (1 : Int) ∧
 Ld kI ((⟨b4, 0, none⟩ : Addr).add 259) w_17 fun (Bits20 : Int) =>
 Bld Try.prog 62 [(0, (.agg Lengths18)), (1, (.int .i64 (ior .i64 ((ishl .i64 (Code19 : Int) (1 : Int)) : Int) (bit2 : Int)))), (2, (.int .i64 (i64 ((Bits20 : Int) + (1 : Int)))))] fun (cs21 : Array Value) =>
 StA 260 (⟨b6, 0, none⟩ : Addr) cs21 w_17 fun (w_22 : World) =>
 Ld (.arr 258) ((⟨b6, 0, none⟩ : Addr).add 0) w_22 fun (Lengths23 : (Array Value)) =>
 Ld kI ((⟨b6, 0, none⟩ : Addr).add 259) w_22 fun (Bits24 : Int) =>
 Cl Try.prog [kI, kI] n_prefixdec_first ⟨[(.agg Lengths23), (.int .i64 Bits24)]⟩ w_22 fun (r26 : Int) (r27 : Int) (w_25 : World) =>
 Ld kI ((⟨b6, 0, none⟩ : Addr).add 258) w_25 fun (Code28 : Int) =>
 IfB (decide ((Code28 : Int) ≥ ((i64 ((r26 : Int) + (r27 : Int))) : Int)))
 (Ld (.arr 260) (⟨b6, 0, none⟩ : Addr) w_25 fun (x29 : (Array Value)) =>
 StA 260 (⟨b6, 0, none⟩ : Addr) x29 w_25 fun (w_30 : World) =>
 Ld (.arr 260) (⟨b6, 0, none⟩ : Addr) w_30 fun (res31 : (Array Value)) =>
 R (res31) (0) (false) w_30)
 (Drw w_25 fun (w_32 : World) =>
 Ld (.arr 258) ((⟨b6, 0, none⟩ : Addr).add 0) w_32 fun (Lengths33 : (Array Value)) =>
 Ld kI ((⟨b6, 0, none⟩ : Addr).add 259) w_32 fun (Bits34 : Int) =>
 Ld kI ((⟨b6, 0, none⟩ : Addr).add 258) w_32 fun (Code35 : Int) =>
 (Ld (.arr 258) ((⟨b4, 0, none⟩ : Addr).add 0) w_32 fun (Lengths36 : (Array Value)) =>
 Bld Try.prog 62 [(0, (.agg Lengths36))] fun (cs37 : Array Value) =>
 Cl Try.prog [kI] n_prefixdec_of ⟨[(.agg Lengths33), (.int .i64 Bits34), (.int .i64 (i64 ((Code35 : Int) - (r26 : Int))))]⟩ w_32 fun (r39 : Int) (w_38 : World) =>
 StA 260 (⟨b6, 0, none⟩ : Addr) cs37 w_38 fun (w_40 : World) =>
 Ld (.arr 260) (⟨b6, 0, none⟩ : Addr) w_40 fun (res41 : (Array Value)) =>
 R (res41) (r39) (true) w_40) ∧
 (Cl Try.prog [kI] n_prefixdec_of ⟨[(.agg Lengths33), (.int .i64 Bits34), (.int .i64 (i64 ((Code35 : Int) - (r26 : Int))))]⟩ w_32 fun (r43 : Int) (w_42 : World) =>
 Ld (.arr 258) ((⟨b4, 0, none⟩ : Addr).add 0) w_42 fun (Lengths44 : (Array Value)) =>
 Bld Try.prog 62 [(0, (.agg Lengths44))] fun (cs45 : Array Value) =>
 StA 260 (⟨b6, 0, none⟩ : Addr) cs45 w_42 fun (w_46 : World) =>
 Ld (.arr 260) (⟨b6, 0, none⟩ : Addr) w_46 fun (res47 : (Array Value)) =>
 R (res47) (r43) (true) w_46))) fun (K_7 : World → Prop) =>
 0 ≤ (1 : Int) ∧
 IfB (((ishr .i64 (bit2 : Int) (1 : Int)) : Int) != (0 : Int))
 (Ld (.arr 260) (⟨b4, 0, none⟩ : Addr) w_5 fun (x8 : (Array Value)) =>
 StA 260 (⟨b6, 0, none⟩ : Addr) x8 w_5 fun (w_9 : World) =>
 Ld (.arr 260) (⟨b6, 0, none⟩ : Addr) w_9 fun (res10 : (Array Value)) =>
 R (res10) (0) (false) w_9)
 (Ld (.arr 260) (⟨b4, 0, none⟩ : Addr) w_5 fun (x11 : (Array Value)) =>
 Cl Try.prog [kB] n_prefixdec_Valid ⟨[(.agg x11)]⟩ w_5 fun (r13 : Bool) (w_12 : World) =>
 IfB (!r13)
 (Ld (.arr 260) (⟨b4, 0, none⟩ : Addr) w_12 fun (x14 : (Array Value)) =>
 StA 260 (⟨b6, 0, none⟩ : Addr) x14 w_12 fun (w_15 : World) =>
 Ld (.arr 260) (⟨b6, 0, none⟩ : Addr) w_15 fun (res16 : (Array Value)) =>
 R (res16) (0) (false) w_15)
 (K_7  w_12))
set_option maxRecDepth 100000 in
theorem prefixdec_Step.ok (t1 : (Array Value)) (bit2 : Int) (R : (Array Value) → Int → Bool → World → Prop) (w : World) (h : prefixdec_Step.E t1 bit2 R w) : Cl Try.prog [(.arr 260), kI, kB] n_prefixdec_Step ⟨[(.agg t1), (.int .i64 bit2)]⟩ w R :=
  calls_of_eq Try.mix Try.f44 [(.agg t1), (.int .i64 bit2)] [(.arr 260), kI, kB] R 56 [.cell 4 62, .tmp 5, .tmp 6] (by kernel_rfl) (by kernel_rfl) (by kernel_rfl) (by kernel_rfl) (by kernel_rfl)
    (.s .o (.j [] (.s .o (.c (.s .o .o) .o)) (.s .o (.s .o (.s (.s .o (.c (.s .o .o) .o)) (.s (.b .o) .o))))))
    (by kernel_rfl) h
set_option maxRecDepth 100000 in
/-- prefixdec.Valid -/
def prefixdec_Valid.E (t1 : (Array Value)) (R : Bool → World → Prop) (w : World) : Prop :=
 Nw 62 t1 w fun (b3 : Nat) (w_2 : World) =>
 Join (fun (w_13 : World) =>
 Ld (.arr 258) ((⟨b3, 0, none⟩ : Addr).add 0) w_13 fun (Lengths14 : (Array Value)) =>
 Ld kI ((⟨b3, 0, none⟩ : Addr).add 259) w_13 fun (Bits15 : Int) =>
 Cl Try.prog [kI, kI] n_prefixdec_first ⟨[(.agg Lengths14), (.int .i64 Bits15)]⟩ w_13 fun (r17 : Int) (r18 : Int) (w_16 : World) =>
 Ld kI ((⟨b3, 0, none⟩ : Addr).add 258) w_16 fun (Code19 : Int) =>
 R ((decide ((Code19 : Int) ≥ ((i64 ((r17 : Int) + (r18 : Int))) : Int)))) w_16) fun (K_4 : World → Prop) =>
 Ld (.arr 258) ((⟨b3, 0, none⟩ : Addr).add 0) w_2 fun (Lengths5 : (Array Value)) =>
 Cl Try.prog [kB] n_kraft_Table ⟨[(.agg Lengths5)]⟩ w_2 fun (r7 : Bool) (w_6 : World) =>
 IfB (!r7)
 (R (false) w_6)
 (Ld kI ((⟨b3, 0, none⟩ : Addr).add 259) w_6 fun (Bits8 : Int) =>
 IfB (decide ((Bits8 : Int) < (0 : Int)))
 (R (false) w_6)
 (Ld kI ((⟨b3, 0, none⟩ : Addr).add 259) w_6 fun (Bits9 : Int) =>
 IfB (decide ((Bits9 : Int) ≥ (15 : Int)))
 (R (false) w_6)
 (Ld kI ((⟨b3, 0, none⟩ : Addr).add 258) w_6 fun (Code10 : Int) =>
 IfB (decide ((Code10 : Int) < (0 : Int)))
 (R (false) w_6)
 (Ld kI ((⟨b3, 0, none⟩ : Addr).add 258) w_6 fun (Code11 : Int) =>
 Ld kI ((⟨b3, 0, none⟩ : Addr).add 259) w_6 fun (Bits12 : Int) =>
 0 ≤ (Bits12 : Int) ∧
 IfB (((ishr .i64 (Code11 : Int) (Bits12 : Int)) : Int) != (0 : Int))
 (R (false) w_6)
 (K_4  w_6)))))
set_option maxRecDepth 100000 in
theorem prefixdec_Valid.ok (t1 : (Array Value)) (R : Bool → World → Prop) (w : World) (h : prefixdec_Valid.E t1 R w) : Cl Try.prog [kB] n_prefixdec_Valid ⟨[(.agg t1)]⟩ w R :=
  calls_of_eq Try.mix Try.f60 [(.agg t1)] [kB] R 46 [.tmp 2] (by kernel_rfl) (by kernel_rfl) (by kernel_rfl) (by kernel_rfl) (by kernel_rfl)
    (.s .o (.j [] (.s .o (.c (.s .o .o) .o)) (.s .o (.s .o .o))))
    (by kernel_rfl) h
set_option maxRecDepth 100000 in
/-- prefixdec.first -/
def prefixdec_first.E (l1 : (Array Value)) (bits2 : Int) (R : Int → Int → World → Prop) (w : World) : Prop :=
 Nw 58 l1 w fun (b4 : Nat) (w_3 : World) =>
 Ld (.arr 258) (⟨b4, 0, none⟩ : Addr) w_3 fun (x5 : (Array Value)) =>
 Cl Try.prog [(.st [.int .i64, .int .i64, .int .i64, .int .i64, .int .i64, .int .i64, .int .i64, .int .i64, .int .i64, .int .i64, .int .i64, .int .i64, .int .i64, .int .i64, .int .i64, .int .i64])] n_kraft_Counts ⟨[(.agg x5)]⟩ w_3 fun (r7 : (TT [.int .i64, .int .i64, .int .i64, .int .i64, .int .i64, .int .i64, .int .i64, .int .i64, .int .i64, .int .i64, .int .i64, .int .i64, .int .i64, .int .i64, .int .i64, .int .i64])) (w_6 : World) =>
 Nw 119 ⟨List.replicate 16 (.int .i64 0)⟩ w_6 fun (b9 : Nat) (w_8 : World) =>
 StC (⟨b9, 0, none⟩ : Addr) [(.int .i64 r7.1), (.int .i64 r7.2.1), (.int .i64 r7.2.2.1), (.int .i64 r7.2.2.2.1), (.int .i64 r7.2.2.2.2.1), (.int .i64 r7.2.2.2.2.2.1), (.int .i64 r7.2.2.2.2.2.2.1), (.int .i64 r7.2.2.2.2.2.2.2.1), (.int .i64 r7.2.2.2.2.2.2.2.2.1), (.int .i64 r7.2.2.2.2.2.2.2.2.2.1), (.int .i64 r7.2.2.2.2.2.2.2.2.2.2.1), (.int .i64 r7.2.2.2.2.2.2.2.2.2.2.2.1), (.int .i64 r7.2.2.2.2.2.2.2.2.2.2.2.2.1), (.int .i64 r7.2.2.2.2.2.2.2.2.2.2.2.2.2.1), (.int .i64 r7.2.2.2.2.2.2.2.2.2.2.2.2.2.2.1), (.int .i64 r7.2.2.2.2.2.2.2.2.2.2.2.2.2.2.2.1)] 0 w_8 fun (w_10 : World) =>
 IdxP (⟨b9, 0, none⟩ : Addr) 16 0 1 fun (q11 : Addr) =>
 St q11 (.int .i64 0) w_10 fun (w_12 : World) =>
 ∃ (I_13 : Int → Int → World → Prop) (m_14 : Int → Int → World → Nat), I_13 (0) (1) w_12 ∧
 ∀ (code15 : Int) (n16 : Int), ∀ (w_17 : World), I_13 code15 n16 w_17 →
 IfB (decide ((n16 : Int) ≤ (bits2 : Int)))
 (IdxP (⟨b9, 0, none⟩ : Addr) 16 (i64 ((n16 : Int) - (1 : Int))) 1 fun (q18 : Addr) =>
 Ld kI q18 w_17 fun (x19 : Int) =>
 0 ≤ (1 : Int) ∧
 I_13 ((ishl .i64 ((i64 ((code15 : Int) + (x19 : Int))) : Int) (1 : Int))) ((i64 ((n16 : Int) + (1 : Int)))) w_17 ∧ m_14 ((ishl .i64 ((i64 ((code15 : Int) + (x19 : Int))) : Int) (1 : Int))) ((i64 ((n16 : Int) + (1 : Int)))) w_17 < m_14 code15 n16 w_17)
 (Drw w_17 fun (w_20 : World) =>
 IdxP (⟨b9, 0, none⟩ : Addr) 16 bits2 1 fun (q21 : Addr) =>
 Ld kI q21 w_20 fun (x22 : Int) =>
 R (code15) (x22) w_20)
set_option maxRecDepth 100000 in
theorem prefixdec_first.ok (l1 : (Array Value)) (bits2 : Int) (R : Int → Int → World → Prop) (w : World) (h : prefixdec_first.E l1 bits2 R w) : Cl Try.prog [kI, kI] n_prefixdec_first ⟨[(.agg l1), (.int .i64 bits2)]⟩ w R :=
  calls_of_eq Try.mix Try.f61 [(.agg l1), (.int .i64 bits2)] [kI, kI] R 27 [.tmp 4, .tmp 5] (by kernel_rfl) (by kernel_rfl) (by kernel_rfl) (by kernel_rfl) (by kernel_rfl)
    (.s .o (.s .o (.s .o (.s (.s .o (.b (.l [(4, kI), (7, kI)] (.s (.s .o (.c .o .o)) (.s (.b .o) .o))))) (.s .o .o)))))
    (by kernel_rfl) h
/-- prefixdec.of -/
def prefixdec_of.E (l1 : (Array Value)) (bits2 : Int) (place3 : Int) (R : Int → World → Prop) (w : World) : Prop :=
 Nw 58 l1 w fun (b5 : Nat) (w_4 : World) =>
 Ld (.arr 258) (⟨b5, 0, none⟩ : Addr) w_4 fun (x6 : (Array Value)) =>
 ∃ (I_7 : Int → Int → World → Prop) (m_8 : Int → Int → World → Nat), I_7 (place3) (0) w_4 ∧
 ∀ (place9 : Int) (t10_10 : Int), ∀ (w_11 : World), I_7 place9 t10_10 w_11 →
 IfB (decide ((t10_10 : Int) < (258 : Int)))
 (IdxV (.int .u8) x6 258 t10_10 fun (e12 : Int) =>
 IfB (((i64 e12) : Int) != (bits2 : Int))
 (I_7 (place9) ((i64 ((t10_10 : Int) + (1 : Int)))) w_11 ∧ m_8 (place9) ((i64 ((t10_10 : Int) + (1 : Int)))) w_11 < m_8 place9 t10_10 w_11)
 (IfB ((place9 : Int) == (0 : Int))
 (R (t10_10) w_11)
 (I_7 ((i64 ((place9 : Int) - (1 : Int)))) ((i64 ((t10_10 : Int) + (1 : Int)))) w_11 ∧ m_8 ((i64 ((place9 : Int) - (1 : Int)))) ((i64 ((t10_10 : Int) + (1 : Int)))) w_11 < m_8 place9 t10_10 w_11)))
 (R (0) w_11)
theorem prefixdec_of.ok (l1 : (Array Value)) (bits2 : Int) (place3 : Int) (R : Int → World → Prop) (w : World) (h : prefixdec_of.E l1 bits2 place3 R w) : Cl Try.prog [kI] n_prefixdec_of ⟨[(.agg l1), (.int .i64 bits2), (.int .i64 place3)]⟩ w R :=
  calls_of_eq Try.mix Try.f62 [(.agg l1), (.int .i64 bits2), (.int .i64 place3)] [kI] R 24 [.tmp 6] (by kernel_rfl) (by kernel_rfl) (by kernel_rfl) (by kernel_rfl) (by kernel_rfl)
    (.s .o (.s (.s .o (.b (.l [(2, kI), (10, kI)] (.s .o (.s (.c .o .o) (.s (.b (.s .o (.s (.s .o (.c .o .o)) (.s (.s .o (.c (.s .o .o) .o)) .o)))) .o)))))) (.s .o .o)))
    (by kernel_rfl) h
end Go.Proofs.Ytjnjjibmlalpiaa
/- Fkraft -/
namespace Go.Proofs.Ytjnjjibmlalpiaa
open Go Go.Vc
/-- kraft.Table -/
def kraft_Table.E (l1 : (Array Value)) (R : Bool → World → Prop) (w : World) : Prop :=
 Nw 58 l1 w fun (b3 : Nat) (w_2 : World) =>
 Ld (.arr 258) (⟨b3, 0, none⟩ : Addr) w_2 fun (x4 : (Array Value)) =>
 Cl Try.prog [kB] n_kraft_Complete ⟨[(.agg x4)]⟩ w_2 fun (r6 : Bool) (w_5 : World) =>
 IfB r6
 (IdxP (⟨b3, 0, none⟩ : Addr) 258 257 1 fun (q7 : Addr) =>
 Ld (kInt .u8) q7 w_5 fun (x8 : Int) =>
 R ((decide ((x8 : Int) > (0 : Int)))) w_5)
 (R (false) w_5)
theorem kraft_Table.ok (l1 : (Array Value)) (R : Bool → World → Prop) (w : World) (h : kraft_Table.E l1 R w) : Cl Try.prog [kB] n_kraft_Table ⟨[(.agg l1)]⟩ w R :=
  calls_of_eq Try.mix Try.f58 [(.agg l1)] [kB] R 10 [.tmp 2] (by kernel_rfl) (by kernel_rfl) (by kernel_rfl) (by kernel_rfl) (by kernel_rfl)
    (.s .o (.s .o .o))
    (by kernel_rfl) h
/-- kraft.Complete -/
def kraft_Complete.E (l1 : (Array Value)) (R : Bool → World → Prop) (w : World) : Prop :=
 Nw 58 l1 w fun (b3 : Nat) (w_2 : World) =>
 Ld (.arr 258) (⟨b3, 0, none⟩ : Addr) w_2 fun (x4 : (Array Value)) =>
 Cl Try.prog [kI] n_kraft_Sum ⟨[(.agg x4)]⟩ w_2 fun (r6 : Int) (w_5 : World) =>
 R (((r6 : Int) == (32768 : Int))) w_5
theorem kraft_Complete.ok (l1 : (Array Value)) (R : Bool → World → Prop) (w : World) (h : kraft_Complete.E l1 R w) : Cl Try.prog [kB] n_kraft_Complete ⟨[(.agg l1)]⟩ w R :=
  calls_of_eq Try.mix Try.f74 [(.agg l1)] [kB] R 6 [.tmp 2] (by kernel_rfl) (by kernel_rfl) (by kernel_rfl) (by kernel_rfl) (by kernel_rfl)
    (.s .o (.s .o .o))
    (by kernel_rfl) h
set_option maxRecDepth 100000 in
/-- kraft.Counts -/
def kraft_Counts.E (l1 : (Array Value)) (R : (TT [.int .i64, .int .i64, .int .i64, .int .i64, .int .i64, .int .i64, .int .i64, .int .i64, .int .i64, .int .i64, .int .i64, .int .i64, .int .i64, .int .i64, .int .i64, .int .i64]) → World → Prop) (w : World) : Prop :=
 Nw 58 l1 w fun (b3 : Nat) (w_2 : World) =>
 Nw 119 ⟨List.replicate 16 (.int .i64 0)⟩ w_2 fun (b5 : Nat) (w_4 : World) =>
 Ld (.arr 258) (⟨b3, 0, none⟩ : Addr) w_4 fun (x6 : (Array Value)) =>
 ∃ (I_7 : Int → World → Prop) (m_8 : Int → World → Nat), I_7 (0) w_4 ∧
 ∀ (t6_9 : Int), ∀ (w_10 : World), I_7 t6_9 w_10 →
 IfB (decide ((t6_9 : Int) < (258 : Int)))
 (IdxV (.int .u8) x6 258 t6_9 fun (e11 : Int) =>
 IfB (decide (((i64 e11) : Int) < (16 : Int)))
 (IdxP (⟨b5, 0, none⟩ : Addr) 16 e11 1 fun (q12 : Addr) =>
 Ld kI q12 w_10 fun (x13 : Int) =>
 IdxP (⟨b5, 0, none⟩ : Addr) 16 e11 1 fun (q14 : Addr) =>
 St q14 (.int .i64 (i64 ((x13 : Int) + (1 : Int)))) w_10 fun (w_15 : World) =>
 I_7 ((i64 ((t6_9 : Int) + (1 : Int)))) w_15 ∧ m_8 ((i64 ((t6_9 : Int) + (1 : Int)))) w_15 < m_8 t6_9 w_10)
 (I_7 ((i64 ((t6_9 : Int) + (1 : Int)))) w_10 ∧ m_8 ((i64 ((t6_9 : Int) + (1 : Int)))) w_10 < m_8 t6_9 w_10))
 (Ld (.st [.int .i64, .int .i64, .int .i64, .int .i64, .int .i64, .int .i64, .int .i64, .int .i64, .int .i64, .int .i64, .int .i64, .int .i64, .int .i64, .int .i64, .int .i64, .int .i64]) (⟨b5, 0, none⟩ : Addr) w_10 fun (x16 : (TT [.int .i64, .int .i64, .int .i64, .int .i64, .int .i64, .int .i64, .int .i64, .int .i64, .int .i64, .int .i64, .int .i64, .int .i64, .int .i64, .int .i64, .int .i64, .int .i64])) =>
 StC (⟨b5, 0, none⟩ : Addr) [(.int .i64 x16.1), (.int .i64 x16.2.1), (.int .i64 x16.2.2.1), (.int .i64 x16.2.2.2.1), (.int .i64 x16.2.2.2.2.1), (.int .i64 x16.2.2.2.2.2.1), (.int .i64 x16.2.2.2.2.2.2.1), (.int .i64 x16.2.2.2.2.2.2.2.1), (.int .i64 x16.2.2.2.2.2.2.2.2.1), (.int .i64 x16.2.2.2.2.2.2.2.2.2.1), (.int .i64 x16.2.2.2.2.2.2.2.2.2.2.1), (.int .i64 x16.2.2.2.2.2.2.2.2.2.2.2.1), (.int .i64 x16.2.2.2.2.2.2.2.2.2.2.2.2.1), (.int .i64 x16.2.2.2.2.2.2.2.2.2.2.2.2.2.1), (.int .i64 x16.2.2.2.2.2.2.2.2.2.2.2.2.2.2.1), (.int .i64 x16.2.2.2.2.2.2.2.2.2.2.2.2.2.2.2.1)] 0 w_10 fun (w_17 : World) =>
 Ld (.st [.int .i64, .int .i64, .int .i64, .int .i64, .int .i64, .int .i64, .int .i64, .int .i64, .int .i64, .int .i64, .int .i64, .int .i64, .int .i64, .int .i64, .int .i64, .int .i64]) (⟨b5, 0, none⟩ : Addr) w_17 fun (res18 : (TT [.int .i64, .int .i64, .int .i64, .int .i64, .int .i64, .int .i64, .int .i64, .int .i64, .int .i64, .int .i64, .int .i64, .int .i64, .int .i64, .int .i64, .int .i64, .int .i64])) =>
 R (res18) w_17)
set_option maxRecDepth 100000 in
theorem kraft_Counts.ok (l1 : (Array Value)) (R : (TT [.int .i64, .int .i64, .int .i64, .int .i64, .int .i64, .int .i64, .int .i64, .int .i64, .int .i64, .int .i64, .int .i64, .int .i64, .int .i64, .int .i64, .int .i64, .int .i64]) → World → Prop) (w : World) (h : kraft_Counts.E l1 R w) : Cl Try.prog [(.st [.int .i64, .int .i64, .int .i64, .int .i64, .int .i64, .int .i64, .int .i64, .int .i64, .int .i64, .int .i64, .int .i64, .int .i64, .int .i64, .int .i64, .int .i64, .int .i64])] n_kraft_Counts ⟨[(.agg l1)]⟩ w R :=
  calls_of_eq Try.mix Try.f75 [(.agg l1)] [(.st [.int .i64, .int .i64, .int .i64, .int .i64, .int .i64, .int .i64, .int .i64, .int .i64, .int .i64, .int .i64, .int .i64, .int .i64, .int .i64, .int .i64, .int .i64, .int .i64])] R 19 [.cell 2 119] (by kernel_rfl) (by kernel_rfl) (by kernel_rfl) (by kernel_rfl) (by kernel_rfl)
    (.s .o (.s (.s .o (.b (.l [(6, kI)] (.s .o (.s (.c .o .o) (.s (.b (.s .o (.s .o (.c .o .o)))) .o)))))) (.s .o .o)))
    (by kernel_rfl) h
/-- kraft.Sum -/
def kraft_Sum.E (l1 : (Array Value)) (R : Int → World → Prop) (w : World) : Prop :=
 Nw 58 l1 w fun (b3 : Nat) (w_2 : World) =>
 Ld (.arr 258) (⟨b3, 0, none⟩ : Addr) w_2 fun (x4 : (Array Value)) =>
 ∃ (I_5 : Int → Int → World → Prop) (m_6 : Int → Int → World → Nat), I_5 (0) (0) w_2 ∧
 ∀ (sum7 : Int) (t6_8 : Int), ∀ (w_9 : World), I_5 sum7 t6_8 w_9 →
 IfB (decide ((t6_8 : Int) < (258 : Int)))
 (IdxV (.int .u8) x4 258 t6_8 fun (e10 : Int) =>
 Cl Try.prog [kI] n_kraft_share ⟨[(.int .u8 e10)]⟩ w_9 fun (r12 : Int) (w_11 : World) =>
 I_5 ((i64 ((sum7 : Int) + (r12 : Int)))) ((i64 ((t6_8 : Int) + (1 : Int)))) w_11 ∧ m_6 ((i64 ((sum7 : Int) + (r12 : Int)))) ((i64 ((t6_8 : Int) + (1 : Int)))) w_11 < m_6 sum7 t6_8 w_9)
 (R (sum7) w_9)
theorem kraft_Sum.ok (l1 : (Array Value)) (R : Int → World → Prop) (w : World) (h : kraft_Sum.E l1 R w) : Cl Try.prog [kI] n_kraft_Sum ⟨[(.agg l1)]⟩ w R :=
  calls_of_eq Try.mix Try.f81 [(.agg l1)] [kI] R 15 [.tmp 2] (by kernel_rfl) (by kernel_rfl) (by kernel_rfl) (by kernel_rfl) (by kernel_rfl)
    (.s .o (.s (.s .o (.b (.l [(2, kI), (6, kI)] (.s .o (.s (.c .o .o) (.s (.b (.s .o .o)) .o)))))) (.s .o .o)))
    (by kernel_rfl) h
/-- kraft.share -/
def kraft_share.E (n1 : Int) (R : Int → World → Prop) (w : World) : Prop :=
 IfB ((n1 : Int) == (0 : Int))
 (R (0) w)
 (IfB (decide ((n1 : Int) > (15 : Int)))
 (R (32769) w)
 (0 ≤ (n1 : Int) ∧
 R ((ishr .i64 (32768 : Int) (n1 : Int))) w))
theorem kraft_share.ok (n1 : Int) (R : Int → World → Prop) (w : World) (h : kraft_share.E n1 R w) : Cl Try.prog [kI] n_kraft_share ⟨[(.int .u8 n1)]⟩ w R :=
  calls_of_eq Try.mix Try.f84 [(.int .u8 n1)] [kI] R 11 [.tmp 2] (by kernel_rfl) (by kernel_rfl) (by kernel_rfl) (by kernel_rfl) (by kernel_rfl)
    (.s .o (.s (.b (.s .o (.c (.s .o .o) (.s .o (.c (.s .o .o) .o))))) (.s .o .o)))
    (by kernel_rfl) h
end Go.Proofs.Ytjnjjibmlalpiaa
/- CanP -/
namespace Go.Srt
/-- a code length's share of 2^15; too much where it is too long -/
def wt (n : Nat) : Nat := if n = 0 then 0 else if n > 15 then 32769 else 2 ^ (15 - n)
def ksum (l : List Nat) : Nat := (l.map wt).sum
theorem wt_le (n : Nat) : wt n ≤ 32769 := by
  unfold wt
  split
  · omega
  · split
    · omega
    · have : 2 ^ (15 - n) ≤ 2 ^ 15 := Nat.pow_le_pow_right (by decide) (by omega)
      omega
theorem ksum_le : ∀ l : List Nat, ksum l ≤ 32769 * l.length
  | [] => by simp [ksum]
  | x :: l => by
    have := ksum_le l
    have := wt_le x
    simp only [ksum, List.map_cons, List.sum_cons, List.length_cons] at *
    omega
theorem ksum_succ {l : List Nat} {k : Nat} (h : k < l.length) : ksum (l.take (k + 1)) = ksum (l.take k) + wt l[k] := by
  unfold ksum
  rw [List.take_add_one, List.map_append, List.sum_append, List.getElem?_eq_getElem h]
  simp only [Option.toList, List.map_cons, List.map_nil, List.sum_cons, List.sum_nil, Nat.add_zero]
theorem ksum_take {l : List Nat} {k : Nat} : ksum (l.take k) ≤ ksum l := by
  have := congrArg ksum (List.take_append_drop k l)
  unfold ksum at this ⊢
  rw [List.map_append, List.sum_append] at this
  omega
theorem wt_mem {l : List Nat} {x : Nat} (h : x ∈ l) : wt x ≤ ksum l := by
  obtain ⟨i, hi, rfl⟩ := List.getElem_of_mem h
  have := ksum_succ hi
  have := ksum_take (l := l) (k := i + 1)
  omega
/-- the symbols that have a code -/
def used (l : List Nat) : List Nat := (List.range l.length).filter fun s => decide (0 < l.getD s 0)
def lkey (l : List Nat) (i : Int) : Int := (l.getD i.toNat 0 : Int)
/-- the symbols in order -/
def IsOrd (l ys : List Nat) : Prop := ys.Perm (used l) ∧ ys.Pairwise fun a b => l.getD a 0 < l.getD b 0 ∨ (l.getD a 0 = l.getD b 0 ∧ a < b)
end Go.Srt
/- Kr -/
namespace Go.Proofs.Ytjnjjibmlalpiaa
open Go Go.Vc Go.Srt
section
variable {E w : World} {F : List HP}
theorem share_c {n : Nat} {K : Int → World → Prop} (hK : K (wt n : Int) w) : Cl Try.prog [kI] n_kraft_share ⟨[.int .u8 (n : Int)]⟩ w K := by
  refine kraft_share.ok _ _ _ ?_
  unfold kraft_share.E
  unfold wt at hK
  refine IfB.mk (fun h => ?_) (fun h => IfB.mk (fun h2 => ?_) (fun h2 => ⟨by omega, ?_⟩))
  · have h : n = 0 := by have := of_decide_eq_true h; omega
    rw [if_pos h] at hK; exact hK
  · have h : n ≠ 0 := by have := of_decide_eq_false h; omega
    have h2 : n > 15 := by have := of_decide_eq_true h2; omega
    rw [if_neg h, if_pos h2] at hK; exact hK
  · have h : n ≠ 0 := by have := of_decide_eq_false h; omega
    have h2 : ¬ n > 15 := by have := of_decide_eq_false h2; omega
    rw [if_neg h, if_neg h2] at hK
    have e := ishr_nat (k := .i64) (a := 32768) (b := n) (by have : IntKind.bits .i64 = 64 := rfl; omega)
    rw [show (32768 : Int) = ((32768 : Nat) : Int) from rfl, e]
    have : 32768 / 2 ^ n = 2 ^ (15 - n) := by
      have e15 : (2 : Nat) ^ 15 = 32768 := by decide
      have e2 := Nat.pow_sub_mul_pow 2 (show n ≤ 15 by omega)
      rw [e15] at e2
      exact Nat.div_eq_of_eq_mul_left (Nat.two_pow_pos n) e2.symm
    rw [this]; exact hK
set_option maxRecDepth 20000 in
theorem kraftSum_c {l : List Nat} {K : Int → World → Prop} (h : Hp E w F) (hl : l.length = 258) (hK : ∀ w', Hp E w' F → K (ksum l : Int) w') : Cl Try.prog [kI] n_kraft_Sum ⟨[.agg (ai .u8 l)]⟩ w K := by
  refine kraft_Sum.ok _ _ _ ?_
  unfold kraft_Sum.E
  refine Nw.mk h fun b w1 h1 => Ld.arr h1 (by rw [ai_size, hl]) ?_
  have hb := ksum_le l
  refine ⟨fun sm i w' => ∃ k : Nat, i = (k : Int) ∧ k ≤ 258 ∧ sm = (ksum (l.take k) : Int) ∧ Hp E w' F, fun _ i _ => 258 - i.toNat, ⟨0, rfl, by omega, by simp [ksum], h1.drop⟩, ?_⟩
  intro sm i w' hI
  obtain ⟨k, hi, hk, hs, hh⟩ := hI
  subst hi
  subst hs
  refine IfB.mk (fun hlt => ?_) (fun hge => ?_)
  · have hlt : k < 258 := by have := of_decide_eq_true hlt; omega
    have hkl : k < l.length := by omega
    refine IdxV.rd (s := .int .u8) (by omega) (by omega) (l[k] : Int) (by rw [Int.toNat_natCast]; exact ai_get hkl) (share_c ?_)
    have e := ksum_succ hkl
    have := ksum_take (l := l) (k := k + 1)
    rw [i64_id (x := (ksum (l.take k) : Int) + (wt l[k] : Int)) (by omega), i64_id (by omega)]
    exact ⟨⟨k + 1, rfl, by omega, by rw [e]; rfl, hh⟩, by dsimp only; omega⟩
  · have hge : k = 258 := by have := of_decide_eq_false hge; omega
    subst hge
    rw [← hl, List.take_length]
    exact hK _ hh
end
end Go.Proofs.Ytjnjjibmlalpiaa
