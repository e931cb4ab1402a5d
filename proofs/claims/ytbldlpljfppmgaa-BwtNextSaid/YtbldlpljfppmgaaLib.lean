/-
  Owned slices, append, reading of slices, integer arithmetic without wrap. Conditions: none; every theorem here is about any program.
-/
import Derived.Test.YtbldlpljfppmgaaSep
namespace Go.Vc
open Go

/-! numbers -/
theorem i64_id {x : Int} (h : -9223372036854775808 ≤ x ∧ x ≤ 9223372036854775807) : i64 x = x := IntWalk.i64_in x h
theorem u64_id {x : Int} (h : 0 ≤ x ∧ x ≤ 18446744073709551615) : u64 x = x := IntWalk.u64_in x h
theorem u32_id {x : Int} (h : 0 ≤ x ∧ x ≤ 4294967295) : u32 x = x := IntWalk.u32_in x h
theorem u16_id {x : Int} (h : 0 ≤ x ∧ x ≤ 65535) : u16 x = x := IntWalk.u16_in x h
theorem i32_id {x : Int} (h : -2147483648 ≤ x ∧ x ≤ 2147483647) : i32 x = x := IntWalk.i32_in x h
theorem u8_mod (x : Int) : u8 x = x % 256 := by
  show IntKind.wrap .u8 x = x % 256
  simp [IntKind.wrap, IntKind.bits, IntKind.signed]
theorem u8_id {x : Int} (h : 0 ≤ x ∧ x ≤ 255) : u8 x = x := by rw [u8_mod]; omega
theorem u32_mod (x : Int) : u32 x = x % 4294967296 := by
  show IntKind.wrap .u32 x = _
  simp [IntKind.wrap, IntKind.bits, IntKind.signed]
theorem u64_mod (x : Int) : u64 x = x % 18446744073709551616 := by
  show IntKind.wrap .u64 x = _
  simp [IntKind.wrap, IntKind.bits, IntKind.signed]
theorem ofInt_nat (n a : Nat) (h : a < 2 ^ n) : (BitVec.ofInt n (a : Int)).toNat = a := by
  rw [BitVec.toNat_ofInt]
  have : ((a : Int) % ((2 ^ n : Nat) : Int)) = ((a % 2 ^ n : Nat) : Int) := by omega
  rw [this, Int.toNat_natCast, Nat.mod_eq_of_lt h]
theorem wrap_nat {k : IntKind} {a : Nat} (h : (a : Int) ≤ k.max) : k.wrap (a : Int) = a := by
  cases k
  · have : IntKind.max .i8 = 127 := rfl
    exact IntWalk.i8_in _ (by omega)
  · have : IntKind.max .i16 = 32767 := rfl
    exact IntWalk.i16_in _ (by omega)
  · have : IntKind.max .i32 = 2147483647 := rfl
    exact IntWalk.i32_in _ (by omega)
  · have : IntKind.max .i64 = 9223372036854775807 := rfl
    exact IntWalk.i64_in _ (by omega)
  · have : IntKind.max .u8 = 255 := rfl
    exact IntWalk.u8_in _ (by omega)
  · have : IntKind.max .u16 = 65535 := rfl
    exact IntWalk.u16_in _ (by omega)
  · have : IntKind.max .u32 = 4294967295 := rfl
    exact IntWalk.u32_in _ (by omega)
  · have : IntKind.max .u64 = 18446744073709551615 := rfl
    exact IntWalk.u64_in _ (by omega)
theorem max_lt (k : IntKind) : (k.max : Int) < 2 ^ k.bits := by cases k <;> decide
theorem lt_bits {k : IntKind} {a : Nat} (ha : (a : Int) ≤ k.max) : a < 2 ^ k.bits := by
  have := max_lt k
  have h2 : (a : Int) < 2 ^ k.bits := Int.lt_of_le_of_lt ha this
  exact_mod_cast h2
theorem ior_nat {k : IntKind} {a b : Nat} (ha : (a : Int) ≤ k.max) (hb : (b : Int) ≤ k.max) (h : ((a ||| b : Nat) : Int) ≤ k.max) : ior k a b = ((a ||| b : Nat) : Int) := by
  unfold ior
  rw [BitVec.toNat_or, ofInt_nat _ _ (lt_bits ha), ofInt_nat _ _ (lt_bits hb), wrap_nat h]
theorem iand_nat {k : IntKind} {a b : Nat} (ha : (a : Int) ≤ k.max) (hb : (b : Int) ≤ k.max) : iand k a b = ((a &&& b : Nat) : Int) := by
  unfold iand
  rw [BitVec.toNat_and, ofInt_nat _ _ (lt_bits ha), ofInt_nat _ _ (lt_bits hb), wrap_nat]
  have := Nat.and_le_left (n := a) (m := b)
  omega
theorem ixor_nat {k : IntKind} {a b : Nat} (ha : (a : Int) ≤ k.max) (hb : (b : Int) ≤ k.max) (h : ((a ^^^ b : Nat) : Int) ≤ k.max) : ixor k a b = ((a ^^^ b : Nat) : Int) := by
  unfold ixor
  rw [BitVec.toNat_xor, ofInt_nat _ _ (lt_bits ha), ofInt_nat _ _ (lt_bits hb), wrap_nat h]
theorem ishr_nat {k : IntKind} {a b : Nat} (hb : b ≤ k.bits) : ishr k a b = ((a / 2 ^ b : Nat) : Int) := by
  unfold ishr
  rw [Int.toNat_natCast, Nat.min_eq_left hb, Int.fdiv_eq_ediv_of_nonneg _ (by exact_mod_cast Nat.zero_le _)]
  exact_mod_cast rfl
theorem ishl_nat {k : IntKind} {a b : Nat} (hb : b ≤ k.bits) (h : ((a * 2 ^ b : Nat) : Int) ≤ k.max) : ishl k a b = ((a * 2 ^ b : Nat) : Int) := by
  unfold ishl
  rw [Int.toNat_natCast, Nat.min_eq_left hb]
  have : (a : Int) * 2 ^ b = ((a * 2 ^ b : Nat) : Int) := by push_cast; rfl
  rw [this, wrap_nat h]

/-! addresses -/
theorem add_mk (b o n : Nat) : (⟨b, o, none⟩ : Addr).add n = ⟨b, o + n, none⟩ := by
  unfold Addr.add
  split
  · rename_i h; subst h; rfl
  · rfl
theorem add_zero (p : Addr) : p.add 0 = p := by simp [Addr.add]

/-! slices that are read -/
/-- slice s holds the cells xs, sz to an element -/
def SlT (sz : Nat) (s : Sl) (xs : List Value) (w : World) : Prop :=
  xs.length = s.len * sz ∧ ∀ i (h : i < xs.length), ∃ p, s.base = some p ∧ w.cell? (p.add i) = some xs[i]
/-- slice s is owned: its row of cells is this assertion's, from its place to its capacity -/
def OwnS (sz : Nat) (s : Sl) (xs : List Value) : HP := fun f =>
  xs.length = s.len * sz ∧ ((s.base = none ∧ s.len = 0 ∧ s.cap = 0 ∧ f = Frag.emp) ∨
  ∃ b off arr t, s.base = some ⟨b, off, none⟩ ∧ s.len ≤ s.cap ∧ off + s.cap * sz ≤ arr.size ∧ (∀ i (h : i < xs.length), arr[off + i]? = some xs[i]) ∧ f = Frag.one b (.cells arr t (0, 0)))
section
variable {E w w' : World} {F : List HP} {sz : Nat} {s : Sl} {xs ys : List Value}
theorem OwnS.nil (sz : Nat) : OwnS sz ⟨none, 0, 0⟩ [] Frag.emp := ⟨by simp, .inl ⟨rfl, rfl, rfl, rfl⟩⟩
theorem Hp.ownNil (h : Hp E w F) (sz : Nat) : Hp E w (OwnS sz ⟨none, 0, 0⟩ [] :: F) := h.emp (OwnS.nil sz)
theorem Hp.ownNew {b : Nat} {arr : Array Value} {t : TypeId} {n : Nat} (h : Hp E w (Blk b (.cells arr t (0, 0)) :: F)) (hn : arr.toList.length = n * sz) :
    Hp E w (OwnS sz ⟨some ⟨b, 0, none⟩, n, n⟩ arr.toList :: F) := by
  refine h.weak fun f hf => ⟨hn, .inr ⟨b, 0, arr, t, rfl, Nat.le_refl _, ?_, ?_, hf⟩⟩
  · have : arr.size = n * sz := by simpa using hn
    simp only [this]; omega
  · intro i hi
    have hi' : i < arr.size := by simpa using hi
    simp [hi']
theorem Hp.ownLen (h : Hp E w (OwnS sz s xs :: F)) : xs.length = s.len * sz := by
  obtain ⟨f, a, g, k, hd, e, h1, h2⟩ := h.frag
  exact h1.1
theorem Hp.ownCap (h : Hp E w (OwnS sz s xs :: F)) : s.len ≤ s.cap := by
  obtain ⟨f, a, g, k, hd, e, h1, h2⟩ := h.frag
  rcases h1.2 with ⟨h1, h2, h3, _⟩ | ⟨b, off, arr, t, h1, h2, _⟩
  · omega
  · exact h2
/-- an owned slice: nil, or a row -/
theorem Hp.ownOpen (h : Hp E w (OwnS sz s xs :: F)) : (s = ⟨none, 0, 0⟩ ∧ xs = [] ∧ Hp E w F) ∨
    ∃ b off arr t, s.base = some ⟨b, off, none⟩ ∧ s.len ≤ s.cap ∧ off + s.cap * sz ≤ arr.size ∧ (∀ i (h : i < xs.length), arr[off + i]? = some xs[i]) ∧ Hp E w (Blk b (.cells arr t (0, 0)) :: F) := by
  have hl := h.ownLen
  obtain ⟨f, a, g, k, hd, rfl, h1, h2⟩ := h.frag
  rcases h1.2 with ⟨h3, h4, h5, h6⟩ | ⟨b, off, arr, t, h3, h4, h5, h6, h7⟩
  · refine .inl ⟨by cases s; simp_all, ?_, h.drop⟩
    have : xs.length = 0 := by rw [hl, h4]; simp
    exact List.length_eq_zero_iff.1 this
  · exact .inr ⟨b, off, arr, t, h3, h4, h5, h6, h.os, h.output, h.tape, _, a, g, k, hd, rfl, h7, h2⟩
theorem Hp.ownShut {b off : Nat} {arr : Array Value} {t : TypeId} (h : Hp E w (Blk b (.cells arr t (0, 0)) :: F)) (hl : xs.length = s.len * sz) (h1 : s.base = some ⟨b, off, none⟩) (h2 : s.len ≤ s.cap) (h3 : off + s.cap * sz ≤ arr.size)
    (h4 : ∀ i (h : i < xs.length), arr[off + i]? = some xs[i]) : Hp E w (OwnS sz s xs :: F) :=
  h.weak fun _ hf => ⟨hl, .inr ⟨b, off, arr, t, h1, h2, h3, h4, hf⟩⟩
theorem Tells.own : Tells (OwnS sz s xs :: F) (SlT sz s xs) := by
  rintro w f a ⟨g, k, hd, rfl, ⟨hl, h1⟩, h2⟩
  refine ⟨hl, fun i hi => ?_⟩
  rcases h1 with ⟨h3, h4, h5, _⟩ | ⟨b, off, arr, t, h3, h4, h5, h6, rfl⟩
  · rw [hl, h4] at hi; simp at hi
  · refine ⟨_, h3, ?_⟩
    have : w.heap[b]? = some (.cells arr t (0, 0)) := a b _ (by simp [Frag.add, Frag.one])
    rw [add_mk]
    simp only [World.cell?, this]
    exact h6 i hi
theorem Tells.cell {W : World} {p : Addr} {v : Value} (h : W.cell? p = some v) : Tells (Old W :: F) (fun w => w.cell? p = some v) := by
  refine Tells.old fun w hw => ?_
  have hlt : p.block < W.heap.size := by
    unfold World.cell? at h
    rcases Nat.lt_or_ge p.block W.heap.size with hh | hh
    · exact hh
    · simp [Array.getElem?_eq_none hh] at h
  rw [← h]
  unfold World.cell?
  rw [hw _ hlt]
theorem Tells.slT {W : World} (h : SlT sz s xs W) : Tells (Old W :: F) (SlT sz s xs) := by
  intro w f a b
  refine ⟨h.1, fun i hi => ?_⟩
  obtain ⟨p, hp, hc⟩ := h.2 i hi
  exact ⟨p, hp, (Tells.cell hc) w f a b⟩
theorem Idx.mk {i : Int} {K : Addr → Prop} {p : Addr} (hp : s.base = some p) (h0 : 0 ≤ i) (h1 : i < (s.len : Int)) (h : K (p.add (i.toNat * sz))) : Idx s i sz K := ⟨p, hp, h0, h1, h⟩
/-- an element of one cell is read -/
theorem Idx.rd {i : Int} {K : Addr → Prop} (hs : SlT 1 s xs w) (h0 : 0 ≤ i) (h1 : i < (s.len : Int)) (h : ∀ p (hi : i.toNat < xs.length), w.cell? p = some xs[i.toNat] → K p) : Idx s i 1 K := by
  have hl : i.toNat < xs.length := by rw [hs.1]; omega
  obtain ⟨p, hp, hc⟩ := hs.2 _ hl
  exact ⟨p, hp, h0, h1, h _ hl (by simpa using hc)⟩
/-- a cell of an element of several cells is read -/
theorem Idx.rdn {i : Int} {K : Addr → Prop} (hs : SlT sz s xs w) (hz : 0 < sz) (h0 : 0 ≤ i) (h1 : i < (s.len : Int)) (h : ∀ p, (∀ j (hj : i.toNat * sz + j < xs.length), j < sz → w.cell? (p.add j) = some xs[i.toNat * sz + j]) → K p) : Idx s i sz K := by
  have hlt : i.toNat < s.len := by omega
  have hmul : i.toNat * sz + sz ≤ s.len * sz := by
    have : (i.toNat + 1) * sz ≤ s.len * sz := Nat.mul_le_mul_right _ hlt
    rw [Nat.succ_mul] at this; exact this
  obtain ⟨p, hp, _⟩ := hs.2 (i.toNat * sz) (by rw [hs.1]; omega)
  refine ⟨p, hp, h0, h1, h _ fun j hj hjs => ?_⟩
  obtain ⟨q, hq, hc⟩ := hs.2 (i.toNat * sz + j) hj
  have : q = p := Option.some.inj (hq.symm.trans hp)
  subst this
  rw [← hc]
  congr 1
  unfold Addr.add
  by_cases e1 : i.toNat * sz = 0 <;> by_cases e2 : j = 0 <;> simp [e1, e2, Nat.add_assoc]

/-! a row of cells written -/
theorem Hp.setRow {b off : Nat} {t : TypeId} : ∀ (vs : List Value) (i : Nat) (w : World) (arr : Array Value), Hp E w (Blk b (.cells arr t (0, 0)) :: F) → off + i + vs.length ≤ arr.size →
    ∃ arr' : Array Value, arr'.size = arr.size ∧ (∀ j (h : j < vs.length), arr'[off + i + j]? = some vs[j]) ∧ (∀ j, j < off + i → arr'[j]? = arr[j]?) ∧
      Hp E (StA.setRow w ⟨b, off, none⟩ vs i) (Blk b (.cells arr' t (0, 0)) :: F)
  | [], i, w, arr, h, _ => ⟨arr, rfl, fun j h => by simp at h, fun _ _ => rfl, h⟩
  | v :: vs, i, w, arr, h, hl => by
    simp only [List.length_cons] at hl
    have h1 := h.setCell (i := off + i) v
    have hsz : off + (i + 1) + vs.length ≤ (arr.setIfInBounds (off + i) v).size := by rw [Array.size_setIfInBounds]; omega
    obtain ⟨arr', e1, e2, e3, h2⟩ := Hp.setRow (b := b) (off := off) (t := t) vs (i + 1) _ (arr.setIfInBounds (off + i) v) h1 hsz
    refine ⟨arr', by simpa using e1, fun j hj => ?_, fun j hj => ?_, ?_⟩
    · cases j with
      | zero =>
        rw [Nat.add_zero, e3 _ (by omega)]
        simp [show off + i < arr.size by omega]
      | succ j =>
        have := e2 j (by simp at hj; omega)
        rw [show off + i + (j + 1) = off + (i + 1) + j by omega]
        simpa using this
    · rw [e3 _ (by omega), Array.getElem?_setIfInBounds_ne (by omega)]
    · rw [StA.setRow, add_mk]; exact h2
theorem run_row {P : Program} {b off : Nat} {arr : Array Value} {t : TypeId} (h : Hp E w (Blk b (.cells arr t (0, 0)) :: F)) (vs : List Value) (i : Nat) (hl : off + i + vs.length ≤ arr.size) (hv : ∀ v ∈ vs, scalarB v = true) :
    (storeCells ⟨b, off, none⟩ vs i).run P w = .ok () (StA.setRow w ⟨b, off, none⟩ vs i) := by
  refine run_setRow vs i w fun j hj => ⟨hv _ (List.getElem_mem hj), ?_, ?_⟩
  · rw [add_mk, h.cell]; simp; omega
  · rw [add_mk]; simp [World.frozen?, h.blk]
theorem grow_le : ∀ (r c n : Nat), c ≤ 2 * n + 1024 → Builtin.growBy n r c ≤ 2 * n + 1024
  | 0, c, n, h => h
  | r + 1, c, n, h => by
    unfold Builtin.growBy
    split
    · exact h
    · exact grow_le r _ n (by omega)
theorem next_le {n c : Nat} (h : c < n) : Builtin.nextslicecap n c ≤ 2 * n + 1024 := by
  unfold Builtin.nextslicecap
  split
  · omega
  · split
    · omega
    · exact grow_le 4 c n (by omega)
/-- what an append needs to know of its element type -/
structure ElemT (P : Program) (t e : TypeId) (sz bytes : Nat) : Prop where
  und : P.underlying t = some (.slice e)
  info : ∃ it z, P.info? e = some it ∧ it.size = sz ∧ it.bytes = bytes ∧ it.zero = some z ∧ z.cells.size = sz
def elemB (P : Program) (e : TypeId) (sz bytes : Nat) : Bool :=
  match P.info? e with
  | some it => it.size == sz && it.bytes == bytes && (match it.zero with | some z => z.cells.size == sz | none => false)
  | none => false
theorem ElemT.of {P : Program} {t e : TypeId} {sz bytes : Nat} (h1 : P.underlying t = some (.slice e)) (h2 : elemB P e sz bytes = true) : ElemT P t e sz bytes := by
  refine ⟨h1, ?_⟩
  unfold elemB at h2
  split at h2
  · rename_i it hi
    simp only [Bool.and_eq_true, beq_iff_eq] at h2
    obtain ⟨⟨h2, h3⟩, h4⟩ := h2
    split at h4
    · rename_i z hz
      exact ⟨it, z, hi, h2, h3, hz, by simpa using h4⟩
    · simp at h4
  · simp at h2
theorem run_cells {P : Program} {vs : List Value} {p : Addr} (h : ∀ i (hi : i < vs.length), w.cell? (p.add i) = some vs[i]) : (loadCells p vs.length).run P w = .ok vs.toArray w := by
  have := loadCellsFrom_run (P := P) (w := w) (a := p) vs 0 #[] (fun j hj => by simpa using h j hj)
  simpa [loadCells] using this
/-- the cells that an append takes from its second argument -/
def Src (sz n : Nat) (x : Value) (ys : List Value) (w : World) : Prop :=
  (∃ b l c, x = .slice b l c ∧ n = l ∧ SlT sz ⟨b, l, c⟩ ys w) ∨ (∃ s : ByteArray, x = .string s ∧ n = s.size ∧ ys = s.data.toList.map fun b => .int .u8 b.toNat)
theorem Src.run {P : Program} {n : Nat} {x : Value} (h : Src sz n x ys w) : (Builtin.firstCells sz n x).run P w = .ok ys.toArray w ∧ (Builtin.lenOf x).run P w = .ok n w := by
  rcases h with ⟨b, l, c, rfl, rfl, hl, hc⟩ | ⟨s, rfl, rfl, rfl⟩
  · refine ⟨?_, rfl⟩
    simp only at hl
    cases b with
    | none =>
      cases ys with
      | nil => rfl
      | cons y ys => obtain ⟨p, hp, _⟩ := hc 0 (by simp); cases hp
    | some p =>
      show (loadCells p (n * sz)).run P w = _
      rw [← hl]
      exact run_cells fun i hi => by obtain ⟨q, hq, hc⟩ := hc i hi; cases hq; exact hc
  · refine ⟨?_, rfl⟩
    show Result.ok ((s.extract 0 s.size).data.map fun b => Value.int .u8 b.toNat) w = _
    congr 1
    have : s.extract 0 s.size = s := by simp
    rw [this]
    apply Array.ext'
    simp
theorem Src.len {n : Nat} {x : Value} (h : Src 1 n x ys w) : ys.length = n := by
  rcases h with ⟨b, l, c, rfl, rfl, hl, hc⟩ | ⟨s, rfl, rfl, rfl⟩
  · simpa using hl
  · simp
theorem zeroCells_size (z : Array Value) (n : Nat) : (Builtin.zeroCells z n).size = n * z.size := by simp [Builtin.zeroCells]
/-- append to an owned slice: it stays owned, and holds what it held and what was appended -/
theorem run_appendK {P : Program} {t tx ty e : TypeId} {bytes n : Nat} {x : Value} {K : Sl → World → Prop} (he : ElemT P t e sz bytes) (hz : 0 < sz) (hx : (∃ e2, P.underlying tx = some (.slice e2)) ∨ P.underlying tx = some .string)
    (hh : Hp E w (OwnS sz s xs :: F)) (hs : Src sz n x ys w) (hyl : ys.length = n * sz) (hys : ∀ y ∈ ys, scalarB y = true) (hb : (2 * (s.len + n) + 1024) * bytes ≤ 2 ^ 48) (hb2 : s.len + n < 2 ^ 62)
    (h : ∀ s' w', Hp E w' (OwnS sz s' (xs ++ ys) :: F) → s'.len = s.len + n → SlT sz s xs w' → K s' w') : Run P (Builtin.append_ #[t, tx] ty ⟨[.slice s.base s.len s.cap, x]⟩) kS w K := by
  obtain ⟨it, z, hi, hsz, hby, hze, hzs⟩ := he.info
  obtain ⟨hs1, hs2⟩ := hs.run (P := P)
  have hlen := hh.ownLen
  have hcap := hh.ownCap
  have hso : (sizeOf e).run P w = .ok sz w := by rw [run_size hi, hsz]
  have step : ∀ v w', (Builtin.append_ #[t, tx] ty ⟨[.slice s.base s.len s.cap, x]⟩).run P w = .ok v w' → (∃ s' : Sl, v = .slice s'.base s'.len s'.cap ∧ Hp E w' (OwnS sz s' (xs ++ ys) :: F) ∧ s'.len = s.len + n ∧ SlT sz s xs w') →
      Run P (Builtin.append_ #[t, tx] ty ⟨[.slice s.base s.len s.cap, x]⟩) kS w K := by
    rintro v w' h1 ⟨s', rfl, h2, h3, h4⟩
    unfold Run
    rw [h1]
    exact h s' w' h2 h3 h4
  have hlen2 : (xs ++ ys).length = (s.len + n) * sz := by rw [List.length_append, hlen, hyl, Nat.add_mul]
  by_cases hfit : s.len + n ≤ s.cap
  · rcases hh.ownOpen with ⟨rfl, rfl, hF⟩ | ⟨b, off, arr, tt, h1, h2, h3, h4, hB⟩
    · have hn0 : n = 0 := by simp at hfit; exact hfit
      subst hn0
      have hy0 : ys = [] := by simpa using hyl
      subst hy0
      refine step (.slice none 0 0) w ?_ ⟨⟨none, 0, 0⟩, rfl, hh, rfl, hh.tells Tells.own⟩
      rcases hx with ⟨e2, hd⟩ | hd <;> simp [Builtin.append_, run_underlying he.und, hso, run_underlying hd, hs1, hs2]
    · have hmul : (s.len + n) * sz ≤ s.cap * sz := Nat.mul_le_mul_right _ hfit
      rw [Nat.add_mul] at hmul
      have hlr : off + s.len * sz + ys.length ≤ arr.size := by omega
      obtain ⟨arr', e1, e2, e3, hB'⟩ := Hp.setRow (off := off) ys (s.len * sz) w arr hB (by omega)
      have hrow := run_row (P := P) (off := off + s.len * sz) hB ys 0 (by omega) hys
      have hro2 : StA.setRow w ⟨b, off + s.len * sz, none⟩ ys 0 = StA.setRow w ⟨b, off, none⟩ ys (s.len * sz) := by
        have key : ∀ (vs : List Value) (w : World) (i : Nat), StA.setRow w ⟨b, off + s.len * sz, none⟩ vs i = StA.setRow w ⟨b, off, none⟩ vs (s.len * sz + i) := by
          intro vs
          induction vs with
          | nil => intro w i; rfl
          | cons v vs ih => intro w i; simp only [StA.setRow, ih, add_mk, Nat.add_assoc]
        simpa using key ys w 0
      refine step (.slice s.base (s.len + n) s.cap) (StA.setRow w ⟨b, off, none⟩ ys (s.len * sz)) ?_ ⟨⟨s.base, s.len + n, s.cap⟩, rfl, ?_, rfl, ⟨hlen, fun i hi => ⟨_, h1, by rw [add_mk, hB'.cell, e3 _ (by omega)]; exact h4 i hi⟩⟩⟩
      · rw [hro2] at hrow
        rcases hx with ⟨e2, hd⟩ | hd <;> simp [Builtin.append_, run_underlying he.und, hso, run_underlying hd, hs1, hs2, hfit, h1, add_mk, hrow]
      · refine Hp.ownShut hB' hlen2 h1 hfit (by simp only; omega) fun i hi => ?_
        by_cases hi2 : i < xs.length
        · rw [e3 _ (by omega), List.getElem_append_left hi2]; exact h4 i hi2
        · rw [List.getElem_append_right (by omega)]
          have := e2 (i - xs.length) (by simp at hi; omega)
          rw [← this]
          congr 1
          omega
  · have hnext : ¬ Builtin.nextslicecap (s.len + n) s.cap * it.bytes > 2 ^ 48 := by
      have := next_le (n := s.len + n) (c := s.cap) (by omega)
      have h2 : Builtin.nextslicecap (s.len + n) s.cap * it.bytes ≤ (2 * (s.len + n) + 1024) * bytes := by rw [hby]; exact Nat.mul_le_mul_right _ this
      omega
    have hmax : ¬ ((s.len + n : Nat) : Int) > IntKind.i64.max := by
      have : IntKind.i64.max = 9223372036854775807 := rfl
      rw [this]; omega
    have hold : (Builtin.firstCells sz s.len (.slice s.base s.len s.cap)).run P w = .ok xs.toArray w := by
      have : Src sz s.len (.slice s.base s.len s.cap) xs w := .inl ⟨s.base, s.len, s.cap, rfl, rfl, hh.tells Tells.own⟩
      exact (this.run (P := P)).1
    generalize hq : Question.cut (.appendCap (s.len + n) s.cap e) (w.tape w.drawn (.appendCap (s.len + n) s.cap e)) = newCap
    have hnc : s.len + n ≤ newCap := by rw [← hq]; exact Nat.le_add_right _ _
    have hF : Hp E w F := hh.drop
    have hD : Hp E w.drew F := hF.drew (n := w.drawn + 1)
    have hold' : (Builtin.firstCells sz s.len (.slice s.base s.len s.cap)).run P w.drew = .ok xs.toArray w.drew := by
      have : Src sz s.len (.slice s.base s.len s.cap) xs w.drew := .inl ⟨s.base, s.len, s.cap, rfl, rfl, (hh.drew (n := w.drawn + 1)).tells Tells.own⟩
      exact (this.run (P := P)).1
    have hs1' : (Builtin.firstCells sz n x).run P w.drew = .ok ys.toArray w.drew := (Src.run (P := P) (w := w.drew) hs).1
    have hA := hD.alloc (.cells (xs.toArray ++ ys.toArray ++ Builtin.zeroCells z.cells (newCap - (s.len + n))) e)
    refine step (.slice (some ⟨w.heap.size, 0, none⟩) (s.len + n) newCap) _ ?_ ⟨⟨some ⟨w.heap.size, 0, none⟩, s.len + n, newCap⟩, rfl, Hp.ownShut hA hlen2 rfl hnc ?_ ?_, rfl, ((hh.drew (n := w.drawn + 1)).alloc (.cells (xs.toArray ++ ys.toArray ++ Builtin.zeroCells z.cells (newCap - (s.len + n))) e)).tells (Tells.cons Tells.own)⟩
    · have hz' : ∀ w : World, (zeroValue e).run P w = .ok z w := by intro w; simp [zeroValue, typeInfo, hi, hze]
      have hti : ∀ w : World, (typeInfo e).run P w = .ok it w := by intro w; simp [typeInfo, hi]
      have hmax' : ¬ (9223372036854775807 < (s.len : Int) + (n : Int) ∧ it.bytes = 0) := by omega
      have hfo : Question.forced (.appendCap (s.len + n) s.cap e) = false := rfl
      rcases hx with ⟨e2, hd⟩ | hd <;> simp [Builtin.append_, run_underlying he.und, hso, run_underlying hd, hs2, hfit, hmax', hti, hnext, hfo, hq, hold', hs1', hz', newRow]
      all_goals rw [← Array.append_assoc, show xs.toArray ++ ys.toArray = (xs ++ ys).toArray by simp]
    · simp only [Array.size_append, List.size_toArray, zeroCells_size, hzs, hlen, hyl]
      have : newCap * sz = (s.len + n) * sz + (newCap - (s.len + n)) * sz := by rw [← Nat.add_mul]; congr 1; omega
      rw [this, Nat.add_mul]; omega
    · intro i hi
      have h1 : i < (xs.toArray ++ ys.toArray).size := by simpa using hi
      rw [Nat.zero_add, Array.getElem?_append_left h1]
      have : (xs.toArray ++ ys.toArray) = (xs ++ ys).toArray := by simp
      rw [this]
      simp only [List.getElem?_toArray]
      exact List.getElem?_eq_getElem hi
theorem run_append {P : Program} {t tx ty e : TypeId} {bytes n : Nat} {x : Value} {K : Sl → World → Prop} (he : ElemT P t e sz bytes) (hz : 0 < sz) (hx : (∃ e2, P.underlying tx = some (.slice e2)) ∨ P.underlying tx = some .string)
    (hh : Hp E w (OwnS sz s xs :: F)) (hs : Src sz n x ys w) (hyl : ys.length = n * sz) (hys : ∀ y ∈ ys, scalarB y = true) (hb : (2 * (s.len + n) + 1024) * bytes ≤ 2 ^ 48) (hb2 : s.len + n < 2 ^ 62)
    (h : ∀ s' w', Hp E w' (OwnS sz s' (xs ++ ys) :: F) → s'.len = s.len + n → K s' w') : Run P (Builtin.append_ #[t, tx] ty ⟨[.slice s.base s.len s.cap, x]⟩) kS w K :=
  run_appendK he hz hx hh hs hyl hys hb hb2 fun s' w' h1 h2 _ => h s' w' h1 h2
end

/-- a function value that is known is called -/
theorem ClV.mk {P : Program} {i : FuncId} {first captured : Array Value} {ks : List Ki} {args : List Value} {w : World} {K : FnK ks (World → Prop)} (ok : okCall P i = true) (h : Cl P ks i ⟨first.toList ++ args ++ captured.toList⟩ w K) :
    ClV P (.func (.func i) first captured) ks args w K := by
  show onB _ _
  rw [ok]; exact h
/-! small steps -/
theorem IfB_t {X Y : Prop} : IfB true X Y = X := rfl
theorem IfB_f {X Y : Prop} : IfB false X Y = Y := rfl
theorem NilCk_some {p : Addr} {K : Addr → Prop} : NilCk (some p) K = K p := rfl
theorem Join_eq {α : Type} (r : α) (k : α → Prop) : Join r k = k r := rfl
section
variable {E w : World} {F : List HP}
/-- a field of an owned block is read -/
theorem Ld.blk {s : Sc} {b i : Nat} {c : Array Value} {t : TypeId} {fr : Nat × Nat} {K : s.T → Prop} (h : Hp E w (Blk b (.cells c t fr) :: F)) (x : s.T) (hx : c[i]? = some (s.enc x)) (hk : K x) : Ld (.sc s) ⟨b, i, none⟩ w K :=
  Ld.sc x (by rw [h.cell]; exact hx) hk
theorem St.blk {v : Value} {K : World → Prop} {b i : Nat} {c : Array Value} {t : TypeId} (hh : Hp E w (Blk b (.cells c t (0, 0)) :: F)) (hi : i < c.size) (hv : scalarB v = true)
    (h : ∀ w', Hp E w' (Blk b (.cells (c.setIfInBounds i v) t (0, 0)) :: F) → K w') : St ⟨b, i, none⟩ v w K := St.mk rfl hh hi hv h
end
def big : Nat := 1099511627776
theorem big_eq : big = 1099511627776 := rfl
def vB (x : Nat) : Value := .int .u8 (x : Int)
def vI (x : Int) : Value := .int .i64 x
theorem vB_scalar {xs : List Nat} : ∀ y ∈ xs.map vB, scalarB y = true := by
  intro y hy
  obtain ⟨x, _, rfl⟩ := List.mem_map.1 hy
  rfl
theorem vI_scalar {xs : List Int} : ∀ y ∈ xs.map vI, scalarB y = true := by
  intro y hy
  obtain ⟨x, _, rfl⟩ := List.mem_map.1 hy
  rfl
/-- a cell of an element of an owned slice is written -/
theorem St.ownN {E w : World} {F : List HP} {sz j : Nat} {s : Sl} {xs : List Value} {i : Int} {v : Value} {K : World → Prop} (hh : Hp E w (OwnS sz s xs :: F)) (hj : j < sz) (h0 : 0 ≤ i) (h1 : i < (s.len : Int)) (hv : scalarB v = true)
    (h : ∀ w', Hp E w' (OwnS sz s (xs.set (i.toNat * sz + j) v) :: F) → K w') : Idx s i sz (fun q => St (q.add j) v w K) := by
  have hl := hh.ownLen
  have hlt : i.toNat < s.len := by omega
  have hmul : i.toNat * sz + sz ≤ s.len * sz := by
    have : (i.toNat + 1) * sz ≤ s.len * sz := Nat.mul_le_mul_right _ hlt
    rw [Nat.succ_mul] at this; exact this
  rcases hh.ownOpen with ⟨rfl, rfl, hF⟩ | ⟨b, off, arr, t, e1, e2, e3, e4, hB⟩
  · simp at hlt
  · have hcm : s.len * sz ≤ s.cap * sz := Nat.mul_le_mul_right _ e2
    refine ⟨_, e1, h0, h1, ?_⟩
    rw [add_mk]
    show St (Addr.add _ j) v w K
    rw [add_mk]
    refine St.mk rfl hB (by omega) hv fun w' h' => h _ ?_
    refine h'.ownShut (by simpa using hl) e1 e2 (by simpa using e3) fun r hr => ?_
    rw [List.length_set] at hr
    rw [Array.getElem?_setIfInBounds, List.getElem_set]
    by_cases hq : i.toNat * sz + j = r
    · rw [if_pos (by omega), if_pos (by omega), if_pos hq]
    · rw [if_neg (by omega), if_neg hq]; exact e4 r hr
/-- an element of one cell of an owned slice is written -/
theorem St.own {E w : World} {F : List HP} {s : Sl} {xs : List Value} {i : Int} {v : Value} {K : World → Prop} (hh : Hp E w (OwnS 1 s xs :: F)) (h0 : 0 ≤ i) (h1 : i < (s.len : Int)) (hv : scalarB v = true)
    (h : ∀ w', Hp E w' (OwnS 1 s (xs.set i.toNat v) :: F) → K w') : Idx s i 1 (fun q => St q v w K) := by
  have := St.ownN (sz := 1) (j := 0) (K := K) hh (by decide) h0 h1 hv (by simpa using h)
  simpa only [add_zero] using this
theorem Tells.blk {F : List HP} {b n m sz : Nat} {arr : Array Value} {xs : List Value} {t : TypeId} {fr : Nat × Nat} (hx : arr.toList = xs) (hl : xs.length = n * sz) : Tells (Blk b (.cells arr t fr) :: F) (SlT sz ⟨some ⟨b, 0, none⟩, n, m⟩ xs) := by
  subst hx
  rintro w f a ⟨g, k, hd, rfl, rfl, h2⟩
  refine ⟨hl, fun i hi => ⟨_, rfl, ?_⟩⟩
  have : w.heap[b]? = some (.cells arr t fr) := a b _ (by simp [Frag.add, Frag.one])
  rw [add_mk]
  simp only [World.cell?, this, Nat.zero_add]
  have hi' : i < arr.size := by simpa using hi
  simp [hi']
theorem Tells.nil {F : List HP} {sz : Nat} : Tells F (SlT sz ⟨none, 0, 0⟩ []) := fun _ _ _ _ => ⟨by simp, fun i hi => by simp at hi⟩
/-- an element of a slice is read, as any world of the frame has it -/
theorem Idx.rdT {E w : World} {F : List HP} {sz : Nat} {s : Sl} {xs : List Value} {i : Int} {K : Addr → Prop} (hh : Hp E w F) (hs : Tells F (SlT sz s xs)) (hz : 0 < sz) (h0 : 0 ≤ i) (h1 : i < (s.len : Int))
    (h : ∀ p, (∀ j, j < sz → Tells F (fun w => w.cell? (p.add j) = xs[i.toNat * sz + j]?)) → K p) : Idx s i sz K := by
  have hs1 := hh.tells hs
  have hlt : i.toNat < s.len := by omega
  have hmul : i.toNat * sz + sz ≤ s.len * sz := by
    have : (i.toNat + 1) * sz ≤ s.len * sz := Nat.mul_le_mul_right _ hlt
    rw [Nat.succ_mul] at this; exact this
  have hx : xs.length = s.len * sz := hs1.1
  obtain ⟨p, hp, _⟩ := hs1.2 (i.toNat * sz) (by omega)
  refine ⟨p, hp, h0, h1, h _ fun j hj => hs.imp fun w' hs' => ?_⟩
  obtain ⟨q, hq, hc⟩ := hs'.2 (i.toNat * sz + j) (by omega)
  have : q = p := Option.some.inj (hq.symm.trans hp)
  subst this
  rw [List.getElem?_eq_getElem (by omega), ← hc]
  congr 1
  unfold Addr.add
  by_cases e1 : i.toNat * sz = 0 <;> by_cases e2 : j = 0 <;> simp [e1, e2, Nat.add_assoc]
/-- a slice of an owned slice -/
theorem Slc.own {E w : World} {F : List HP} {s : Sl} {xs : List Value} {lo hi : Int} {K : Sl → Prop} (hh : Hp E w (OwnS 1 s xs :: F)) (h0 : 0 ≤ lo) (h1 : lo ≤ hi) (h2 : hi ≤ (s.len : Int))
    (h : ∀ s' : Sl, Hp E w (OwnS 1 s' ((xs.drop lo.toNat).take (hi.toNat - lo.toNat)) :: F) → s'.len = hi.toNat - lo.toNat → K s') : Slc s lo hi s.cap 1 K := by
  have hl := hh.ownLen
  have hc := hh.ownCap
  refine ⟨h0, h1, by omega, by omega, h _ ?_ rfl⟩
  rcases hh.ownOpen with ⟨rfl, rfl, hF⟩ | ⟨b, off, arr, t, e1, e2, e3, e4, hB⟩
  · simp only at h2
    have e1 : lo.toNat = 0 := by omega
    have e2 : hi.toNat = 0 := by omega
    simpa [e1, e2] using hh
  · have key : (if (s.cap : Int).toNat = lo.toNat then s.base else s.base.map (·.add (lo.toNat * 1))) = if s.cap = lo.toNat then s.base else some ⟨b, off + lo.toNat, none⟩ := by
      rw [Int.toNat_natCast, e1]
      simp only [Option.map_some, add_mk, Nat.mul_one]
    rw [key, Int.toNat_natCast]
    have hlen : ((xs.drop lo.toNat).take (hi.toNat - lo.toNat)).length = (hi.toNat - lo.toNat) * 1 := by simp [hl]; omega
    by_cases hcl : s.cap = lo.toNat
    · rw [if_pos hcl]
      refine hB.ownShut hlen e1 (by simp only; omega) (by simp only; omega) fun i hi' => ?_
      rw [hlen] at hi'; omega
    · rw [if_neg hcl]
      refine hB.ownShut hlen rfl (by simp only; omega) (by simp only; omega) fun i hi' => ?_
      have hi2 : lo.toNat + i < xs.length := by rw [hlen] at hi'; omega
      rw [Nat.add_assoc, e4 _ hi2]
      simp
/-- a slice of a slice that is read -/
theorem Slc.rd {w : World} {s : Sl} {xs : List Value} {lo hi mx : Int} {K : Sl → Prop} (hs : SlT 1 s xs w) (h0 : 0 ≤ lo) (h1 : lo ≤ hi) (h2 : hi ≤ (s.len : Int)) (h3 : hi ≤ mx) (h4 : mx ≤ (s.cap : Int))
    (h : ∀ s' : Sl, (∀ w', SlT 1 s xs w' → SlT 1 s' ((xs.drop lo.toNat).take (hi.toNat - lo.toNat)) w') → s'.len = hi.toNat - lo.toNat → K s') : Slc s lo hi mx 1 K := by
  have hl := hs.1
  refine ⟨h0, h1, h3, h4, h _ (fun w' hs' => ?_) rfl⟩
  have hlen : ((xs.drop lo.toNat).take (hi.toNat - lo.toNat)).length = (hi.toNat - lo.toNat) * 1 := by simp [hl]; omega
  refine ⟨hlen, fun i hi' => ?_⟩
  have hi2 : lo.toNat + i < xs.length := by rw [hlen] at hi'; omega
  obtain ⟨p, hp, hcell⟩ := hs'.2 _ hi2
  have hne : mx.toNat ≠ lo.toNat := by rw [hlen] at hi'; omega
  refine ⟨p.add lo.toNat, by simp [hne, hp], ?_⟩
  have : (p.add lo.toNat).add i = p.add (lo.toNat + i) := by
    unfold Addr.add
    by_cases e1 : lo.toNat = 0 <;> by_cases e2 : i = 0 <;> simp [e1, e2, Nat.add_assoc]
  rw [this, hcell]
  simp
end Go.Vc
